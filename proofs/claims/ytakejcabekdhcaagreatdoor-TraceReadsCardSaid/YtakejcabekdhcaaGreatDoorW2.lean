/- chars.Plain, chars.Quote: what each call returns. -/
import Derived.Test.YtakejcabekdhcaaGreatDoorW1
namespace Go.Proofs.YtakejcabekdhcaaGreatDoor
open Go.RowKit

def contB (c : Int) : Bool := decide (0 ≤ Lib.indexByte marks c.toNat.toUInt8)
theorem contains_any (c : Int) (w : World) (h0 : 0 ≤ c) (h1 : c < 128) : Calls Tryz.prog 46 #[.string ⟨#[95, 45, 46, 47, 44, 58, 43, 37, 64, 94]⟩, .int .i32 c] w fun e w' => e = .returned (.bool (contB c)) ∧ w = w' := by
  refine (Tryz.strings_ContainsRune_ascii ⟨#[95, 45, 46, 47, 44, 58, 43, 37, 64, 94]⟩ c w h0 h1).mono ?_
  rintro e w' ⟨rfl, rfl⟩
  exact ⟨rfl, rfl⟩
def okR (c : Int) : Bool := letB c || digB c || (decide (c ≤ 126) && contB c)

theorem indexByte_mem (l : Bs) (c : UInt8) : decide (0 ≤ Lib.indexByte l c) = l.contains c := by
  have hge : ∀ l : Bs, -1 ≤ Lib.indexByte l c := fun l => by
    induction l with
    | nil => simp [Lib.indexByte]
    | cons d r ih =>
      unfold Lib.indexByte
      split
      · omega
      · split <;> omega
  induction l with
  | nil => rfl
  | cons d r ih =>
    unfold Lib.indexByte
    by_cases hd : (d == c) = true
    · rw [if_pos hd]
      have : d = c := beq_iff_eq.1 hd
      subst this
      simp
    · rw [if_neg hd]
      have hdc : d ≠ c := fun e => hd (by rw [e]; simp)
      rw [List.contains_cons, ← ih]
      have h1 : (c == d) = false := beq_eq_false_iff_ne.2 (fun e => hdc e.symm)
      rw [h1, Bool.false_or]
      have := hge r
      by_cases hm : (Lib.indexByte r c == -1) = true
      · have e : Lib.indexByte r c = -1 := beq_iff_eq.1 hm
        rw [if_pos hm, e]
      · rw [if_neg hm]
        have e : Lib.indexByte r c ≠ -1 := fun e => hm (by rw [e]; rfl)
        rw [decide_eq_decide]
        omega

theorem okR_byte (b : UInt8) : okR b.toNat = okB b := by
  unfold okR okB contB
  rw [indexByte_mem]
  have e : ((b.toNat : Int)).toNat.toUInt8 = b := by
    rw [Int.toNat_natCast]
    exact UInt8.ofNat_toNat
  rw [e]
  by_cases h : (b.toNat : Int) ≤ 126
  · rw [decide_eq_true h, Bool.true_and]
  · rw [decide_eq_false h, Bool.false_and, Bool.or_false]
    have : marks.contains b = false := by
      cases hm : marks.contains b with
      | false => rfl
      | true =>
        have hm' : b ∈ marks := by simpa using hm
        simp only [marks, List.mem_cons, List.not_mem_nil, or_false] at hm'
        rcases hm' with rfl | rfl | rfl | rfl | rfl | rfl | rfl | rfl | rfl | rfl <;> exact absurd (by decide) h
    rw [this, Bool.or_false]

theorem data_get (s : ByteArray) (i : Nat) (h : i < s.size) (h' : i < s.data.toList.length) : s.data.toList[i] = s[i] := rfl
theorem len_data (s : ByteArray) : s.data.toList.length = s.size := (Lib.size_eq s).symm

theorem plain_more {s : ByteArray} {pos : Nat} (hp : pos < s.size) (hacc : (s.data.toList.take pos).all okB = true) (hb : okB s[pos] = true) : (s.data.toList.take (pos + 1)).all okB = true := by
  have h' : pos < s.data.toList.length := by rw [len_data]; exact hp
  rw [List.take_succ_eq_append_getElem h', List.all_append, hacc]
  simp only [List.all_cons, List.all_nil, Bool.and_true, Bool.true_and]
  exact hb
theorem plain_stop {s : ByteArray} {pos : Nat} (hp : pos < s.size) (hb : okB s[pos] = false) : false = plainS s.data.toList := by
  have h' : pos < s.data.toList.length := by rw [len_data]; exact hp
  have hm : s[pos] ∈ s.data.toList := List.getElem_mem h'
  have : s.data.toList.all okB = false := by
    cases ha : s.data.toList.all okB with
    | false => rfl
    | true => rw [List.all_eq_true.1 ha _ hm] at hb; cases hb
  unfold plainS
  rw [this, Bool.and_false]
theorem plain_end {s : ByteArray} {pos : Nat} (hp : ¬ pos < s.size) (hacc : (s.data.toList.take pos).all okB = true) : (!s.data.toList.isEmpty) = plainS s.data.toList := by
  rw [List.take_of_length_le (by rw [len_data]; omega)] at hacc
  unfold plainS
  rw [hacc, Bool.and_true]
theorem high_bad {s : ByteArray} {pos : Nat} (hp : pos < s.size) (ha : ¬ (s[pos]).toNat < 128) : okB s[pos] = false := by
  rw [← okR_byte]
  unfold okR letB digB
  rw [decide_eq_false (by omega), decide_eq_false (by omega), decide_eq_false (by omega)]
  rfl

set_option maxHeartbeats 4000000 in
set_option maxRecDepth 1000000 in
theorem plain_any (s : ByteArray) (w : World) (hs : s.size ≤ maxLen) : Calls Tryz.prog 31 #[.string s] w fun e w' => e = .returned (.bool (plainS s.data.toList)) ∧ Below w.heap.size w w' := by
  go_enter Tryz.func31, Tryz.ntmps31
  go_wp2
  go_loopw [] (fun wr => ∃ (pos : Nat), wr.heap[w.heap.size]? = some (.stringIter s pos) ∧ Below w.heap.size w wr ∧ pos ≤ s.size ∧ (s.data.toList.take pos).all okB = true) (fun wr => s.size - wr.iterPos w.heap.size)
  case atStart =>
    refine ⟨0, World.iter_heap w s 0, (Below.refl _ w).alloc (Nat.le_refl _) _, Nat.zero_le _, by simp⟩
  case round =>
    obtain ⟨pos, hit, hbw, hps, hacc⟩ := hrel
    by_cases hp : pos < s.size
    · have hnx : ∀ ty, (Instr.next (.pointer (some ⟨w.heap.size, 0, none⟩)) true ty).run Tryz.prog wr = _ := fun ty => Lib.run_next_any_at wr w.heap.size s pos ty hit hp
      have hit2 := Lib.iterAt_heap wr w.heap.size s pos (pos + (Utf8.decode s pos).2) hit
      have hbw2 := Lib.below_iterAt hbw (k := w.heap.size) (Nat.le_refl _) s (pos + (Utf8.decode s pos).2)
      by_cases ha : (s[pos]).toNat < 128
      · rw [decode_ascii s pos hp ha] at hnx hit2 hbw2
        have hb := okR_byte s[pos]
        have hmore := plain_more hp hacc
        have hstop := plain_stop hp
        rw [← hb] at hmore hstop
        have hL := Lib.hid (fun W => letter_any ((s[pos]).toNat : Int) W)
        have hD := Lib.hid (fun W => digit_any ((s[pos]).toNat : Int) W)
        have hC := Lib.hid (fun W => contains_any ((s[pos]).toNat : Int) W (by omega) (by omega))
        unfold okR at hmore hstop
        clear hb
        generalize hlb : letB ((s[pos]).toNat : Int) = bl at *
        generalize hdb : digB ((s[pos]).toNat : Int) = bd at *
        generalize hcb : contB ((s[pos]).toNat : Int) = bc at *
        clear hlb hdb hcb
        generalize (s[pos]).toNat = n at *
        by_cases h126 : (n : Int) ≤ 126
        · rw [decide_eq_true h126] at hmore hstop
          replace hmore := Lib.hid hmore
          replace hstop := Lib.hid hstop
          cases bl <;> cases bd <;> cases bc <;> (
            go_wp2_with (first | (go_at_call 44; refine (hL.out _).mono ?_; rintro e w' ⟨rfl, rfl⟩) | (go_at_call 45; refine (hD.out _).mono ?_; rintro e w' ⟨rfl, rfl⟩) | (go_at_call 46; refine (hC.out _).mono ?_; rintro e w' ⟨rfl, rfl⟩))
            first
              | (go_ret; exact ⟨ret_bool (hstop.out rfl), hbw2⟩)
              | (go_roundw
                 case rel => exact ⟨pos + 1, hit2, hbw2, by omega, hmore.out rfl⟩
                 case measure => simp only [World.iterPos, hit2, hit]; omega))
        · rw [decide_eq_false h126] at hmore hstop
          replace hmore := Lib.hid hmore
          replace hstop := Lib.hid hstop
          cases bl <;> cases bd <;> cases bc <;> (
            go_wp2_with (first | (go_at_call 44; refine (hL.out _).mono ?_; rintro e w' ⟨rfl, rfl⟩) | (go_at_call 45; refine (hD.out _).mono ?_; rintro e w' ⟨rfl, rfl⟩) | (go_at_call 46; refine (hC.out _).mono ?_; rintro e w' ⟨rfl, rfl⟩))
            first
              | (go_ret; exact ⟨ret_bool (hstop.out rfl), hbw2⟩)
              | (go_roundw
                 case rel => exact ⟨pos + 1, hit2, hbw2, by omega, hmore.out rfl⟩
                 case measure => simp only [World.iterPos, hit2, hit]; omega))
      · have hh := (decode_high s pos hp (by omega)).1
        have hstop := Lib.hid (plain_stop hp (high_bad hp ha))
        have hL := Lib.hid (fun W => letter_any ((Utf8.decode s pos).1 : Int) W)
        have hD := Lib.hid (fun W => digit_any ((Utf8.decode s pos).1 : Int) W)
        have e1 : letB ((Utf8.decode s pos).1 : Int) = false := by unfold letB; exact decide_eq_false (by omega)
        have e2 : digB ((Utf8.decode s pos).1 : Int) = false := by unfold digB; exact decide_eq_false (by omega)
        rw [e1] at hL
        rw [e2] at hD
        clear e1 e2 hit2
        generalize (Utf8.decode s pos).2 = wd at *
        generalize (Utf8.decode s pos).1 = n at *
        have hn : (126 : Int) < n := by omega
        go_wp2_with (first | (go_at_call 44; refine (hL.out _).mono ?_; rintro e w' ⟨rfl, rfl⟩) | (go_at_call 45; refine (hD.out _).mono ?_; rintro e w' ⟨rfl, rfl⟩))
        go_ret
        exact ⟨ret_bool hstop.out, hbw2⟩
    · have hnx : ∀ ty, (Instr.next (.pointer (some ⟨w.heap.size, 0, none⟩)) true ty).run Tryz.prog wr = _ := fun ty => Lib.run_next_end_at wr w.heap.size s pos ty hit hp
      have hend := Lib.hid (plain_end hp hacc)
      go_wp2
      go_ret
      refine ⟨ret_bool ?_, hbw⟩
      rw [← hend.out, ← Lib.toList_data]

/-! Replacing -/
theorem count_none {l : Bs} (h : (39 : UInt8) ∉ l) : Lib.countByte l 39 = 0 := by
  unfold Lib.countByte
  exact List.count_eq_zero.2 h

set_option maxHeartbeats 1000000 in
theorem replace_none (s : ByteArray) (w : World) (h : (39 : UInt8) ∉ s.data.toList) :
    Calls Tryz.prog 47 #[.string s, .string ⟨#[39]⟩, .string ⟨#[39, 92, 39, 39]⟩, .int .i64 (-1)] w fun e w' => e = .returned (.string s) ∧ w = w' := by
  have hC : Hid (∀ W, Calls Tryz.prog 68 #[.string s, .string ⟨#[39]⟩] W fun e w' => e = .returned (.int .i64 0) ∧ w' = W) := fun W => by
    have := Tryz.strings_Count_one s 39 W
    rw [count_none h] at this
    exact this
  clear h
  go_enter Tryz.func47, Tryz.ntmps47
  go_wp2_with (go_at_call 68; refine (hC.out _).mono ?_; rintro e w' ⟨rfl, rfl⟩)
  go_ret
  exact ⟨rfl, rfl⟩
theorem replaceAll_none (s : ByteArray) (w : World) (h : (39 : UInt8) ∉ s.data.toList) :
    Calls Tryz.prog 32 #[.string s, .string ⟨#[39]⟩, .string ⟨#[39, 92, 39, 39]⟩] w fun e w' => e = .returned (.string ⟨(escS s.data.toList).toArray⟩) ∧ Below w.heap.size w w' := by
  have hR := Lib.hid (fun W => replace_none s W h)
  have he : Hid (s = ⟨(escS s.data.toList).toArray⟩) := by rw [escS_none h]; rfl
  clear h
  go_enter Tryz.func32, Tryz.ntmps32
  go_wp2_with (go_at_call 47; refine (hR.out _).mono ?_; rintro e w' ⟨rfl, rfl⟩)
  go_ret
  exact ⟨ret_str he.out, Below.refl _ _⟩

/-- What ReplaceAll is asked for. -/
def ReplOk (s : ByteArray) (w : World) : Prop := ∀ W, Below w.heap.size w W → Calls Tryz.prog 32 #[.string s, .string ⟨#[39]⟩, .string ⟨#[39, 92, 39, 39]⟩] W fun e w' => e = .returned (.string ⟨(escS s.data.toList).toArray⟩) ∧ Below W.heap.size W w'

def quoteB (s : ByteArray) : ByteArray := ⟨(quoteS s.data.toList).toArray⟩
theorem quoteB_plain {s : ByteArray} (h : plainS s.data.toList = true) : s = quoteB s := by
  unfold quoteB quoteS
  rw [h]
  rfl

set_option maxHeartbeats 1000000 in
theorem quote_any (s : ByteArray) (w : World) (hs : s.size ≤ 1000) (hR : ReplOk s w) : Calls Tryz.prog 20 #[.string s] w fun e w' => e = .returned (.string (quoteB s)) ∧ Below w.heap.size w w' := by
  have hP := Lib.hid (fun W => plain_any s W (by unfold maxLen; omega))
  have hR := Lib.hid hR
  cases hp : plainS s.data.toList with
  | true =>
    have hq := Lib.hid (quoteB_plain hp)
    rw [hp] at hP
    go_enter Tryz.func20, Tryz.ntmps20
    go_wp2_with (go_at_call 31; refine (hP.out _).mono ?_; rintro e w1 ⟨rfl, hb1⟩; have Hb1 := Lib.hid hb1; clear hb1)
    go_ret
    exact ⟨ret_str hq.out, Hb1.out⟩
  | false =>
    have hq : Hid ((⟨(39 :: (escS s.data.toList ++ [39])).toArray⟩ : ByteArray) = quoteB s) := by
      unfold quoteB quoteS
      rw [hp]
      rfl
    have hl := escS_length s.data.toList
    rw [len_data] at hl
    rw [hp] at hP
    clear hp
    have hl : (escS s.data.toList).length ≤ 4000 := by omega
    go_enter Tryz.func20, Tryz.ntmps20
    go_wp2_with (first | (go_at_call 31; refine (hP.out _).mono ?_; rintro e w1 ⟨rfl, hb1⟩; have Hb1 := Lib.hid hb1; clear hb1) | (go_at_call 32; refine (hR.out _ Hb1.out).mono ?_; rintro e w2 ⟨rfl, hb2⟩; have Hb2 := Lib.hid hb2; clear hb2))
    all_goals first
      | (exfalso; omega)
      | (go_ret
         refine ⟨ret_str (Eq.trans ?_ hq.out), Hb1.out.trans (Hb2.out.mono Hb1.out.size)⟩
         apply ByteArray.ext
         simp)

end Go.Proofs.YtakejcabekdhcaaGreatDoor
