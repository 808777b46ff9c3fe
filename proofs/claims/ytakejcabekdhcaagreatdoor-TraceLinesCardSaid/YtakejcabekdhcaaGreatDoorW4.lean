/- The reference's Has, Plain, Quote and Line: what each call returns. -/
import Derived.Test.YtakejcabekdhcaaGreatDoorW3
namespace Go.Proofs.YtakejcabekdhcaaGreatDoor
open Go.RowKit

theorem take_more {s : ByteArray} {k : Nat} {c : UInt8} (hk : k < s.size) (hn : c ∉ s.data.toList.take k) (he : ((s[k].toNat : Int) == (c.toNat : Int)) = false) : c ∉ s.data.toList.take (k + 1) := by
  have h' : k < s.data.toList.length := by rw [len_data]; exact hk
  rw [List.take_succ_eq_append_getElem h']
  intro hm
  rcases List.mem_append.1 hm with hm | hm
  · exact hn hm
  · have : c = s[k] := List.mem_singleton.1 hm
    rw [this] at he
    simp at he
theorem take_hit {s : ByteArray} {k : Nat} {c : UInt8} (hk : k < s.size) (he : ((s[k].toNat : Int) == (c.toNat : Int)) = true) : true = s.data.toList.contains c := by
  have h' : k < s.data.toList.length := by rw [len_data]; exact hk
  have e : s[k] = c := UInt8.toNat_inj.1 (by have := eq_of_beq he; omega)
  have : c ∈ s.data.toList := by rw [← e]; exact List.getElem_mem h'
  simpa using this
theorem take_none {s : ByteArray} {k : Nat} {c : UInt8} (hk : ¬ k < s.size) (hn : c ∉ s.data.toList.take k) : false = s.data.toList.contains c := by
  rw [List.take_of_length_le (by rw [len_data]; omega)] at hn
  symm
  simpa using hn

set_option maxHeartbeats 1000000 in
set_option maxRecDepth 100000 in
theorem refHas_any (s : ByteArray) (c : UInt8) (w : World) (hs : s.size ≤ 1000) : Calls Tryz.prog 49 #[.string s, .int .u8 c.toNat] w fun e w' => e = .returned (.bool (s.data.toList.contains c)) ∧ w = w' := by
  generalize hr : s.data.toList.contains c = r
  have Hr := Lib.hid hr
  clear hr
  go_enter Tryz.func49, Tryz.ntmps49
  go_wp2
  go_loop [5] (fun i => ∃ k : Nat, i = .int .i64 k ∧ k ≤ s.size ∧ Hid (c ∉ s.data.toList.take k)) (fun i => s.size - (Lib.intOf i).toNat)
  case atStart => exact ⟨0, rfl, Nat.zero_le _, by simp [Hid]⟩
  case round =>
    obtain ⟨k, rfl, hk, hn⟩ := hrel
    by_cases hlt : k < s.size
    · cases he : ((s[k].toNat : Int) == (c.toNat : Int)) with
      | true =>
        have ht := Lib.hid ((take_hit hlt he).trans Hr.out)
        go_wp2
        go_ret
        exact ⟨ret_bool ht.out, rfl⟩
      | false =>
        have ht := Lib.hid (take_more hlt hn.out he)
        go_wp2
        go_round
        case rel => exact ⟨k + 1, by go_num, by omega, ht⟩
        case measure => simp [Lib.intOf]; omega
    · have ht := Lib.hid ((take_none hlt hn.out).trans Hr.out)
      go_wp2
      go_ret
      exact ⟨ret_bool ht.out, rfl⟩

/-! Plain -/
def marks9 : Bs := [45, 46, 47, 44, 58, 43, 37, 64, 94]
theorem okB_ref (c : UInt8) : okB c = (wordB c.toNat || marks9.contains c) := by
  unfold okB wordB
  have : marks.contains c = (decide ((c.toNat : Int) = 95) || marks9.contains c) := by
    show ((95 :: marks9).contains c) = _
    rw [List.contains_cons]
    congr 1
    rw [Bool.eq_iff_iff]
    simp only [beq_iff_eq, decide_eq_true_eq]
    constructor
    · rintro rfl; rfl
    · intro h
      exact UInt8.toNat_inj.1 (by have : (95 : UInt8).toNat = 95 := rfl; omega)
  rw [this]
  cases letB c.toNat <;> cases digB c.toNat <;> cases decide ((c.toNat : Int) = 95) <;> rfl

set_option maxHeartbeats 4000000 in
set_option maxRecDepth 100000 in
theorem refPlain_any (s : ByteArray) (w : World) (hs : s.size ≤ 1000) : Calls Tryz.prog 33 #[.string s] w fun e w' => e = .returned (.bool (plainS s.data.toList)) ∧ w = w' := by
  go_enter Tryz.func33, Tryz.ntmps33
  go_wp2
  go_loop [3] (fun i => ∃ k : Nat, i = .int .i64 k ∧ k ≤ s.size ∧ Hid ((s.data.toList.take k).all okB = true)) (fun i => s.size - (Lib.intOf i).toNat)
  case atStart => exact ⟨0, rfl, Nat.zero_le _, by simp [Hid]⟩
  case round =>
    obtain ⟨k, rfl, hk, hn⟩ := hrel
    by_cases hlt : k < s.size
    · have hmore := plain_more hlt hn.out
      have hstop := plain_stop hlt
      have hW := Lib.hid (fun W => refWord_any (s[k].toNat : Int) W)
      have hH := Lib.hid (fun W => refHas_any ⟨#[45, 46, 47, 44, 58, 43, 37, 64, 94]⟩ s[k] W (by decide))
      have e9 : (⟨#[45, 46, 47, 44, 58, 43, 37, 64, 94]⟩ : ByteArray).data.toList = marks9 := rfl
      rw [e9] at hH
      rw [okB_ref] at hmore hstop
      generalize wordB (s[k].toNat : Int) = bw at *
      generalize marks9.contains s[k] = bm at *
      replace hmore := Lib.hid hmore
      replace hstop := Lib.hid hstop
      clear e9
      cases bw <;> cases bm <;> (
        go_wp2_with (first | (go_at_call 48; refine (hW.out _).mono ?_; rintro e w' ⟨rfl, rfl⟩) | (go_at_call 49; refine (hH.out _).mono ?_; rintro e w' ⟨rfl, rfl⟩))
        first
          | (go_ret; exact ⟨ret_bool (hstop.out rfl), rfl⟩)
          | (go_round
             case rel => exact ⟨k + 1, by go_num, by omega, hmore.out rfl⟩
             case measure => simp [Lib.intOf]; omega))
    · have hend := Lib.hid (plain_end hlt hn.out)
      go_wp2
      go_ret
      refine ⟨ret_bool ?_, rfl⟩
      rw [← hend.out, ← Lib.toList_data]

/-! Quote -/
def escTo (s : ByteArray) (k : Nat) : ByteArray := ⟨(39 :: escS (s.data.toList.take k)).toArray⟩
theorem escTo_quote {s : ByteArray} {k : Nat} (hk : k < s.size) (he : ((s[k].toNat : Int) == 39) = true) : escTo s k ++ ⟨#[39, 92, 39, 39]⟩ = escTo s (k + 1) := by
  have h' : k < s.data.toList.length := by rw [len_data]; exact hk
  have e : s.data.toList[k] = 39 := UInt8.toNat_inj.1 (by have := eq_of_beq he; have h2 : (39 : UInt8).toNat = 39 := rfl; have h3 : s.data.toList[k].toNat = s[k].toNat := rfl; omega)
  unfold escTo escS
  rw [List.take_succ_eq_append_getElem h', List.flatMap_append, e]
  apply ByteArray.ext
  simp
theorem escTo_other {s : ByteArray} {k : Nat} (hk : k < s.size) (he : ((s[k].toNat : Int) == 39) = false) : escTo s k ++ s.extract k (k + 1) = escTo s (k + 1) := by
  have h' : k < s.data.toList.length := by rw [len_data]; exact hk
  have e : (s.data.toList[k] == 39) = false := by
    refine beq_eq_false_iff_ne.2 fun e => ?_
    have h3 : s.data.toList[k].toNat = s[k].toNat := rfl
    rw [e] at h3
    have h2 : (39 : UInt8).toNat = 39 := rfl
    rw [← h3, h2] at he
    simp at he
  have hx : (s.extract k (k + 1)).data.toList = [s.data.toList[k]] := by
    rw [Lib.extract_data]
    rw [List.drop_eq_getElem_cons h', show k + 1 - k = 1 by omega]
    rfl
  unfold escTo escS
  rw [List.take_succ_eq_append_getElem h', List.flatMap_append]
  apply ByteArray.ext
  apply Array.toList_inj.1
  rw [ByteArray.data_append, Array.toList_append, hx]
  simp
  exact beq_eq_false_iff_ne.1 e
theorem escTo_size (s : ByteArray) (k : Nat) (hs : s.size ≤ 1000) : (escTo s k).size ≤ 4001 := by
  have h1 := escS_length (s.data.toList.take k)
  have h2 : (s.data.toList.take k).length ≤ 1000 := by rw [List.length_take, len_data]; omega
  show (39 :: escS (s.data.toList.take k)).toArray.size ≤ 4001
  simp
  omega
theorem escTo_all {s : ByteArray} {k : Nat} (hk : ¬ k < s.size) (hp : plainS s.data.toList = false) : escTo s k ++ ⟨#[39]⟩ = quoteB s := by
  unfold escTo quoteB quoteS
  rw [List.take_of_length_le (by rw [len_data]; omega), hp]
  apply ByteArray.ext
  simp

set_option maxHeartbeats 4000000 in
set_option maxRecDepth 100000 in
theorem refQuote_any (s : ByteArray) (w : World) (hs : s.size ≤ 1000) : Calls Tryz.prog 22 #[.string s] w fun e w' => e = .returned (.string (quoteB s)) ∧ w = w' := by
  have hP := Lib.hid (fun W => refPlain_any s W hs)
  cases hp : plainS s.data.toList with
  | true =>
    have hq := Lib.hid (quoteB_plain hp)
    rw [hp] at hP
    go_enter Tryz.func22, Tryz.ntmps22
    go_wp2_with (go_at_call 33; refine (hP.out _).mono ?_; rintro e w' ⟨rfl, rfl⟩)
    go_ret
    exact ⟨ret_str hq.out, rfl⟩
  | false =>
    rw [hp] at hP
    have Hp := Lib.hid hp
    clear hp
    go_enter Tryz.func22, Tryz.ntmps22
    go_wp2_with (go_at_call 33; refine (hP.out _).mono ?_; rintro e w' ⟨rfl, rfl⟩)
    go_loop [3, 4] (fun o i => ∃ k : Nat, o = .string (escTo s k) ∧ i = .int .i64 k ∧ k ≤ s.size) (fun _ i => s.size - (Lib.intOf i).toNat)
    case atStart => exact ⟨0, rfl, rfl, Nat.zero_le _⟩
    case round =>
      obtain ⟨k, rfl, rfl, hk⟩ := hrel
      have hsz := escTo_size s k hs
      by_cases hlt : k < s.size
      · cases he : ((s[k].toNat : Int) == 39) with
        | true =>
          have ht := Lib.hid (escTo_quote hlt he)
          generalize escTo s k = a at *
          go_wp2
          all_goals first
            | (exfalso; omega)
            | (go_round
               case rel => exact ⟨k + 1, by rw [← ht.out], by go_num, by omega⟩
               case measure => simp [Lib.intOf]; omega)
        | false =>
          have ht := Lib.hid (escTo_other hlt he)
          generalize escTo s k = a at *
          go_wp2
          all_goals first
            | (exfalso; omega)
            | (go_round
               case rel => exact ⟨k + 1, by rw [← ht.out], by go_num, by omega⟩
               case measure => simp [Lib.intOf]; omega)
      · have ht := Lib.hid (escTo_all hlt Hp.out)
        generalize escTo s k = a at *
        go_wp2
        all_goals first
          | (exfalso; omega)
          | (go_ret; exact ⟨ret_str ht.out, rfl⟩)

/-! Line -/
def lineB (ss : List ByteArray) (k : Nat) : ByteArray := ⟨(lineTo (bytesOf ss) k).toArray⟩
theorem lineB_succ (ss : List ByteArray) (k : Nat) (h : k < ss.length) : lineB ss k ++ (⟨#[32]⟩ ++ quoteB ss[k]) = lineB ss (k + 1) := by
  have h' : k < (bytesOf ss).length := by unfold bytesOf; rw [List.length_map]; exact h
  unfold lineB
  rw [lineTo_succ _ _ h']
  apply ByteArray.ext
  simp [quoteB, bytesOf]
theorem lineB_size (ss : List ByteArray) (hz : ∀ s ∈ ss, s.size ≤ 1000) (k : Nat) : (lineB ss k).size ≤ 1 + 5000 * k := by
  have := lineTo_length (bytesOf ss) (fun f hf => by
    obtain ⟨s, hs, rfl⟩ := List.mem_map.1 hf
    rw [len_data]
    exact hz s hs) k
  show (lineTo (bytesOf ss) k).toArray.size ≤ _
  simpa using this

set_option maxHeartbeats 4000000 in
set_option maxRecDepth 100000 in
theorem refLine_any (ss : List ByteArray) (A : Option Addr) (n cap : Nat) (w : World) (hA : Strs w w.heap.size A n ss) (hn : n ≤ 100) (hz : ∀ s ∈ ss, s.size ≤ 1000) :
    Calls Tryz.prog 7 #[.slice A n cap] w fun e w' => e = .returned (.string ⟨(lineS (bytesOf ss)).toArray⟩) ∧ w = w' := by
  obtain rfl := hA.1
  have HA := Lib.hid hA
  have HZ := Lib.hid (lineB_size ss hz)
  clear hA
  go_enter Tryz.func7, Tryz.ntmps7
  go_wp2
  go_loop [3, 8] (fun o i => ∃ k : Nat, o = .string (lineB ss k) ∧ i = .int .i64 k ∧ k ≤ ss.length) (fun _ i => ss.length - (Lib.intOf i).toNat)
  case atStart => exact ⟨0, rfl, rfl, Nat.zero_le _⟩
  case round =>
    obtain ⟨k, rfl, rfl, hk⟩ := hrel
    have hsz := HZ.out k
    by_cases hkn : k < ss.length
    · obtain ⟨b, off, rfl, hb, hc⟩ := HA.out.2 (by omega)
      have hcell := hc k hkn
      have hsk : ss[k].size ≤ 1000 := hz _ (List.getElem_mem hkn)
      have hqs := quoteB_size _ hsk
      have hQ := Lib.hid (fun W => refQuote_any ss[k] W hsk)
      have ht := Lib.hid (lineB_succ ss k hkn)
      clear hc
      generalize ss[k] = f at *
      generalize quoteB f = qf at *
      generalize lineB ss k = a at *
      go_wp2_with (go_at_call 22; refine (hQ.out _).mono ?_; rintro e w' ⟨rfl, rfl⟩)
      all_goals first
        | (exfalso; simp at *; omega)
        | (go_round
           case rel => exact ⟨k + 1, by rw [← ht.out], by go_num, by omega⟩
           case measure => simp [Lib.intOf]; omega)
    · have hl : Hid (lineB ss k = ⟨(lineS (bytesOf ss)).toArray⟩) := by
        unfold lineB
        rw [lineTo_all (bytesOf ss) k (by unfold bytesOf; rw [List.length_map]; omega)]
        rfl
      have hke : k = ss.length := by omega
      generalize lineB ss k = a at *
      clear hkn
      subst hke
      go_wp2
      go_ret
      exact ⟨ret_str hl.out, rfl⟩

end Go.Proofs.YtakejcabekdhcaaGreatDoor
