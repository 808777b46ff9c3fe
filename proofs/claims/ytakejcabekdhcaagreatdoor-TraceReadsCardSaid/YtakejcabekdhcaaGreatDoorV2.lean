/- texts at equal lists; Output: what each call returns. -/
import Derived.Test.YtakejcabekdhcaaGreatDoorV1
namespace Go.Proofs.YtakejcabekdhcaaGreatDoor
open Go.RowKit

theorem below_drewN {N : Nat} {w wr : World} (h : Below N w wr) (k : Nat) : Below N w (wr.drewN k) := by
  induction k with
  | zero => exact h
  | succ k ih => exact ih.drew

set_option maxHeartbeats 4000000 in
set_option maxRecDepth 100000 in
theorem texts_any (l : List ByteArray) (V V' : Option Addr) (c1 c2 : Nat) (w : World) (h1 : Strs w w.heap.size V l.length l) (h2 : Strs w w.heap.size V' l.length l) (hl : l.length ≤ 60) :
    Calls Tryz.prog 9 #[.slice V l.length c1, .slice V' l.length c2] w fun e w' => e = .returned (.bool true) ∧ Below w.heap.size w w' := by
  have H1 := Lib.hid h1
  have H2 := Lib.hid h2
  clear h1 h2
  go_enter Tryz.func9, Tryz.ntmps9
  go_wp2
  go_loopw [13] (fun i wr => ∃ k : Nat, k ≤ l.length ∧ i = .int .i64 k ∧ Hid (Below w.heap.size w wr)) (fun i _ => l.length - (Lib.intOf i).toNat)
  case atStart => exact ⟨0, Nat.zero_le _, rfl, Below.refl _ _⟩
  case round =>
    obtain ⟨k, hk, rfl, Hb⟩ := hrel
    by_cases hkl : k < l.length
    · obtain ⟨b, off, hV, hb, hc⟩ := (H1.out.below Hb.out).2 (by omega)
      obtain ⟨b', off', hV', hb', hc'⟩ := (H2.out.below Hb.out).2 (by omega)
      have a1 := hc k hkl
      have a2 := hc' k hkl
      have p1 : (k : Int) < (l.length : Int) := by omega
      have p2 : (0 : Int) ≤ (k : Int) := by omega
      clear hc hc'
      generalize l[k] = s at *
      rw [hV, hV']
      clear hV hV'
      go_wp2
      go_quiet (fail)
      go_wp2
      exact ⟨⟨k + 1, by omega, by go_num, below_drewN Hb.out _⟩, by simp [Lib.intOf]; omega⟩
    · go_wp2
      go_ret
      exact ⟨rfl, Hb.out⟩

/-! Output -/
def outE (pid : Int) (e : Evn) : Bool := e.kind == 6 && (e.pid == pid && e.n == 1)
def outTo (es : List Evn) (pid : Int) (k : Nat) : Bs := ((es.take k).filter (outE pid)).flatMap fun e => e.text.data.toList
theorem outTo_hit (es : List Evn) (pid : Int) (k : Nat) (h : k < es.length) (he : outE pid es[k] = true) : outTo es pid (k + 1) = outTo es pid k ++ es[k].text.data.toList := by
  unfold outTo
  rw [List.take_succ_eq_append_getElem h, List.filter_append, List.flatMap_append]
  simp [he]
theorem outTo_miss (es : List Evn) (pid : Int) (k : Nat) (h : k < es.length) (he : outE pid es[k] = false) : outTo es pid (k + 1) = outTo es pid k := by
  unfold outTo
  rw [List.take_succ_eq_append_getElem h, List.filter_append, List.flatMap_append]
  simp [he]
theorem outTo_length (es : List Evn) (pid : Int) (hz : ∀ e ∈ es, e.text.size ≤ 200) : ∀ k, (outTo es pid k).length ≤ 200 * k := by
  intro k
  induction k with
  | zero => simp [outTo]
  | succ k ih =>
    by_cases h : k < es.length
    · have h2 := hz es[k] (List.getElem_mem h)
      cases he : outE pid es[k] with
      | true =>
        rw [outTo_hit es pid k h he, List.length_append, len_data]
        omega
      | false => rw [outTo_miss es pid k h he]; omega
    · have : outTo es pid (k + 1) = outTo es pid k := by
        unfold outTo
        rw [List.take_of_length_le (by omega), List.take_of_length_le (by omega)]
      rw [this]; omega
def ORel (es : List Evn) (pid : Int) (w : World) (i : Value) (wr : World) : Prop :=
  ∃ k : Nat, i = .int .i64 k ∧ k ≤ es.length ∧ Lib.IsBuilder 44 5 w.heap.size w.heap.size (Lib.byteCells (outTo es pid k)) wr ∧ Below w.heap.size w wr ∧ w.heap.size < wr.heap.size

set_option maxHeartbeats 4000000 in
set_option maxRecDepth 100000 in
theorem output_any (es : List Evn) (A : Option Addr) (n cap : Nat) (pid : Int) (w : World) (hA : Evs w w.heap.size A n es) (hn : n ≤ 60) (hz : ∀ e ∈ es, e.text.size ≤ 200) :
    Calls Tryz.prog 12 #[.slice A n cap, .int .i64 pid] w fun e w' => e = .returned (.string ⟨(outTo es pid n).toArray⟩) ∧ Below w.heap.size w w' := by
  obtain rfl := hA.1
  have HA := Lib.hid hA
  have HL := Lib.hid (outTo_length es pid hz)
  have HZ := Lib.hid hz
  clear hA hz
  go_enter Tryz.func12, Tryz.ntmps12
  go_wp2
  go_loopw [10] (fun i wr => ORel es pid w i wr) (fun i wr => es.length - (Lib.intOf i).toNat)
  case atStart => exact ⟨0, rfl, Nat.zero_le _, Lib.fresh_isBuilder 44 5 w, (Below.refl _ w).alloc (Nat.le_refl _) _, by simp⟩
  case round =>
    obtain ⟨k, rfl, hk, hI, hbw, hsz⟩ := hrel
    have hlt := HL.out k
    by_cases hkn : k < es.length
    · obtain ⟨b, off, rfl, hb, hc⟩ := (HA.out.below hbw).2 (by omega)
      obtain ⟨c0, c1, c2, c3, c4⟩ := hc k hkn
      have hbw' : b < wr.heap.size := Nat.lt_of_lt_of_le hb hbw.size
      have hsk := HZ.out _ (List.getElem_mem hkn)
      have HI := Lib.hid (fun o => IsBuilder_below hI ((Below.refl wr.heap.size wr).alloc (Nat.le_refl _) o))
      have Hb := Lib.hid hbw
      have hhit := outTo_hit es pid k hkn
      have hmiss := outTo_miss es pid k hkn
      clear hc hI hbw
      generalize es[k] = f at *
      obtain ⟨p, kind, pos, en, text⟩ := f
      simp only [outE] at c0 c1 c2 c3 c4 hsk hhit hmiss
      generalize hk6 : (kind == 6) = b1 at *
      generalize hp1 : (p == pid) = b2 at *
      generalize hn1 : (en == 1) = b3 at *
      replace hhit := Lib.hid hhit
      replace hmiss := Lib.hid hmiss
      generalize outTo es pid k = acc at *
      cases b1 <;> cases b2 <;> cases b3 <;> (
        go_wp2_with (go_at_call 19; refine (Tryz.Builder_WriteString w.heap.size w.heap.size _ text _ (HI.out _) (by rw [Lib.byteCells_length]; omega) (by simp; omega)).mono ?_; rintro e w4 ⟨rfl, hB4, hb4⟩; have HB4 := Lib.hid hB4; have Hb4 := Lib.hid hb4; clear hB4 hb4)
        first
          | (refine ⟨⟨k + 1, by go_num, by omega, ?_, Hb.out.alloc Hb.out.size _, by simp; omega⟩, by simp [Lib.intOf]; omega⟩
             rw [hmiss.out rfl]
             exact HI.out _)
          | (have h4 := Hb4.out.size
             simp at h4
             refine ⟨⟨k + 1, by go_num, by omega, ?_, (Hb.out.alloc Hb.out.size _).trans Hb4.out, by omega⟩, by simp [Lib.intOf]; omega⟩
             rw [hhit.out rfl, Lib.byteCells_append]
             exact Or.inr HB4.out))
    · have hke : k = es.length := by omega
      have HI := Lib.hid hI
      have Hbw := Lib.hid hbw
      clear hI hbw
      subst hke
      go_wp2_with (go_at_call 21; refine (Tryz.Builder_String_any w.heap.size w.heap.size _ wr HI.out (by omega)).mono ?_; rintro e w2 ⟨rfl, hb2⟩; have Hb2 := Lib.hid hb2; clear hb2)
      go_ret
      exact ⟨rfl, Hbw.out.trans Hb2.out⟩

/-! The reference's Output -/
def outB (es : List Evn) (pid : Int) (k : Nat) : ByteArray := ⟨(outTo es pid k).toArray⟩
theorem outB_hit (es : List Evn) (pid : Int) (k : Nat) (h : k < es.length) (he : outE pid es[k] = true) : outB es pid k ++ es[k].text = outB es pid (k + 1) := by
  unfold outB
  rw [outTo_hit es pid k h he]
  apply ByteArray.ext
  apply Array.toList_inj.1
  simp
theorem outB_miss (es : List Evn) (pid : Int) (k : Nat) (h : k < es.length) (he : outE pid es[k] = false) : outB es pid k = outB es pid (k + 1) := by
  unfold outB
  rw [outTo_miss es pid k h he]
theorem outB_size (es : List Evn) (pid : Int) (hz : ∀ e ∈ es, e.text.size ≤ 200) (k : Nat) : (outB es pid k).size ≤ 200 * k := by
  have := outTo_length es pid hz k
  show (outTo es pid k).toArray.size ≤ _
  simpa using this
def PRel (es : List Evn) (pid : Int) (w : World) (o i : Value) (wr : World) : Prop :=
  ∃ k : Nat, o = .string (outB es pid k) ∧ i = .int .i64 k ∧ k ≤ es.length ∧ Below w.heap.size w wr

set_option maxHeartbeats 4000000 in
set_option maxRecDepth 100000 in
theorem refOutput_any (es : List Evn) (A : Option Addr) (n cap : Nat) (pid : Int) (w : World) (hA : Evs w w.heap.size A n es) (hn : n ≤ 60) (hz : ∀ e ∈ es, e.text.size ≤ 200) :
    Calls Tryz.prog 13 #[.slice A n cap, .int .i64 pid] w fun e w' => e = .returned (.string ⟨(outTo es pid n).toArray⟩) ∧ Below w.heap.size w w' := by
  obtain rfl := hA.1
  have HA := Lib.hid hA
  have HL := Lib.hid (outB_size es pid hz)
  have HZ := Lib.hid hz
  clear hA hz
  go_enter Tryz.func13, Tryz.ntmps13
  go_wp2
  go_loopw [5, 10] (fun o i wr => PRel es pid w o i wr) (fun _ i wr => es.length - (Lib.intOf i).toNat)
  case atStart => exact ⟨0, rfl, rfl, Nat.zero_le _, Below.refl _ w⟩
  case round =>
    obtain ⟨k, rfl, rfl, hk, hbw⟩ := hrel
    have hlt := HL.out k
    by_cases hkn : k < es.length
    · obtain ⟨b, off, rfl, hb, hc⟩ := (HA.out.below hbw).2 (by omega)
      obtain ⟨c0, c1, c2, c3, c4⟩ := hc k hkn
      have hbw' : b < wr.heap.size := Nat.lt_of_lt_of_le hb hbw.size
      have hsk := HZ.out _ (List.getElem_mem hkn)
      have Hb := Lib.hid hbw
      have hhit := outB_hit es pid k hkn
      have hmiss := outB_miss es pid k hkn
      clear hc hbw
      generalize es[k] = f at *
      obtain ⟨p, kind, pos, en, text⟩ := f
      simp only [outE] at c0 c1 c2 c3 c4 hsk hhit hmiss
      generalize hk6 : (kind == 6) = b1 at *
      generalize hp1 : (p == pid) = b2 at *
      generalize hn1 : (en == 1) = b3 at *
      replace hhit := Lib.hid hhit
      replace hmiss := Lib.hid hmiss
      generalize outB es pid k = acc at *
      cases b1 <;> cases b2 <;> cases b3 <;> (
        go_wp2
        all_goals first
          | (exfalso; omega)
          | exact ⟨⟨k + 1, by rw [← hmiss.out rfl], by go_num, by omega, Hb.out.alloc Hb.out.size _⟩, by simp [Lib.intOf]; omega⟩
          | exact ⟨⟨k + 1, by rw [← hhit.out rfl], by go_num, by omega, Hb.out.alloc Hb.out.size _⟩, by simp [Lib.intOf]; omega⟩)
    · have hke : k = es.length := by omega
      have Hbw := Lib.hid hbw
      clear hbw
      subst hke
      go_wp2
      go_ret
      exact ⟨rfl, Hbw.out⟩

end Go.Proofs.YtakejcabekdhcaaGreatDoor
