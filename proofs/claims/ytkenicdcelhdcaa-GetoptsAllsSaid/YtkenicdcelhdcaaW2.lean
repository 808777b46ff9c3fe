/- getopts.Valid: what the call returns. -/
import Derived.Test.YtkenicdcelhdcaaW1
namespace Go.Proofs.Ytkenicdcelhdcaa
open Go.RowKit

/-- The loop's relation: block B is the array of the letters that were seen. -/
def SeenAt (B : Nat) (w : World) (seen : List UInt8) : Prop :=
  (∀ c : UInt8, w.cell? ⟨B, c.toNat, none⟩ = some (.bool (seen.contains c))) ∧ ∀ j, w.frozen? ⟨B, j, none⟩ = false

def VRel (s : ByteArray) (w : World) (tw i : Value) (wr : World) : Prop :=
  ∃ (k : Nat) (b : Bool) (seen : List UInt8), k ≤ s.size ∧ i = .int .i64 k ∧ tw = .bool b ∧ SeenAt w.heap.size wr seen ∧
    vl (s.data.toList.drop k) seen b = vl s.data.toList [] false ∧ Below w.heap.size w wr ∧ w.heap.size < wr.heap.size

theorem SeenAt.put {B : Nat} {w : World} {seen : List UInt8} (h : SeenAt B w seen) (c : UInt8) :
    SeenAt B (w.setCell ⟨B, c.toNat, none⟩ (.bool true)) (c :: seen) := by
  refine ⟨fun d => ?_, fun j => ?_⟩
  · by_cases e : d = c
    · subst e
      rw [World.cell?_setCell_same _ _ _ (h.1 d)]; simp
    · rw [World.cell?_setCell_other _ _ _ _ (fun e' => e (by injection e' with _ e1 _; exact UInt8.toNat_inj.1 e1.symm)), h.1 d]
      simp [e]
  · rw [World.frozen?_setCell]; exact h.2 j

theorem vl_two (s : ByteArray) (k : Nat) (hk : k + 1 < s.size) (ho : opt s[k] = true) (hd : s[k + 1] = 58) (seen : List UInt8) (b : Bool) :
    vl (s.data.toList.drop k) seen b = vl (s.data.toList.drop (k + 1 + 1)) (s[k] :: seen) (b || seen.contains s[k]) := by
  have hk0 : k < s.data.toList.length := by rw [← Lib.size_eq]; omega
  have hk1 : k + 1 < s.data.toList.length := by rw [← Lib.size_eq]; omega
  have e0 : s.data.toList[k] = s[k] := rfl
  have e1 : s.data.toList[k + 1] = s[k + 1] := rfl
  rw [List.drop_eq_getElem_cons hk0, List.drop_eq_getElem_cons hk1, e0, e1, hd]
  simp [vl, ho]

theorem vl_one (s : ByteArray) (k : Nat) (hk : k < s.size) (ho : opt s[k] = true) (hd : ∀ h : k + 1 < s.size, s[k + 1] ≠ 58) (seen : List UInt8) (b : Bool) :
    vl (s.data.toList.drop k) seen b = vl (s.data.toList.drop (k + 1)) (s[k] :: seen) (b || seen.contains s[k]) := by
  have hk0 : k < s.data.toList.length := by rw [← Lib.size_eq]; omega
  have e0 : s.data.toList[k] = s[k] := rfl
  rw [List.drop_eq_getElem_cons hk0, e0]
  by_cases h1 : k + 1 < s.size
  · have hk1 : k + 1 < s.data.toList.length := by rw [← Lib.size_eq]; omega
    have e1 : s.data.toList[k + 1] = s[k + 1] := rfl
    rw [List.drop_eq_getElem_cons hk1, e1]
    simp [vl, ho, hd h1]
  · rw [List.drop_of_length_le (by rw [← Lib.size_eq]; omega)]
    simp [vl, ho]

theorem vl_bad (s : ByteArray) (k : Nat) (hk : k < s.size) (ho : opt s[k] = false) (seen : List UInt8) (b : Bool) :
    vl (s.data.toList.drop k) seen b = 6 := by
  have hk0 : k < s.data.toList.length := by rw [← Lib.size_eq]; omega
  have e0 : s.data.toList[k] = s[k] := rfl
  rw [List.drop_eq_getElem_cons hk0, e0]
  cases h : s.data.toList.drop (k + 1) <;> simp [vl, ho]

theorem vl_end (s : ByteArray) (k : Nat) (hk : s.size ≤ k) (seen : List UInt8) (b : Bool) : vl (s.data.toList.drop k) seen b = if b then 9 else 0 := by
  rw [List.drop_of_length_le (by rw [← Lib.size_eq]; omega), vl]

theorem vrel_next {s : ByteArray} {w wr : World} {k k' : Nat} {b b' : Bool} {seen : List UInt8} {i : Int} (c : UInt8) (hs : SeenAt w.heap.size wr seen)
    (hb : Below w.heap.size w wr) (hz : w.heap.size < wr.heap.size) (hvl : vl (s.data.toList.drop k) seen b = vl s.data.toList [] false)
    (hnext : vl (s.data.toList.drop k) seen b = vl (s.data.toList.drop k') (c :: seen) (b || seen.contains c)) (hb' : b' = (b || seen.contains c)) (hk' : k' ≤ s.size) (hi : i = k') (hlt : k < k') (hk : k < s.size) :
    VRel s w (.bool b') (.int .i64 i) (wr.setCell ⟨w.heap.size, c.toNat, none⟩ (.bool true)) ∧
      s.size - (intOf (Value.int .i64 i)).toNat < s.size - (intOf (Value.int .i64 (k : Int))).toNat := by
  subst hi hb'
  refine ⟨⟨k', _, c :: seen, hk', rfl, rfl, hs.put c, hnext.symm.trans hvl, hb.setCell (Nat.le_refl _) _, by simpa [World.setCell] using hz⟩, ?_⟩
  simp [intOf]; omega

def zArr : Array Value := Array.replicate 256 (.bool false)
theorem zero47 (w : World) : (zeroValue 47).run Try.prog w = .ok (.agg zArr) w := by kernel_rfl
theorem seen_start (w : World) : SeenAt w.heap.size (w.alloc (.cells zArr 47)) [] := by
  refine ⟨fun c => ?_, fun j => ?_⟩
  · have h : c.toNat < 256 := c.toNat_lt
    have e := heap_alloc_new w (.cells zArr 47)
    unfold World.cell?
    simp only [e]
    simp [zArr, h]
  · have e := heap_alloc_new w (.cells zArr 47)
    unfold World.frozen?
    simp only [e]
    simp

set_option maxRecDepth 100000 in
set_option maxHeartbeats 400000 in
theorem valid_any (spec : ByteArray) (w : World) (hs : spec.size ≤ maxLen) :
    Calls Try.prog 10 #[.string spec] w fun e w' => e = .returned (.int .i64 (validS spec.data.toList)) ∧ Below w.heap.size w w' := by
  have hts := trimB_size spec
  have hv := Lib.hid (vl_valid spec.data.toList)
  rw [← trimB_list] at hv
  have hs2 := hs
  unfold maxLen at hs2
  have hst : (trimB spec).size ≤ 9223372036854775807 := by omega
  clear hs2 hts
  have hz := zero47
  go_enter Try.func10, Try.ntmps10
  go_wp2_with (go_at_call 19; refine (trimPrefix_any _ _ hs).mono ?_; rintro e w' ⟨rfl, rfl⟩)
  generalize trimB spec = s at *
  clear hz
  go_loopw [4, 6] (fun tw i wr => VRel s w tw i wr) (fun _ i _ => s.size - (intOf i).toNat)
  case atStart => exact ⟨0, false, [], Nat.zero_le _, rfl, rfl, seen_start w, rfl, (Below.refl _ _).alloc (Nat.le_refl _) _, by simp⟩
  case round =>
    obtain ⟨k, b, seen, hk, rfl, rfl, ⟨hcell, hfr⟩, hvl, hbel, hsz⟩ := hrel
    have Hvl := Lib.hid hvl
    clear hvl
    have Hb := Lib.hid hbel
    clear hbel
    have Hs := Lib.hid (show SeenAt w.heap.size wr seen from ⟨hcell, hfr⟩)
    by_cases hlt : k < s.size
    · have h256 : s[k].toNat < 256 := s[k].toNat_lt
      have hck := hcell s[k]
      have hfk := hfr s[k].toNat
      clear hcell hfr
      by_cases ho : opt s[k] = true
      · have ho' : optB (s[k].toNat : Int) = true := ho
        have Ho := Lib.hid ho
        clear ho
        have T1 : Hid (∀ h : k + 1 < s.size, ((s[k + 1].toNat : Int) == 58) = true → vl (s.data.toList.drop k) seen b = vl (s.data.toList.drop (k + 1 + 1)) (s[k] :: seen) (b || seen.contains s[k])) := by
          intro h h58
          exact vl_two s k h Ho.out (UInt8.toNat_inj.1 (by have := eq_of_beq h58; simp; omega)) seen b
        have T2 : Hid (∀ (_ : ∀ h : k + 1 < s.size, ((s[k + 1].toNat : Int) == 58) = false), vl (s.data.toList.drop k) seen b = vl (s.data.toList.drop (k + 1)) (s[k] :: seen) (b || seen.contains s[k])) := by
          intro h
          exact vl_one s k hlt Ho.out (fun h1 e => by have := h h1; rw [e] at this; simp at this) seen b
        generalize hsc : seen.contains s[k] = sc at hck
        have Hsc := Lib.hid hsc
        clear hsc
        cases b
        all_goals
          go_wp2_with (go_at_call 20; refine (isOption_any _ _).mono ?_; rintro e w' ⟨rfl, rfl⟩)
          all_goals first
            | exact vrel_next s[k] Hs.out Hb.out hsz Hvl.out (T1.out (by omega) ‹_›) (by rw [Hsc.out]; rfl) (by omega) (by omega) (by omega) hlt
            | exact vrel_next s[k] Hs.out Hb.out hsz Hvl.out (T2.out fun _ => ‹_›) (by rw [Hsc.out]; rfl) (by omega) (by omega) (by omega) hlt
            | exact vrel_next s[k] Hs.out Hb.out hsz Hvl.out (T2.out fun h => absurd h (by omega)) (by rw [Hsc.out]; rfl) (by omega) (by omega) (by omega) hlt
      · have ho' : optB (s[k].toNat : Int) = false := by simpa [opt] using ho
        have Ho := Lib.hid (show opt s[k] = false by simpa using ho)
        clear ho
        go_wp2_with (go_at_call 20; refine (isOption_any _ _).mono ?_; rintro e w' ⟨rfl, rfl⟩)
        go_ret
        exact ⟨ret_int (by rw [← hv.out, ← Hvl.out, vl_bad s k hlt Ho.out]), Hb.out⟩
    · clear hcell hfr
      cases b
      all_goals
        go_wp2
        go_ret
        exact ⟨ret_int (by rw [← hv.out, ← Hvl.out, vl_end s k (by omega)]; rfl), Hb.out⟩

end Go.Proofs.Ytkenicdcelhdcaa
