/- jobshellref16.letters: what the call returns. -/
import Derived.Test.YtkenicdcelhdcaaW2
import Derived.OwnWalk
import Derived.Lib.SmallJoins
namespace Go.Proofs.Ytkenicdcelhdcaa
open Go.RowKit

theorem Try.info4 : (Try.prog.info? 4).map (fun i => (i.zero, i.size, i.bytes)) = some (some (.bool false), 1, 1) := by kernel_rfl

def marks (acc : List (UInt8 × Bool)) : List Value := acc.map fun x => .bool x.2

def LRel (s : ByteArray) (w : World) (nm tk i : Value) (wr : World) : Prop :=
  ∃ (k : Nat) (names : ByteArray) (acc : List (UInt8 × Bool)), k ≤ s.size ∧ i = .int .i64 k ∧ nm = .string names ∧ names.data.toList = acc.map Prod.fst ∧ acc.length ≤ k ∧
    wr.ownsRow w.heap.size 4 1 tk acc.length (marks acc) ∧ lt (s.data.toList.drop k) acc = lt s.data.toList [] ∧ Below w.heap.size w wr

theorem colon_pos {s : ByteArray} (h : colon s = true) : 1 ≤ s.size := by
  rw [Lib.size_eq]
  unfold colon at h
  cases hl : s.data.toList with
  | nil => rw [hl] at h; simp at h
  | cons c r => simp

theorem colon_at {s : ByteArray} (h : 1 ≤ s.size) : ((s[0].toNat : Int) == 58) = colon s := by
  unfold colon
  have h0 : 0 < s.data.toList.length := by rw [← Lib.size_eq]; omega
  have e : s.data.toList.head? = some s[0] := by
    rw [List.head?_eq_getElem?, List.getElem?_eq_getElem h0]; rfl
  rw [e, Bool.eq_iff_iff]
  simp only [beq_iff_eq, Option.some.injEq]
  constructor
  · intro h; exact UInt8.toNat_inj.1 (by simp; omega)
  · intro h; rw [h]; rfl

theorem u8_58 {c : UInt8} (h : ((c.toNat : Int) == 58) = true) : c = 58 := UInt8.toNat_inj.1 (by have := eq_of_beq h; simp; omega)
theorem u8_58n {c : UInt8} (h : ((c.toNat : Int) == 58) = false) : c ≠ 58 := fun e => by rw [e] at h; simp at h

theorem lt_opt {s : ByteArray} {k : Nat} (hk : k < s.size) {acc : List (UInt8 × Bool)} (ho : opt s[k] = true) :
    lt (s.data.toList.drop k) acc = lt (s.data.toList.drop (k + 1)) (acc ++ [(s[k], false)]) := by
  have hk0 : k < s.data.toList.length := by rw [← Lib.size_eq]; omega
  have e0 : s.data.toList[k] = s[k] := rfl
  rw [List.drop_eq_getElem_cons hk0, e0]
  simp [lt, ho]

theorem lt_colon {s : ByteArray} {k : Nat} (hk : k < s.size) {acc : List (UInt8 × Bool)} {x : UInt8} (hc : s[k] = 58) :
    lt (s.data.toList.drop k) (acc ++ [(x, false)]) = lt (s.data.toList.drop (k + 1)) (acc ++ [(x, true)]) := by
  have hk0 : k < s.data.toList.length := by rw [← Lib.size_eq]; omega
  have e0 : s.data.toList[k] = s[k] := rfl
  rw [List.drop_eq_getElem_cons hk0, e0, hc]
  simp [lt, opt_58]

theorem lt_bad {s : ByteArray} {k : Nat} (hk : k < s.size) {acc : List (UInt8 × Bool)} (ho : opt s[k] = false) (h : s[k] ≠ 58 ∨ ∀ x ∈ acc.getLast?, x.2 = true) :
    lt (s.data.toList.drop k) acc = none := by
  have hk0 : k < s.data.toList.length := by rw [← Lib.size_eq]; omega
  have e0 : s.data.toList[k] = s[k] := rfl
  rw [List.drop_eq_getElem_cons hk0, e0]
  rcases h with h | h
  · simp [lt, ho, h]
  · by_cases hc : s[k] = 58
    · rw [hc]
      cases hg : acc.getLast? with
      | none => simp [lt, opt_58, hg]
      | some y => obtain ⟨a, b⟩ := y; have := h (a, b) (by rw [hg]; rfl); simp at this; subst this; simp [lt, opt_58, hg]
    · simp [lt, ho, hc]

theorem lt_end {s : ByteArray} {k : Nat} (hk : s.size ≤ k) {acc : List (UInt8 × Bool)} : lt (s.data.toList.drop k) acc = some acc := by
  rw [List.drop_of_length_le (by rw [← Lib.size_eq]; omega), lt]

theorem lrel_opt {s names : ByteArray} {w wr w1 : World} {k : Nat} {acc : List (UInt8 × Bool)} {v v' : Value} {i : Int} (hk : k < s.size) (ho : opt s[k] = true)
    (hn : names.data.toList = acc.map Prod.fst) (hal : acc.length ≤ k) (hlt : lt (s.data.toList.drop k) acc = lt s.data.toList []) (hb : Below w.heap.size w wr)
    (hown : wr.ownsRow w.heap.size 4 1 v acc.length (marks acc)) (o : Obj)
    (hown' : w1.ownsRow w.heap.size 4 1 v' (acc.length + 1) (marks acc ++ [.bool false])) (hg : (wr.alloc o).grownBy w1 v.ownBlock) (hi : i = (k + 1 : Nat)) :
    LRel s w (.string (names ++ s.extract k (k + 1))) v' (.int .i64 i) w1 := by
  subst hi
  refine ⟨k + 1, _, acc ++ [(s[k], false)], hk, rfl, rfl, ?_, by simp; omega, ?_, (lt_opt hk ho).symm.trans hlt, ?_⟩
  · have hk0 : k < s.data.toList.length := by rw [← Lib.size_eq]; omega
    rw [Joins.data_append, hn, Lib.extract_data, List.drop_eq_getElem_cons hk0]
    simp; rfl
  · simpa [marks] using hown'
  · have hb1 : Below w.heap.size w (wr.alloc o) := hb.alloc hb.size o
    exact hb1.grown hg hb1.size (fun g hg' => (hown.lt g hg').1)

theorem marks_last (acc : List (UInt8 × Bool)) (x : UInt8) (b : Bool) : (marks (acc ++ [(x, b)]))[acc.length]? = some (.bool b) := by simp [marks]

theorem lrel_colon {s names : ByteArray} {w wr : World} {k g n cap : Nat} {acc : List (UInt8 × Bool)} {x : UInt8} {i : Int} (hk : k < s.size) (hc : s[k] = 58)
    (hn : names.data.toList = (acc ++ [(x, false)]).map Prod.fst) (hal : (acc ++ [(x, false)]).length ≤ k) (hlt : lt (s.data.toList.drop k) (acc ++ [(x, false)]) = lt s.data.toList []) (hb : Below w.heap.size w wr)
    (hown : wr.ownsRow w.heap.size 4 1 (.slice (some ⟨g, 0, none⟩) n cap) n (marks (acc ++ [(x, false)]))) (hnn : n = acc.length + 1) (hg : w.heap.size ≤ g) (hi : i = (k + 1 : Nat)) :
    LRel s w (.string names) (.slice (some ⟨g, 0, none⟩) n cap) (.int .i64 i) (wr.setCell ⟨g, acc.length, none⟩ (.bool true)) := by
  subst hi
  refine ⟨k + 1, _, acc ++ [(x, true)], hk, rfl, rfl, ?_, ?_, ?_, (lt_colon hk hc).symm.trans hlt, hb.setCell hg _⟩
  · rw [hn]; simp
  · simp at hal ⊢; omega
  · have h := (hown.stored acc.length (.bool true)).1
    have e : (marks (acc ++ [(x, false)])).set acc.length (.bool true) = marks (acc ++ [(x, true)]) := by
      simp [marks]
    rw [e] at h
    simpa [hnn] using h

set_option maxRecDepth 100000 in
set_option maxHeartbeats 4000000 in
theorem letters_any (spec : ByteArray) (w : World) (hs : spec.size ≤ 100) (R : Ending → World → Prop)
    (hR0 : ps (body spec.data.toList) = none → ∀ w', Below w.heap.size w w' → R (.returned (.tuple #[.string ⟨#[]⟩, .slice none 0 0, .bool false])) w')
    (hR1 : ∀ L, ps (body spec.data.toList) = some L → ∀ names v w', names.data.toList = L.map Prod.fst → w'.ownsRow w.heap.size 4 1 v L.length (marks L) → Below w.heap.size w w' →
      R (.returned (.tuple #[.string names, v, .bool true])) w') :
    Calls Try.prog 21 #[.string spec] w R := by
  have hts : (trimB spec).size ≤ 100 := Nat.le_trans (trimB_size spec) hs
  have HR0 := Lib.hid hR0
  have HR1 := Lib.hid hR1
  clear hR0 hR1
  rw [← trimB_list, ← lt_nil] at HR0 HR1
  obtain ⟨i0, hi, hz0, hz1, hz2⟩ := info_parts Try.info4
  have hcases : (∃ _ : 1 ≤ spec.size, ((spec[0].toNat : Int) == 58) = true ∧ trimB spec = spec.extract 1 spec.size) ∨ (∃ _ : 1 ≤ spec.size, ((spec[0].toNat : Int) == 58) = false ∧ trimB spec = spec) ∨ (¬ 1 ≤ spec.size ∧ trimB spec = spec) := by
    by_cases h1 : 1 ≤ spec.size
    · by_cases hcol : colon spec = true
      · exact Or.inl ⟨h1, by rw [colon_at h1]; exact hcol, by unfold trimB; rw [hcol]; rfl⟩
      · have hcol' : colon spec = false := by simpa using hcol
        exact Or.inr (Or.inl ⟨h1, by rw [colon_at h1]; exact hcol', by unfold trimB; rw [hcol']; rfl⟩)
    · refine Or.inr (Or.inr ⟨h1, ?_⟩)
      unfold trimB
      rw [if_neg]
      intro h
      exact h1 (colon_pos h)
  rcases hcases with ⟨h1, h58, hT⟩ | ⟨h1, h58, hT⟩ | ⟨h1, hT⟩
  all_goals
    rw [hT] at HR0 HR1 hts
    clear hT
    have Hts := Lib.hid hts
    clear hts
    go_enter Try.func21, Try.ntmps21
    go_wp2
    try clear h58
    clear h1
  generalize spec.extract 1 spec.size = s at *
  rotate_left
  generalize spec = s at *
  rotate_left
  · generalize spec = s at *
    have hss : s.size ≤ 100 := Hts.out
    clear hs
    go_loopw [5, 6, 7] (fun nm tk i wr => LRel s w nm tk i wr) (fun _ _ i _ => s.size - (intOf i).toNat)
    case atStart => exact ⟨0, _, [], Nat.zero_le _, rfl, rfl, rfl, Nat.le_refl _, World.ownsRow_nil _ _ _ _, rfl, Below.refl _ _⟩
    case round =>
      obtain ⟨k, names, acc, hk, rfl, rfl, hn, hal, hown, hlt, hb⟩ := hrel
      have Hlt := Lib.hid hlt
      have Hn := Lib.hid hn
      have Hb := Lib.hid hb
      have Hown := Lib.hid hown
      clear hlt hn hb hown
      have hkl : ¬ k < s.size := by omega
      go_wp2
      go_ret3
      exact HR1.out acc (by rw [← Hlt.out, lt_end (by omega)]) names _ _ Hn.out Hown.out Hb.out
  all_goals
    have hss : s.size ≤ 100 := Hts.out
    clear hs
    go_loopw [5, 6, 7] (fun nm tk i wr => LRel s w nm tk i wr) (fun _ _ i _ => s.size - (intOf i).toNat)
    case atStart => exact ⟨0, _, [], Nat.zero_le _, rfl, rfl, rfl, Nat.le_refl _, World.ownsRow_nil _ _ _ _, rfl, Below.refl _ _⟩
    case round =>
      obtain ⟨k, names, acc, hk, rfl, rfl, hn, hal, hown, hlt, hb⟩ := hrel
      have hnz : names.size ≤ 100 := by rw [Lib.size_eq, hn, List.length_map]; omega
      have Hlt := Lib.hid hlt
      have Hn := Lib.hid hn
      have Hb := Lib.hid hb
      have Hown := Lib.hid hown
      have hbs := hb.size
      clear hlt hn hb hown
      by_cases hkl : k < s.size
      · have h256 : s[k].toNat < 256 := s[k].toNat_lt
        by_cases ho : opt s[k] = true
        · have ho' : optB (s[k].toNat : Int) = true := ho
          have Ho := Lib.hid ho
          clear ho
          go_wp2_with (first | (go_at_call 26; refine (letter_any _ _).mono ?_; rintro e w' ⟨rfl, rfl⟩) | (at_builtin; refine wpList_append_own _ rfl _ _ 49 rfl w.heap.size 4 i0 (.bool false) 1 1 Try.underlying49 hi hz0 hz1 hz2 rfl (by decide) _ _ _ rfl (Hown.out.alloc _) ⟨wr.heap.size, 0, none⟩ 1 1 [.bool false] rfl rfl (cell_one_new _ _ _) (by simp [Value.oneCell']) (by unfold maxLen; omega) (by omega) (by simp; omega) ?_; intro v' w1 hown' hg _))
          exact ⟨lrel_opt hkl Ho.out Hn.out hal Hlt.out Hb.out Hown.out _ hown' hg (by omega), by simp [intOf]; omega⟩
        · have ho' : optB (s[k].toNat : Int) = false := by simpa [opt] using ho
          have Ho := Lib.hid (show opt s[k] = false by simpa using ho)
          clear ho
          by_cases hc : ((s[k].toNat : Int) == 58) = true
          · rcases Hown.out.2 with ⟨hv, h0⟩ | ⟨g, cap, cur, hv, hg, hblk, hnc, hcm, hcs, htk⟩
            · rw [hv] at Hown
              rw [hv]
              clear hv
              have hT := Lib.hid (lt_bad hkl Ho.out (acc := acc) (Or.inr (by have : acc = [] := List.eq_nil_of_length_eq_zero h0; subst this; simp)))
              clear h0
              go_wp2_with (go_at_call 26; refine (letter_any _ _).mono ?_; rintro e w' ⟨rfl, rfl⟩)
              go_ret3
              exact HR0.out (by rw [← Hlt.out]; exact hT.out) _ Hb.out
            · rw [hv] at Hown
              rw [hv]
              clear hv hblk htk hcs
              rcases List.eq_nil_or_concat acc with rfl | ⟨acc', ⟨x, b⟩, rfl⟩
              · have hT := Lib.hid (lt_bad hkl Ho.out (acc := []) (Or.inr (by simp)))
                go_wp2_with (go_at_call 26; refine (letter_any _ _).mono ?_; rintro e w' ⟨rfl, rfl⟩)
                go_ret3
                exact HR0.out (by rw [← Hlt.out]; exact hT.out) _ Hb.out
              · rw [List.concat_eq_append] at Hown hal hnc Hn Hlt
                rw [List.concat_eq_append]
                have hn1 : (acc' ++ [(x, b)]).length = acc'.length + 1 := by simp
                rw [hn1] at Hown hal hnc
                rw [hn1]
                clear hn1
                have hcl := Hown.out.cellAt acc'.length (by omega)
                rw [marks_last] at hcl
                have hfz := Hown.out.frozenAt acc'.length
                cases b with
                | true =>
                  have hT := Lib.hid (lt_bad hkl Ho.out (acc := acc' ++ [(x, true)]) (Or.inr (by simp)))
                  go_wp2_with (go_at_call 26; refine (letter_any _ _).mono ?_; rintro e w' ⟨rfl, rfl⟩)
                  go_ret3
                  exact HR0.out (by rw [← Hlt.out]; exact hT.out) _ Hb.out
                | false =>
                  go_wp2_with (go_at_call 26; refine (letter_any _ _).mono ?_; rintro e w' ⟨rfl, rfl⟩)
                  exact ⟨lrel_colon hkl (u8_58 hc) Hn.out (by simp; omega) Hlt.out Hb.out Hown.out rfl hg (by omega), by simp [intOf]; omega⟩
          · have hc' : ((s[k].toNat : Int) == 58) = false := by simpa using hc
            clear hc
            have hT := Lib.hid (lt_bad hkl Ho.out (acc := acc) (Or.inl (u8_58n hc')))
            go_wp2_with (go_at_call 26; refine (letter_any _ _).mono ?_; rintro e w' ⟨rfl, rfl⟩)
            go_ret3
            exact HR0.out (by rw [← Hlt.out]; exact hT.out) _ Hb.out
      · go_wp2
        go_ret3
        exact HR1.out acc (by rw [← Hlt.out, lt_end (by omega)]) names _ _ Hn.out Hown.out Hb.out

end Go.Proofs.Ytkenicdcelhdcaa
