/- All options as a plain function; the laws of the chapter about it. No program here. -/
import Derived.Test.YtkenicdcelhdcaaM2
namespace Go.Proofs.Ytkenicdcelhdcaa

def weight (args : List Bs) : Nat := (args.map fun a => a.length + 1).sum

/-- What is left to look at. -/
def mu (args : List Bs) (st : Int × Int) : Nat := weight (args.drop (st.1 - 1).toNat) - st.2.toNat

def runF (spec : Bs) (args : List Bs) : Nat → Int × Int → List OptR × (Int × Int)
  | 0, st => ([], st)
  | n + 1, st =>
    let r := nextS spec args st.1 st.2
    if r.1.status = 1 then ([], r.2.1) else (r.1 :: (runF spec args n r.2.1).1, (runF spec args n r.2.1).2)

def allS (spec : Bs) (args : List Bs) : List OptR × Int × Int :=
  if validS spec ≠ 0 then ([], 0, validS spec)
  else
    let r := runF spec args (mu args (1, 0) + 1) (1, 0)
    (r.1, r.2.1 - 1, 0)

theorem weight_drop {args : List Bs} {k : Nat} (hk : k < args.length) : weight (args.drop k) = (args.getD k []).length + 1 + weight (args.drop (k + 1)) := by
  unfold weight
  rw [List.drop_eq_getElem_cons hk, List.map_cons, List.sum_cons, List.getD_eq_getElem?_getD, List.getElem?_eq_getElem hk]
  rfl

theorem weight_mono (args : List Bs) (k : Nat) : weight (args.drop (k + 1)) ≤ weight (args.drop k) := by
  by_cases hk : k < args.length
  · rw [weight_drop hk]; omega
  · rw [List.drop_of_length_le (by omega), List.drop_of_length_le (by omega)]; exact Nat.le_refl _

/-- The states that a step leads to. -/
theorem stepS_cases (spec : Bs) (args : List Bs) (word : Bs) (ix : Int) (at_ : Nat) :
    ((stepS spec args word ix at_).2 = (ix, (at_ : Int) + 1) ∧ word.drop (at_ + 1) ≠ []) ∨ (stepS spec args word ix at_).2 = (ix + 1, 0) ∨ ((stepS spec args word ix at_).2 = (ix + 2, 0) ∧ ix < args.length) := by
  unfold stepS
  simp only []
  generalize word.getD at_ 0 = c
  rcases outS_cases spec c (word.drop (at_ + 1)) (decide (ix < args.length)) with h | h | ⟨h, _⟩ | ⟨h, hm⟩ | h <;> simp only [h]
  all_goals by_cases hr : word.drop (at_ + 1) = []
  all_goals simp [hr]
  all_goals first | (simpa using hm) | (right; simpa using hm)

theorem stepS_status (spec : Bs) (args : List Bs) (word : Bs) (ix : Int) (at_ : Nat) : (stepS spec args word ix at_).1.status = 0 ∨ (stepS spec args word ix at_).1.status = 2 := by
  unfold stepS
  simp only []
  generalize word.getD at_ 0 = c
  rcases outS_cases spec c (word.drop (at_ + 1)) (decide (ix < args.length)) with h | h | ⟨h, _⟩ | ⟨h, hm⟩ | h <;> simp only [h]
  all_goals simp
  all_goals (split <;> simp)

theorem inR_iff {args : List Bs} {ix off : Int} : inR args ix off = true ↔ 1 ≤ ix ∧ 0 ≤ off ∧ (off = 0 ∨ (ix ≤ args.length ∧ off < (args.getD (ix - 1).toNat []).length)) := by
  simp [inR, and_assoc]

/-- The three ways of the next option at a good place. -/
theorem nextS_ways {spec : Bs} {args : List Bs} {ix off : Int} (hv : validS spec = 0) (hin : inR args ix off = true) :
    (nextS spec args ix off = (endR, (ix + 1, 0), 0) ∧ off = 0 ∧ ix ≤ args.length) ∨ (nextS spec args ix off = (endR, (ix, off), 0) ∧ off = 0) ∨
    (∃ at_ : Nat, nextS spec args ix off = ((stepS spec args (wordOf args ix) ix at_).1, (stepS spec args (wordOf args ix) ix at_).2, 0) ∧ off ≤ at_ ∧ 1 ≤ at_ ∧ at_ < (wordOf args ix).length ∧ ix ≤ args.length ∧ (off = 0 → at_ = 1 ∧ (wordOf args ix).getD 0 0 = 45) ∧ (off ≠ 0 → off = at_)) := by
  have hin' := inR_iff.1 hin
  obtain ⟨h1, h2, h3⟩ := hin'
  have hle : 0 < (wordOf args ix).length → ix ≤ args.length := by
    intro h
    unfold wordOf at h
    by_cases hx : ix ≤ args.length
    · exact hx
    · rw [if_neg hx] at h; simp at h
  unfold nextS
  simp only []
  rw [if_neg (by simp [hv]), if_neg (by simp [hin])]
  by_cases c1 : off = 0 ∧ wordOf args ix = [45, 45]
  · left
    rw [if_pos c1]
    exact ⟨rfl, c1.1, hle (by rw [c1.2]; simp)⟩
  · rw [if_neg c1]
    by_cases c2 : off = 0 ∧ ((wordOf args ix).length < 2 ∨ (wordOf args ix).getD 0 0 ≠ 45)
    · right; left
      rw [if_pos c2]
      exact ⟨rfl, c2.1⟩
    · right; right
      rw [if_neg c2]
      by_cases ho : off = 0
      · have hl : ¬ ((wordOf args ix).length < 2) := fun h => c2 ⟨ho, Or.inl h⟩
        have hf : (wordOf args ix).getD 0 0 = 45 := Classical.byContradiction fun h => c2 ⟨ho, Or.inr h⟩
        exact ⟨1, by rw [if_pos ho], by omega, by omega, by omega, hle (by omega), fun _ => ⟨rfl, hf⟩, fun h => absurd ho h⟩
      · have h4 : ix ≤ args.length ∧ off < (args.getD (ix - 1).toNat []).length := by
          rcases h3 with h3 | h3
          · exact absurd h3 ho
          · exact h3
        have hw : wordOf args ix = args.getD (ix - 1).toNat [] := by rw [wordOf, if_pos h4.1]
        refine ⟨off.toNat, by rw [if_neg ho], by omega, by omega, ?_, h4.1, fun h => absurd h ho, fun _ => by omega⟩
        rw [hw]; omega

theorem nextS_err {spec : Bs} {args : List Bs} {ix off : Int} (hv : validS spec = 0) (hin : inR args ix off = true) : (nextS spec args ix off).2.2 = 0 := by
  rcases nextS_ways hv hin with ⟨h, _⟩ | ⟨h, _⟩ | ⟨at_, h, _⟩ <;> rw [h]

/-- A step that is no end leads to a good place, and there is less left. -/
theorem nextS_adv {spec : Bs} {args : List Bs} {ix off : Int} (hv : validS spec = 0) (hin : inR args ix off = true) (hs : (nextS spec args ix off).1.status ≠ 1) :
    inR args (nextS spec args ix off).2.1.1 (nextS spec args ix off).2.1.2 = true ∧ mu args (nextS spec args ix off).2.1 < mu args (ix, off) ∧
    (ix < (nextS spec args ix off).2.1.1 ∨ (ix = (nextS spec args ix off).2.1.1 ∧ off < (nextS spec args ix off).2.1.2)) ∧ (nextS spec args ix off).2.1.1 ≤ args.length + 1 := by
  rcases nextS_ways hv hin with ⟨h, _⟩ | ⟨h, _⟩ | ⟨at_, h, h1, h2, h3, h4, _⟩
  · rw [h] at hs; simp [endR] at hs
  · rw [h] at hs; simp [endR] at hs
  · obtain ⟨i1, i2, i3⟩ := inR_iff.1 hin
    obtain ⟨k, hk⟩ : ∃ k : Nat, ix = k + 1 := ⟨(ix - 1).toNat, by omega⟩
    have hkl : k < args.length := by omega
    have hw : wordOf args ix = args.getD k [] := by rw [wordOf, if_pos h4, hk, show ((k : Int) + 1 - 1).toNat = k by omega]
    have hwt := weight_drop hkl
    have hwm := weight_mono args (k + 1)
    rw [hw] at h3
    rw [h]
    simp only []
    rcases stepS_cases spec args (wordOf args ix) ix at_ with ⟨e, hne⟩ | e | ⟨e, hlt⟩ <;> rw [e]
    · have hl : at_ + 1 < (args.getD k []).length := by
        rw [hw] at hne
        by_cases hc : at_ + 1 < (args.getD k []).length
        · exact hc
        · exact absurd (List.drop_of_length_le (by omega)) hne
      refine ⟨inR_iff.2 ⟨i1, by simp only []; omega, Or.inr ⟨h4, ?_⟩⟩, ?_, Or.inr ⟨rfl, by simp only []; omega⟩, by simp only []; omega⟩
      · rw [hk, show ((k : Int) + 1 - 1).toNat = k by omega]; simp only []; omega
      · simp only [mu, hk, show ((k : Int) + 1 - 1).toNat = k by omega, hwt]; omega
    · refine ⟨inR_iff.2 ⟨by simp only []; omega, Int.le_refl _, Or.inl rfl⟩, ?_, Or.inl (by simp only []; omega), by simp only []; omega⟩
      simp only [mu, hk, show ((k : Int) + 1 - 1).toNat = k by omega, show ((k : Int) + 1 + 1 - 1).toNat = k + 1 by omega, hwt]; omega
    · refine ⟨inR_iff.2 ⟨by simp only []; omega, Int.le_refl _, Or.inl rfl⟩, ?_, Or.inl (by simp only []; omega), by simp only []; omega⟩
      simp only [mu, hk, show ((k : Int) + 1 - 1).toNat = k by omega, show ((k : Int) + 1 + 2 - 1).toNat = k + 1 + 1 by omega, hwt]; omega

theorem runF_fuel {spec : Bs} {args : List Bs} (hv : validS spec = 0) : ∀ (n m : Nat) (st : Int × Int), inR args st.1 st.2 = true → mu args st < n → mu args st < m → runF spec args n st = runF spec args m st := by
  intro n
  induction n with
  | zero => intro m st _ h; omega
  | succ n ih =>
    intro m st hin hn hm
    cases m with
    | zero => omega
    | succ m =>
      unfold runF
      simp only []
      by_cases hs : (nextS spec args st.1 st.2).1.status = 1
      · rw [if_pos hs, if_pos hs]
      · obtain ⟨a1, a2, _, _⟩ := nextS_adv hv hin hs
        rw [show ((st.1, st.2) : Int × Int) = st from rfl] at a2
        rw [if_neg hs, if_neg hs, ih m _ a1 (by omega) (by omega)]

/-- All the options from a state on. -/
def runS (spec : Bs) (args : List Bs) (st : Int × Int) : List OptR × (Int × Int) := runF spec args (mu args st + 1) st

theorem runS_end {spec : Bs} {args : List Bs} {st : Int × Int} (hs : (nextS spec args st.1 st.2).1.status = 1) : runS spec args st = ([], (nextS spec args st.1 st.2).2.1) := by
  unfold runS runF
  simp [hs]

theorem runS_step {spec : Bs} {args : List Bs} {st : Int × Int} (hv : validS spec = 0) (hin : inR args st.1 st.2 = true) (hs : (nextS spec args st.1 st.2).1.status ≠ 1) :
    runS spec args st = ((nextS spec args st.1 st.2).1 :: (runS spec args (nextS spec args st.1 st.2).2.1).1, (runS spec args (nextS spec args st.1 st.2).2.1).2) := by
  obtain ⟨a1, a2, _, _⟩ := nextS_adv hv hin hs
  have e : runF spec args (mu args st) (nextS spec args st.1 st.2).2.1 = runS spec args (nextS spec args st.1 st.2).2.1 := by
    unfold runS
    exact runF_fuel hv _ _ _ a1 a2 (by omega)
  rw [← e]
  conv => lhs; unfold runS runF
  simp [hs]

theorem allS_eq {spec : Bs} {args : List Bs} (hv : validS spec = 0) : allS spec args = ((runS spec args (1, 0)).1, (runS spec args (1, 0)).2.1 - 1, 0) := by
  unfold allS runS
  simp [hv]

theorem inR_start (args : List Bs) : inR args 1 0 = true := by simp [inR]

end Go.Proofs.Ytkenicdcelhdcaa
