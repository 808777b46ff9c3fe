/- The laws about successive steps, operands and silent reporting, as plain laws. No program here. -/
import Derived.Test.YtkenicdcelhdcaaM3
namespace Go.Proofs.Ytkenicdcelhdcaa

theorem run_mid {spec : Bs} {args : List Bs} {L : List OptR} {E st : Int × Int} {k : Nat} (hv : validS spec = 0) (hin : inR args st.1 st.2 = true) (hrun : runS spec args st = (L.drop k, E)) (hk : k < L.length) :
    (nextS spec args st.1 st.2).1 = L[k] ∧ (nextS spec args st.1 st.2).1.status ≠ 1 ∧ runS spec args (nextS spec args st.1 st.2).2.1 = (L.drop (k + 1), E) := by
  by_cases hs : (nextS spec args st.1 st.2).1.status = 1
  · rw [runS_end hs] at hrun
    injection hrun with h1 _
    have := congrArg List.length h1
    simp at this
    omega
  · have h := runS_step hv hin hs
    rw [hrun, List.drop_eq_getElem_cons hk] at h
    injection h with h1 h2
    injection h1 with h3 h4
    exact ⟨h3.symm, hs, Prod.ext h4.symm h2.symm⟩

theorem run_end {spec : Bs} {args : List Bs} {E st : Int × Int} (hv : validS spec = 0) (hin : inR args st.1 st.2 = true) (hrun : runS spec args st = ([], E)) (hst : st.1 ≤ args.length + 1) :
    (nextS spec args st.1 st.2).1 = endR ∧ (nextS spec args st.1 st.2).2.1 = E ∧ E.1 ≤ args.length + 1 ∧ 1 ≤ E.1 := by
  by_cases hs : (nextS spec args st.1 st.2).1.status = 1
  · rw [runS_end hs] at hrun
    injection hrun with _ h2
    rw [h2]
    obtain ⟨i1, _⟩ := inR_iff.1 hin
    rcases nextS_ways hv hin with ⟨h, h0, h1⟩ | ⟨h, _⟩ | ⟨at_, h, _⟩
    · rw [h] at h2 ⊢; exact ⟨rfl, rfl, by rw [← h2]; simp only []; omega, by rw [← h2]; simp only []; omega⟩
    · rw [h] at h2 ⊢; exact ⟨rfl, rfl, by rw [← h2]; simp only []; omega, by rw [← h2]; simp only []; omega⟩
    · rw [h] at hs
      rcases stepS_status spec args (wordOf args st.1) st.1 at_ with h' | h' <;> rw [h'] at hs <;> simp at hs
  · rw [runS_step hv hin hs] at hrun
    injection hrun with h1 _
    cases h1

theorem runS_len {spec : Bs} {args : List Bs} (hv : validS spec = 0) : ∀ (n : Nat) (st : Int × Int), inR args st.1 st.2 = true → mu args st ≤ n → (runS spec args st).1.length ≤ mu args st := by
  intro n
  induction n with
  | zero =>
    intro st hin h
    by_cases hs : (nextS spec args st.1 st.2).1.status = 1
    · rw [runS_end hs]; simp
    · obtain ⟨_, a2, _⟩ := nextS_adv hv hin hs
      rw [show ((st.1, st.2) : Int × Int) = st from rfl] at a2
      omega
  | succ n ih =>
    intro st hin h
    by_cases hs : (nextS spec args st.1 st.2).1.status = 1
    · rw [runS_end hs]; simp
    · obtain ⟨a1, a2, _⟩ := nextS_adv hv hin hs
      rw [show ((st.1, st.2) : Int × Int) = st from rfl] at a2
      rw [runS_step hv hin hs]
      have := ih _ a1 (by omega)
      simp
      omega

theorem weight_le (args : List Bs) (m : Nat) (h : ∀ a ∈ args, a.length ≤ m) : weight args ≤ args.length * (m + 1) := by
  induction args with
  | nil => simp [weight]
  | cons a r ih =>
    have h1 := h a (by simp)
    have h2 := ih (fun x hx => h x (by simp [hx]))
    simp only [weight, List.map_cons, List.sum_cons, List.length_cons] at h2 ⊢
    rw [Nat.succ_mul]
    omega

end Go.Proofs.Ytkenicdcelhdcaa
