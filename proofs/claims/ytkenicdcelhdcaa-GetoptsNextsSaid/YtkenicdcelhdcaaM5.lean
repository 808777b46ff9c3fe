/- The laws about silent reporting and about operands, as plain laws. No program here. -/
import Derived.Test.YtkenicdcelhdcaaM4
namespace Go.Proofs.Ytkenicdcelhdcaa

/-- An option and the same option reported silently. -/
def Sil (l m : OptR) : Prop := m.msg = [] ∧ l.status = m.status ∧ ((l.status = 0 ∧ l = m) ∨ (l.status = 2 ∧ l.msg ≠ [] ∧ m.arg.length = 1))

theorem body_ne {spec : Bs} (h : colonL spec = false) : body spec = spec := by
  cases spec with
  | nil => rfl
  | cons c r =>
    have hc : c ≠ 58 := by intro e; simp [colonL, e] at h
    simp [body, hc]

theorem valid_colon {spec : Bs} (h : colonL spec = false) : validS (58 :: spec) = validS spec := by
  unfold validS
  rw [body_ne h]
  simp [body]

theorem out_colon (spec : Bs) (c : UInt8) (rest : Bs) (more : Bool) : outS (58 :: spec) c rest more = outS spec c rest more := by
  unfold outS
  by_cases ho : opt c = true
  · have hc : ¬ (58 : UInt8) = c := by rintro rfl; simp [opt_58] at ho
    simp [ho, look, hc]
  · simp [ho]

theorem step_sil {spec : Bs} (h : colonL spec = false) (args : List Bs) (word : Bs) (ix : Int) (at_ : Nat) :
    Sil (stepS spec args word ix at_).1 (stepS (58 :: spec) args word ix at_).1 ∧ (stepS spec args word ix at_).2 = (stepS (58 :: spec) args word ix at_).2 := by
  have h2 : colonL (58 :: spec) = true := by simp [colonL]
  unfold stepS
  simp only [out_colon]
  generalize word.getD at_ 0 = c
  rcases outS_cases spec c (word.drop (at_ + 1)) (decide (ix < args.length)) with ho | ho | ⟨ho, _⟩ | ⟨ho, _⟩ | ho <;> simp [ho, h, h2, Sil, reqMsg, illMsg]

theorem nextS_eq {spec : Bs} {args : List Bs} {ix off : Int} (hv : validS spec = 0) (hin : inR args ix off = true) :
    nextS spec args ix off = if off = 0 ∧ wordOf args ix = [45, 45] then (endR, (ix + 1, 0), 0) else if off = 0 ∧ ((wordOf args ix).length < 2 ∨ (wordOf args ix).getD 0 0 ≠ 45) then (endR, (ix, off), 0)
      else ((stepS spec args (wordOf args ix) ix (if off = 0 then 1 else off.toNat)).1, (stepS spec args (wordOf args ix) ix (if off = 0 then 1 else off.toNat)).2, 0) := by
  rw [nextS, if_neg (by simp [hv]), if_neg (by rw [hin]; simp)]

theorem next_sil {spec : Bs} (h : colonL spec = false) {args : List Bs} {ix off : Int} (hv : validS spec = 0) (hin : inR args ix off = true) :
    ((nextS spec args ix off).1.status = 1 ∧ nextS (58 :: spec) args ix off = nextS spec args ix off) ∨
    ((nextS spec args ix off).1.status ≠ 1 ∧ Sil (nextS spec args ix off).1 (nextS (58 :: spec) args ix off).1 ∧ (nextS spec args ix off).2 = (nextS (58 :: spec) args ix off).2) := by
  rw [nextS_eq hv hin, nextS_eq (by rw [valid_colon h]; exact hv) hin]
  by_cases c1 : off = 0 ∧ wordOf args ix = [45, 45]
  · left; simp only [if_pos c1]; exact ⟨rfl, trivial⟩
  · simp only [if_neg c1]
    by_cases c2 : off = 0 ∧ ((wordOf args ix).length < 2 ∨ (wordOf args ix).getD 0 0 ≠ 45)
    · left; simp only [if_pos c2]; exact ⟨rfl, trivial⟩
    · right
      simp only [if_neg c2]
      have hs := step_sil h args (wordOf args ix) ix (if off = 0 then 1 else off.toNat)
      refine ⟨?_, hs.1, by rw [hs.2]⟩
      rcases stepS_status spec args (wordOf args ix) ix (if off = 0 then 1 else off.toNat) with h' | h' <;> simp only [h'] <;> decide

theorem run_sil {spec : Bs} (h : colonL spec = false) {args : List Bs} (hv : validS spec = 0) : ∀ (n : Nat) (st : Int × Int), inR args st.1 st.2 = true → mu args st ≤ n →
    (runS spec args st).2 = (runS (58 :: spec) args st).2 ∧ (runS spec args st).1.length = (runS (58 :: spec) args st).1.length ∧
    ∀ k (h1 : k < (runS spec args st).1.length) (h2 : k < (runS (58 :: spec) args st).1.length), Sil (runS spec args st).1[k] (runS (58 :: spec) args st).1[k] := by
  have hv2 : validS (58 :: spec) = 0 := by rw [valid_colon h]; exact hv
  intro n
  induction n with
  | zero =>
    intro st hin hm
    rcases next_sil h hv hin with ⟨hs, he⟩ | ⟨hs, _⟩
    · rw [runS_end hs, runS_end (by rw [he]; exact hs), he]
      exact ⟨rfl, rfl, fun k h1 => by simp at h1⟩
    · obtain ⟨_, a2, _⟩ := nextS_adv hv hin hs
      rw [show ((st.1, st.2) : Int × Int) = st from rfl] at a2
      omega
  | succ n ih =>
    intro st hin hm
    rcases next_sil h hv hin with ⟨hs, he⟩ | ⟨hs, hsil, he⟩
    · rw [runS_end hs, runS_end (by rw [he]; exact hs), he]
      exact ⟨rfl, rfl, fun k h1 => by simp at h1⟩
    · obtain ⟨a1, a2, _⟩ := nextS_adv hv hin hs
      rw [show ((st.1, st.2) : Int × Int) = st from rfl] at a2
      have hs2 : (nextS (58 :: spec) args st.1 st.2).1.status ≠ 1 := by rw [← hsil.2.1]; exact hs
      obtain ⟨i1, i2, i3⟩ := ih _ a1 (by omega)
      rw [runS_step hv hin hs, runS_step hv2 hin hs2, ← he]
      refine ⟨i1, by simp only [List.length_cons]; omega, fun k h1 h2 => ?_⟩
      cases k with
      | zero => exact hsil
      | succ k => simp only [List.getElem_cons_succ]; exact i3 k (by simpa using h1) (by simpa using h2)

/- Operands. -/
def operandW : Bs := [111, 112, 101, 114, 97, 110, 100]

theorem getD_app {a b : List Bs} {k : Nat} (h : k < a.length) : (a ++ b).getD k [] = a.getD k [] := by
  simp [List.getElem?_append_left h]

theorem next_more {spec : Bs} {a more : List Bs} {ix off : Int} (h1 : 1 ≤ ix) (h2 : ix < a.length) : nextS spec (a ++ more) ix off = nextS spec a ix off := by
  have e1 : (a ++ more).getD (ix - 1).toNat [] = a.getD (ix - 1).toNat [] := getD_app (by omega)
  have hl1 : ix ≤ ((a ++ more).length : Int) := by simp; omega
  have hl2 : ix ≤ (a.length : Int) := by omega
  have e2 : inR (a ++ more) ix off = inR a ix off := by simp only [inR, e1, hl1, hl2, decide_true]
  have e3 : wordOf (a ++ more) ix = wordOf a ix := by simp only [wordOf, e1, hl1, hl2, if_true]
  have e4 : ∀ at_, stepS spec (a ++ more) (wordOf a ix) ix at_ = stepS spec a (wordOf a ix) ix at_ := by
    intro at_
    have h3 : decide (ix < ((a ++ more).length : Int)) = decide (ix < (a.length : Int)) := by
      have : ix < ((a ++ more).length : Int) := by simp; omega
      simp only [this, h2]
    have h4 : (a ++ more).getD ix.toNat [] = a.getD ix.toNat [] := getD_app (by omega)
    simp only [stepS, h3, h4]
  unfold nextS
  simp only [e2, e3, e4]

theorem run_mono {spec : Bs} {args : List Bs} (hv : validS spec = 0) : ∀ (n : Nat) (st : Int × Int), inR args st.1 st.2 = true → mu args st ≤ n → st.1 ≤ (runS spec args st).2.1 := by
  intro n
  induction n with
  | zero =>
    intro st hin hm
    by_cases hs : (nextS spec args st.1 st.2).1.status = 1
    · rw [runS_end hs]
      rcases nextS_ways hv hin with ⟨h, _⟩ | ⟨h, _⟩ | ⟨at_, h, _⟩
      · rw [h]; simp only []; omega
      · rw [h]; simp only []; omega
      · rw [h] at hs; rcases stepS_status spec args (wordOf args st.1) st.1 at_ with h' | h' <;> rw [h'] at hs <;> simp at hs
    · obtain ⟨_, a2, _⟩ := nextS_adv hv hin hs
      rw [show ((st.1, st.2) : Int × Int) = st from rfl] at a2
      omega
  | succ n ih =>
    intro st hin hm
    by_cases hs : (nextS spec args st.1 st.2).1.status = 1
    · rw [runS_end hs]
      rcases nextS_ways hv hin with ⟨h, _⟩ | ⟨h, _⟩ | ⟨at_, h, _⟩
      · rw [h]; simp only []; omega
      · rw [h]; simp only []; omega
      · rw [h] at hs; rcases stepS_status spec args (wordOf args st.1) st.1 at_ with h' | h' <;> rw [h'] at hs <;> simp at hs
    · obtain ⟨a1, a2, a3, _⟩ := nextS_adv hv hin hs
      rw [show ((st.1, st.2) : Int × Int) = st from rfl] at a2
      rw [runS_step hv hin hs]
      have := ih _ a1 (by omega)
      simp only []
      omega

theorem operand_end {spec : Bs} {args more : List Bs} (hv : validS spec = 0) : nextS spec (args ++ [operandW] ++ more) ((args.length : Int) + 1) 0 = (endR, ((args.length : Int) + 1, 0), 0) := by
  have hin : inR (args ++ [operandW] ++ more) ((args.length : Int) + 1) 0 = true := inR_iff.2 ⟨by omega, Int.le_refl _, Or.inl rfl⟩
  have hw : wordOf (args ++ [operandW] ++ more) ((args.length : Int) + 1) = operandW := by
    rw [wordOf, if_pos (by simp; omega), show ((args.length : Int) + 1 - 1).toNat = args.length by omega]
    simp
  rw [nextS_eq hv hin, hw, if_neg (by simp [operandW]), if_pos ⟨rfl, Or.inr (by decide)⟩]

theorem run_operands {spec : Bs} {args more : List Bs} (hv : validS spec = 0) : ∀ (n : Nat) (st : Int × Int), inR (args ++ [operandW]) st.1 st.2 = true → mu (args ++ [operandW]) st ≤ n →
    (st.1 ≤ args.length ∨ st = ((args.length : Int) + 1, 0)) → (runS spec (args ++ [operandW]) st).2.1 ≤ args.length + 1 → inR (args ++ [operandW] ++ more) st.1 st.2 = true →
    runS spec (args ++ [operandW] ++ more) st = runS spec (args ++ [operandW]) st := by
  intro n
  induction n with
  | zero =>
    intro st hin hm hst hfin hin2
    rcases hst with hst | rfl
    · have hne := next_more (spec := spec) (more := more) (off := st.2) (inR_iff.1 hin).1 (a := args ++ [operandW]) (by simp; omega)
      by_cases hs : (nextS spec (args ++ [operandW]) st.1 st.2).1.status = 1
      · rw [runS_end hs, runS_end (by rw [hne]; exact hs), hne]
      · obtain ⟨_, a2, _⟩ := nextS_adv hv hin hs
        rw [show ((st.1, st.2) : Int × Int) = st from rfl] at a2
        omega
    · have e1 := operand_end (args := args) (more := more) hv
      have e2 := operand_end (args := args) (more := []) hv
      rw [List.append_nil] at e2
      rw [runS_end (by simp only [e1]; rfl), runS_end (by simp only [e2]; rfl)]
      simp only [e1, e2]
  | succ n ih =>
    intro st hin hm hst hfin hin2
    rcases hst with hst | rfl
    · have hne := next_more (spec := spec) (more := more) (off := st.2) (inR_iff.1 hin).1 (a := args ++ [operandW]) (by simp; omega)
      by_cases hs : (nextS spec (args ++ [operandW]) st.1 st.2).1.status = 1
      · rw [runS_end hs, runS_end (by rw [hne]; exact hs), hne]
      · obtain ⟨a1, a2, a3, a4⟩ := nextS_adv hv hin hs
        rw [show ((st.1, st.2) : Int × Int) = st from rfl] at a2
        have hs2 : (nextS spec (args ++ [operandW] ++ more) st.1 st.2).1.status ≠ 1 := by rw [hne]; exact hs
        obtain ⟨b1, _⟩ := nextS_adv hv hin2 hs2
        rw [hne] at b1
        have hrs := runS_step hv hin hs
        rw [hrs] at hfin
        simp only [] at hfin
        have hmo := run_mono hv _ _ a1 (Nat.le_refl _)
        have hst' : (nextS spec (args ++ [operandW]) st.1 st.2).2.1.1 ≤ args.length ∨ (nextS spec (args ++ [operandW]) st.1 st.2).2.1 = ((args.length : Int) + 1, 0) := by
          rcases nextS_ways hv hin with ⟨h, _⟩ | ⟨h, _⟩ | ⟨at_, h, _⟩
          · rw [h] at hs; simp [endR] at hs
          · rw [h] at hs; simp [endR] at hs
          · rw [h] at hmo hfin ⊢
            simp only [] at hmo hfin ⊢
            rcases stepS_cases spec (args ++ [operandW]) (wordOf (args ++ [operandW]) st.1) st.1 at_ with ⟨e, _⟩ | e | ⟨e, _⟩
            · left; rw [e]; exact hst
            · rw [e] at hmo hfin ⊢
              by_cases hq : st.1 + 1 ≤ args.length
              · left; exact hq
              · right; simp only [Prod.mk.injEq, and_true]; omega
            · rw [e] at hmo hfin ⊢
              simp only [] at hmo
              by_cases hq : st.1 + 2 ≤ args.length
              · left; exact hq
              · right; simp only [Prod.mk.injEq, and_true]; omega
        have := ih _ a1 (by omega) hst' hfin b1
        rw [hrs, runS_step hv hin2 hs2, hne, this]
    · have e1 := operand_end (args := args) (more := more) hv
      have e2 := operand_end (args := args) (more := []) hv
      rw [List.append_nil] at e2
      rw [runS_end (by simp only [e1]; rfl), runS_end (by simp only [e2]; rfl)]
      simp only [e1, e2]

end Go.Proofs.Ytkenicdcelhdcaa
