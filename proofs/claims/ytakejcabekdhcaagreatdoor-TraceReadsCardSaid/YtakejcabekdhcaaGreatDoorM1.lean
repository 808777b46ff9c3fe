/- Plain laws: quoting, and the line of a traced command. No program here. -/
import Derived.Lib.Replace
import Derived.Lib.IndexLaws
import Derived.Lib.IndexBytes
namespace Go.Proofs.YtakejcabekdhcaaGreatDoor

abbrev Bs := List UInt8
def letB (c : Int) : Bool := decide ((65 ≤ c ∧ c ≤ 90) ∨ (97 ≤ c ∧ c ≤ 122))
def digB (c : Int) : Bool := decide (48 ≤ c ∧ c ≤ 57)
def marks : Bs := [95, 45, 46, 47, 44, 58, 43, 37, 64, 94]
def okB (c : UInt8) : Bool := letB c.toNat || digB c.toNat || marks.contains c
def plainS (l : Bs) : Bool := !l.isEmpty && l.all okB
def escS (l : Bs) : Bs := l.flatMap fun c => if c == 39 then [39, 92, 39, 39] else [c]
def quoteS (l : Bs) : Bs := if plainS l then l else 39 :: (escS l ++ [39])
def lineS (fs : List Bs) : Bs := 43 :: fs.flatMap fun f => 32 :: quoteS f

theorem escS_length (l : Bs) : (escS l).length ≤ 4 * l.length := by
  induction l with
  | nil => simp [escS]
  | cons c r ih =>
    unfold escS at ih ⊢
    rw [List.flatMap_cons, List.length_append, List.length_cons]
    by_cases h : (c == 39) = true
    · rw [if_pos h]; simp only [List.length_cons, List.length_nil]; omega
    · rw [if_neg h]; simp only [List.length_cons, List.length_nil]; omega
theorem quoteS_length (l : Bs) : (quoteS l).length ≤ 4 * l.length + 2 := by
  unfold quoteS
  split
  · omega
  · have := escS_length l
    simp only [List.length_cons, List.length_append, List.length_nil]; omega
theorem escS_none {l : Bs} (h : (39 : UInt8) ∉ l) : escS l = l := by
  induction l with
  | nil => rfl
  | cons c r ih =>
    have hc : (c == (39 : UInt8)) = false := by
      simp only [List.mem_cons, not_or] at h
      exact beq_eq_false_iff_ne.2 (fun e => h.1 e.symm)
    have hr : (39 : UInt8) ∉ r := fun hh => h (List.mem_cons_of_mem _ hh)
    have := ih hr
    unfold escS at this ⊢
    rw [List.flatMap_cons, hc, this]
    rfl

end Go.Proofs.YtakejcabekdhcaaGreatDoor
