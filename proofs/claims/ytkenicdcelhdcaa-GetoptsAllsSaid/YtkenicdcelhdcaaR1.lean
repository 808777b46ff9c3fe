/- Small laws for the walks of jobshellref16.Next. -/
import Derived.Test.YtkenicdcelhdcaaW11
import Derived.Test.YtkenicdcelhdcaaM5
namespace Go.Proofs.Ytkenicdcelhdcaa
open Go.RowKit

theorem out_find {spec : Bs} {Lp : List (UInt8 × Bool)} (hLp : ps (body spec) = some Lp) (c : UInt8) (rest : Bs) (more : Bool) :
    outS spec c rest more = match find Lp c with
      | none => 0
      | some false => 1
      | some true => if rest ≠ [] then 2 else if more then 3 else 4 := by
  unfold outS
  by_cases ho : opt c = true
  · rw [if_pos ho, look_body c ho, look_ps c ho _ _ hLp]
    cases find Lp c with
    | none => rfl
    | some b => cases b <;> rfl
  · rw [if_neg ho]
    have : find Lp c = none := by
      rw [find, Option.map_eq_none_iff, List.find?_eq_none]
      intro x hx
      have := ps_opt _ _ hLp x hx
      simp only [beq_iff_eq]
      intro e
      rw [e] at this
      exact ho this
    rw [this]

theorem sv_alone {spec : Bs} {args : List Bs} {word : Bs} {ix : Int} {at_ : Nat} {Lp : List (UInt8 × Bool)} (hLp : ps (body spec) = some Lp) (hf : find Lp (word.getD at_ 0) = some false) :
    stepS spec args word ix at_ = (⟨[word.getD at_ 0], [], 0, []⟩, if word.drop (at_ + 1) = [] then (ix + 1, 0) else (ix, (at_ : Int) + 1)) := by
  unfold stepS
  simp only [out_find hLp, hf]
  rfl
theorem sv_attached {spec : Bs} {args : List Bs} {word : Bs} {ix : Int} {at_ : Nat} {Lp : List (UInt8 × Bool)} (hLp : ps (body spec) = some Lp) (hf : find Lp (word.getD at_ 0) = some true) (hre : word.drop (at_ + 1) ≠ []) :
    stepS spec args word ix at_ = (⟨[word.getD at_ 0], word.drop (at_ + 1), 0, []⟩, (ix + 1, 0)) := by
  have ho : outS spec (word.getD at_ 0) (word.drop (at_ + 1)) (decide (ix < args.length)) = 2 := by rw [out_find hLp, hf]; simp [hre]
  unfold stepS
  simp only [ho]
  rfl
theorem sv_separate {spec : Bs} {args : List Bs} {word : Bs} {ix : Int} {at_ : Nat} {Lp : List (UInt8 × Bool)} (hLp : ps (body spec) = some Lp) (hf : find Lp (word.getD at_ 0) = some true) (hre : word.drop (at_ + 1) = []) (hm : ix < args.length) :
    stepS spec args word ix at_ = (⟨[word.getD at_ 0], args.getD ix.toNat [], 0, []⟩, (ix + 2, 0)) := by
  have ho : outS spec (word.getD at_ 0) (word.drop (at_ + 1)) (decide (ix < args.length)) = 3 := by rw [out_find hLp, hf]; simp [hre, hm]
  unfold stepS
  simp only [ho]
  rfl
theorem sv_missing {spec : Bs} {args : List Bs} {word : Bs} {ix : Int} {at_ : Nat} {Lp : List (UInt8 × Bool)} (hLp : ps (body spec) = some Lp) (hf : find Lp (word.getD at_ 0) = some true) (hre : word.drop (at_ + 1) = []) (hm : ¬ ix < args.length) :
    stepS spec args word ix at_ = (if colonL spec then ⟨[58], [word.getD at_ 0], 2, []⟩ else ⟨[63], [], 2, reqMsg ++ [word.getD at_ 0]⟩, (ix + 1, 0)) := by
  have ho : outS spec (word.getD at_ 0) (word.drop (at_ + 1)) (decide (ix < args.length)) = 4 := by rw [out_find hLp, hf]; simp [hre, hm]
  unfold stepS
  simp only [ho, if_pos hre]
  rfl
theorem sv_unknown {spec : Bs} {args : List Bs} {word : Bs} {ix : Int} {at_ : Nat} {Lp : List (UInt8 × Bool)} (hLp : ps (body spec) = some Lp) (hf : find Lp (word.getD at_ 0) = none) :
    stepS spec args word ix at_ = (if colonL spec then ⟨[63], [word.getD at_ 0], 2, []⟩ else ⟨[63], [], 2, illMsg ++ [word.getD at_ 0]⟩, if word.drop (at_ + 1) = [] then (ix + 1, 0) else (ix, (at_ : Int) + 1)) := by
  unfold stepS
  simp only [out_find hLp, hf]
  rfl
theorem next_first_eq {spec : Bs} {args : List Bs} {word : Bs} {k : Nat} (hv : validS spec = 0) (hk : k < args.length) (hw : args.getD k [] = word) (hsh : 2 ≤ word.length) (hfst : word.getD 0 0 = 45) (hdd : word ≠ [45, 45]) :
    nextS spec args ((k : Int) + 1) 0 = ((stepS spec args word ((k : Int) + 1) 1).1, (stepS spec args word ((k : Int) + 1) 1).2, 0) := by
  have hwd : wordOf args ((k : Int) + 1) = word := by rw [wordOf, if_pos (by omega), show ((k : Int) + 1 - 1).toNat = k by omega, hw]
  rw [nextS_eq hv (inR_iff.2 ⟨by omega, Int.le_refl _, Or.inl rfl⟩), hwd, if_neg (fun h => hdd h.2), if_neg (fun h => by rcases h.2 with h | h; omega; exact h hfst), if_pos rfl]
theorem next_later_eq {spec : Bs} {args : List Bs} {word : Bs} {k at_ : Nat} (hv : validS spec = 0) (hk : k < args.length) (hw : args.getD k [] = word) (hat1 : 1 ≤ at_) (hatl : at_ < word.length) :
    nextS spec args ((k : Int) + 1) (at_ : Int) = ((stepS spec args word ((k : Int) + 1) at_).1, (stepS spec args word ((k : Int) + 1) at_).2, 0) := by
  have hwd : wordOf args ((k : Int) + 1) = word := by rw [wordOf, if_pos (by omega), show ((k : Int) + 1 - 1).toNat = k by omega, hw]
  have hne : ¬ (at_ : Int) = 0 := by omega
  rw [nextS_eq hv (inR_iff.2 ⟨by omega, by omega, Or.inr ⟨by omega, by rw [show ((k : Int) + 1 - 1).toNat = k by omega, hw]; omega⟩⟩), hwd, if_neg (fun h => hne h.1), if_neg (fun h => hne h.1), if_neg hne, Int.toNat_natCast]

theorem ref_b1 {w1 w2 : World} {o1 o2 : Obj} (hb : Below ((w1.alloc o1).alloc o2).heap.size ((w1.alloc o1).alloc o2) w2) : Below w1.heap.size w1 w2 := by
  have h := below_two (Below.refl w1.heap.size w1) (Nat.le_refl _) o1 o2
  exact h.trans (hb.mono h.size)
theorem ref_b2 {w w1 w2 : World} {N : Nat} {o1 o2 : Obj} (h : Below N w w1) (hb : Below ((w1.alloc o1).alloc o2).heap.size ((w1.alloc o1).alloc o2) w2) (hN : N ≤ w1.heap.size) : Below N w w2 :=
  h.trans ((ref_b1 hb).mono hN)
theorem ref_x {w1 w2 : World} {o1 : Obj} {a b : Value} (hb : Below ((w1.alloc o1).alloc (.cells #[a, b] 29)).heap.size ((w1.alloc o1).alloc (.cells #[a, b] 29)) w2) :
    w2.cell? ⟨w1.heap.size + 1, 0, none⟩ = some a ∧ w2.cell? ⟨w1.heap.size + 1, 1, none⟩ = some b ∧ w2.frozen? ⟨w1.heap.size + 1, 0, none⟩ = false ∧ w2.frozen? ⟨w1.heap.size + 1, 1, none⟩ = false ∧ w1.heap.size + 1 < w2.heap.size := by
  have hs := hb.size
  have hz : ((w1.alloc o1).alloc (.cells #[a, b] 29)).heap.size = w1.heap.size + 2 := by simp
  have k : ∀ j, w2.cell? ⟨w1.heap.size + 1, j, none⟩ = ((w1.alloc o1).alloc (.cells #[a, b] 29)).cell? ⟨w1.heap.size + 1, j, none⟩ := fun j => hb.cell (p := ⟨w1.heap.size + 1, j, none⟩) (by rw [hz]; simp)
  have q : ∀ j, w2.frozen? ⟨w1.heap.size + 1, j, none⟩ = ((w1.alloc o1).alloc (.cells #[a, b] 29)).frozen? ⟨w1.heap.size + 1, j, none⟩ := fun j => hb.frozen (p := ⟨w1.heap.size + 1, j, none⟩) (by rw [hz]; simp)
  refine ⟨?_, ?_, ?_, ?_, by rw [hz] at hs; omega⟩
  · rw [k]; simp [go_sem]
  · rw [k]; simp [go_sem]
  · rw [q]; simp [go_sem]
  · rw [q]; simp [go_sem]
theorem below_x {N m : Nat} {w w2 : World} (h : Below N w w2) (hN : N ≤ m) (a b : Value) : Below N w ((w2.setCell ⟨m + 1, 0, none⟩ a).setCell ⟨m + 1, 1, none⟩ b) :=
  (h.setCell (p := ⟨m + 1, 0, none⟩) (Nat.le_succ_of_le hN) a).setCell (p := ⟨m + 1, 1, none⟩) (Nat.le_succ_of_le hN) b

end Go.Proofs.Ytkenicdcelhdcaa
