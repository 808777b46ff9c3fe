/- The next option and all options, as plain functions. No program here. -/
import Derived.Test.YtkenicdcelhdcaaM1
namespace Go.Proofs.Ytkenicdcelhdcaa

structure OptR where
  letter : Bs
  arg : Bs
  status : Int
  msg : Bs
  deriving DecidableEq

/-- What 'outcome' says: 0 unknown, 1 alone, 2 attached, 3 separate, 4 missing. -/
def outS (spec : Bs) (c : UInt8) (rest : Bs) (more : Bool) : Int :=
  if opt c then
    match look spec c with
    | none => 0
    | some false => 1
    | some true => if rest ≠ [] then 2 else if more then 3 else 4
  else 0

theorem outS_cases (spec : Bs) (c : UInt8) (rest : Bs) (more : Bool) : outS spec c rest more = 0 ∨ outS spec c rest more = 1 ∨ (outS spec c rest more = 2 ∧ rest ≠ []) ∨ (outS spec c rest more = 3 ∧ more = true) ∨ outS spec c rest more = 4 := by
  unfold outS
  split
  · split
    · simp
    · simp
    · by_cases h : rest = []
      · cases more <;> simp [h]
      · simp [h]
  · simp

def reqMsg : Bs := [111, 112, 116, 105, 111, 110, 32, 114, 101, 113, 117, 105, 114, 101, 115, 32, 97, 110, 32, 97, 114, 103, 117, 109, 101, 110, 116, 32, 45, 45, 32]
def illMsg : Bs := [105, 108, 108, 101, 103, 97, 108, 32, 111, 112, 116, 105, 111, 110, 32, 45, 45, 32]

def colonL (spec : Bs) : Bool := spec.head? == some 58

def stepS (spec : Bs) (args : List Bs) (word : Bs) (ix : Int) (at_ : Nat) : OptR × (Int × Int) :=
  let c := word.getD at_ 0
  let rest := word.drop (at_ + 1)
  let after : Int × Int := if rest = [] then (ix + 1, 0) else (ix, at_ + 1)
  let o := outS spec c rest (decide (ix < args.length))
  if o = 1 then (⟨[c], [], 0, []⟩, after)
  else if o = 2 then (⟨[c], rest, 0, []⟩, (ix + 1, 0))
  else if o = 3 then (⟨[c], args.getD ix.toNat [], 0, []⟩, (ix + 2, 0))
  else if o = 4 then (if colonL spec then ⟨[58], [c], 2, []⟩ else ⟨[63], [], 2, reqMsg ++ [c]⟩, after)
  else (if colonL spec then ⟨[63], [c], 2, []⟩ else ⟨[63], [], 2, illMsg ++ [c]⟩, after)

def endR : OptR := ⟨[63], [], 1, []⟩
def zeroR : OptR := ⟨[], [], 0, []⟩

/-- Whether a state is a position in the arguments, or after them. -/
def inR (args : List Bs) (ix off : Int) : Bool :=
  decide (1 ≤ ix) && decide (0 ≤ off) && (off == 0 || (decide (ix ≤ args.length) && decide (off < (args.getD (ix - 1).toNat []).length)))

def wordOf (args : List Bs) (ix : Int) : Bs := if ix ≤ args.length then args.getD (ix - 1).toNat [] else []

def nextS (spec : Bs) (args : List Bs) (ix off : Int) : OptR × (Int × Int) × Int :=
  if validS spec ≠ 0 then (zeroR, (0, 0), validS spec)
  else if inR args ix off = false then (zeroR, (0, 0), 2)
  else
    let word := wordOf args ix
    if off = 0 ∧ word = [45, 45] then (endR, (ix + 1, 0), 0)
    else if off = 0 ∧ (word.length < 2 ∨ word.getD 0 0 ≠ 45) then (endR, (ix, off), 0)
    else
      let r := stepS spec args word ix (if off = 0 then 1 else off.toNat)
      (r.1, r.2, 0)

end Go.Proofs.Ytkenicdcelhdcaa
