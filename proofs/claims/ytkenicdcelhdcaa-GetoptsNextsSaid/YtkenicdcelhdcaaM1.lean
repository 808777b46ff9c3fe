/- The plain functions that the two packages compute: option specifications, the next option, all options. No program here. -/
import Derived.Below
namespace Go.Proofs.Ytkenicdcelhdcaa

abbrev Bs := List UInt8

def optB (c : Int) : Bool := (decide (97 ≤ c) && decide (c ≤ 122)) || (decide (65 ≤ c) && decide (c ≤ 90)) || (decide (48 ≤ c) && decide (c ≤ 57))
def opt (c : UInt8) : Bool := optB (c.toNat : Int)

theorem opt_58 : opt 58 = false := by decide

/-- The letters of a specification, and which of them take arguments. -/
def ps : Bs → Option (List (UInt8 × Bool))
  | [] => some []
  | [c] => if opt c then some [(c, false)] else none
  | c :: d :: r => if opt c then (if d = 58 then (ps r).map ((c, true) :: ·) else (ps (d :: r)).map ((c, false) :: ·)) else none

def body : Bs → Bs
  | [] => []
  | c :: r => if c = 58 then r else c :: r

def validS (spec : Bs) : Int :=
  match ps (body spec) with
  | none => 6
  | some L => if (L.map Prod.fst).Nodup then 0 else 9

/-- The program's loop: the letters that were seen, and whether one came twice. -/
def vl : Bs → List UInt8 → Bool → Int
  | [], _, tw => if tw then 9 else 0
  | [c], seen, tw => if opt c then (if tw || seen.contains c then 9 else 0) else 6
  | c :: d :: r, seen, tw => if opt c then (if d = 58 then vl r (c :: seen) (tw || seen.contains c) else vl (d :: r) (c :: seen) (tw || seen.contains c)) else 6

theorem vl_true (l : Bs) : ∀ seen, vl l seen true = match ps l with | none => 6 | some _ => 9 := by
  induction l using ps.induct with
  | case1 => intro seen; simp [vl, ps]
  | case2 c h => intro seen; simp [vl, ps, h]
  | case3 c h => intro seen; simp [vl, ps, h]
  | case4 c r h ih => intro seen; simp only [vl, ps, h, Bool.true_or, if_true, ih]; cases ps r <;> simp
  | case5 c d r h hd ih => intro seen; simp only [vl, ps, h, hd, Bool.true_or, if_true, if_false, ih]; cases ps (d :: r) <;> simp
  | case6 c d r h => intro seen; simp [vl, ps, h]

theorem nd_iff (c : UInt8) (M seen : List UInt8) (hc : c ∉ seen) :
    (M.Nodup ∧ ∀ x ∈ M, x ∉ c :: seen) ↔ ((c :: M).Nodup ∧ ∀ x ∈ c :: M, x ∉ seen) := by
  rw [List.nodup_cons]
  constructor
  · rintro ⟨h1, h2⟩
    refine ⟨⟨fun hm => h2 c hm (by simp), h1⟩, fun x hx hs => ?_⟩
    rcases List.mem_cons.1 hx with rfl | hx
    · exact hc hs
    · exact h2 x hx (List.mem_cons_of_mem _ hs)
  · rintro ⟨⟨h1, h2⟩, h3⟩
    refine ⟨h2, fun x hx hs => ?_⟩
    rcases List.mem_cons.1 hs with rfl | hs
    · exact h1 hx
    · exact h3 x (List.mem_cons_of_mem _ hx) hs

theorem vl_false (l : Bs) : ∀ seen, vl l seen false = match ps l with
    | none => 6
    | some L => if (L.map Prod.fst).Nodup ∧ ∀ x ∈ L.map Prod.fst, x ∉ seen then 0 else 9 := by
  induction l using ps.induct with
  | case1 => intro seen; simp [vl, ps]
  | case2 c h => intro seen; simp [vl, ps, h]
  | case3 c h => intro seen; simp [vl, ps, h]
  | case4 c r h ih =>
    intro seen
    simp only [vl, ps, h, Bool.false_or, if_true]
    by_cases hc : c ∈ seen
    · rw [show seen.contains c = true by simpa using hc, vl_true]
      cases ps r <;> simp [hc]
    · rw [show seen.contains c = false by simpa using hc, ih]
      cases ps r with
      | none => simp
      | some L =>
        simp only [Option.map_some, List.map_cons, nd_iff c _ seen hc]
  | case5 c d r h hd ih =>
    intro seen
    simp only [vl, ps, h, hd, Bool.false_or, if_true, if_false]
    by_cases hc : c ∈ seen
    · rw [show seen.contains c = true by simpa using hc, vl_true]
      cases ps (d :: r) <;> simp [hc]
    · rw [show seen.contains c = false by simpa using hc, ih]
      cases ps (d :: r) with
      | none => simp
      | some L =>
        simp only [Option.map_some, List.map_cons, nd_iff c _ seen hc]
  | case6 c d r h => intro seen; simp [vl, ps, h]

theorem vl_valid (spec : Bs) : vl (body spec) [] false = validS spec := by
  rw [vl_false, validS]
  cases ps (body spec) <;> simp

/-- The reference's loop: the letters and marks so far. -/
def lt : Bs → List (UInt8 × Bool) → Option (List (UInt8 × Bool))
  | [], acc => some acc
  | c :: r, acc =>
    if opt c then lt r (acc ++ [(c, false)])
    else if c = 58 then
      match acc.getLast? with
      | some (x, false) => lt r (acc.dropLast ++ [(x, true)])
      | _ => none
    else none

theorem lt_ps (l : Bs) : ∀ acc, (∀ x ∈ acc.getLast?, x.2 = true) ∨ (∀ r, l ≠ 58 :: r) → lt l acc = (ps l).map (acc ++ ·) := by
  induction l using ps.induct with
  | case1 => intro acc _; simp [lt, ps]
  | case2 c h => intro acc _; simp [lt, ps, h]
  | case3 c h =>
    intro acc ha
    simp only [lt, ps, h]
    by_cases hc : c = 58
    · subst hc
      rcases ha with ha | ha
      · cases hg : acc.getLast? with
        | none => simp
        | some x => have := ha x (by rw [hg]; rfl); obtain ⟨a, b⟩ := x; simp at this; subst this; simp
      · exact absurd rfl (ha [])
    · simp [hc]
  | case4 c r h ih =>
    intro acc _
    simp only [lt, ps, h, if_true, opt_58, List.getLast?_concat, List.dropLast_concat]
    rw [ih (acc ++ [(c, true)]) (by left; simp)]
    cases ps r <;> simp
  | case5 c d r h hd ih =>
    intro acc _
    simp only [lt.eq_2 acc c, ps, h, hd, if_true, if_false]
    rw [ih (acc ++ [(c, false)]) (by right; intro r' e; injection e with e1 _; exact hd e1)]
    cases ps (d :: r) <;> simp
  | case6 c d r h =>
    intro acc ha
    simp only [lt.eq_2 acc c, ps, h]
    by_cases hc : c = 58
    · subst hc
      rcases ha with ha | ha
      · cases hg : acc.getLast? with
        | none => simp
        | some x => have := ha x (by rw [hg]; rfl); obtain ⟨a, b⟩ := x; simp at this; subst this; simp
      · exact absurd rfl (ha _)
    · simp [hc]

theorem lt_nil (l : Bs) : lt l [] = ps l := by
  rw [lt_ps l [] (by left; simp)]; cases ps l <;> simp

/-- Whether a letter is there, and whether it takes an argument. -/
def find (L : List (UInt8 × Bool)) (b : UInt8) : Option Bool := (L.find? fun x => x.1 == b).map Prod.snd

theorem ps_opt (l : Bs) : ∀ L, ps l = some L → ∀ x ∈ L, opt x.1 = true := by
  induction l using ps.induct with
  | case1 => intro L h; simp [ps] at h; subst h; simp
  | case2 c h => intro L e; simp [ps, h] at e; subst e; simpa using h
  | case3 c h => intro L e; simp [ps, h] at e
  | case4 c r h ih =>
    intro L e
    simp only [ps, h, if_true, Option.map_eq_some_iff] at e
    obtain ⟨M, hM, rfl⟩ := e
    intro x hx
    rcases List.mem_cons.1 hx with rfl | hx
    · exact h
    · exact ih M hM x hx
  | case5 c d r h hd ih =>
    intro L e
    simp only [ps, h, hd, if_true, if_false, Option.map_eq_some_iff] at e
    obtain ⟨M, hM, rfl⟩ := e
    intro x hx
    rcases List.mem_cons.1 hx with rfl | hx
    · exact h
    · exact ih M hM x hx
  | case6 c d r h => intro L e; simp [ps, h] at e

/-- The program's look at the specification: the first place of the letter, and the byte behind it. -/
def look (l : Bs) (b : UInt8) : Option Bool :=
  match l with
  | [] => none
  | c :: r => if c = b then some (r.head? == some 58) else look r b

theorem look_ps (b : UInt8) (hb : opt b = true) (l : Bs) : ∀ L, ps l = some L → look l b = find L b := by
  have h58 : b ≠ 58 := by rintro rfl; simp [opt_58] at hb
  induction l using ps.induct with
  | case1 => intro L h; simp [ps] at h; subst h; simp [look, find]
  | case2 c h =>
    intro L e; simp [ps, h] at e; subst e
    by_cases hc : c = b <;> simp [look, find, hc]
  | case3 c h => intro L e; simp [ps, h] at e
  | case4 c r h ih =>
    intro L e
    simp only [ps, h, if_true, Option.map_eq_some_iff] at e
    obtain ⟨M, hM, rfl⟩ := e
    by_cases hc : c = b
    · simp [look, find, hc]
    · simp only [look, hc, if_false, h58.symm, ih M hM]; simp [find, hc]
  | case5 c d r h hd ih =>
    intro L e
    simp only [ps, h, hd, if_true, if_false, Option.map_eq_some_iff] at e
    obtain ⟨M, hM, rfl⟩ := e
    by_cases hc : c = b
    · simp [look, find, hc, hd]
    · rw [look, if_neg hc, ih M hM]; simp [find, hc]
  | case6 c d r h => intro L e; simp [ps, h] at e

theorem look_body (b : UInt8) (hb : opt b = true) (spec : Bs) : look spec b = look (body spec) b := by
  have h58 : b ≠ 58 := by rintro rfl; simp [opt_58] at hb
  cases spec with
  | nil => rfl
  | cons c r =>
    by_cases hc : c = 58
    · subst hc; simp [body, look, h58.symm]
    · simp [body, hc]

end Go.Proofs.Ytkenicdcelhdcaa
