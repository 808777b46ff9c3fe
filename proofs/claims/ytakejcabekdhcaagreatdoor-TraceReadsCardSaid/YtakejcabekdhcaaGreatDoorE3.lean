/- A verified evaluator for closed runs, part E3: what it computes holds of every run of the program. -/
import Derived.Test.YtakejcabekdhcaaGreatDoorE2
import Derived.Orders
import Derived.Recover
/- The evaluator, part 16: the code. -/
noncomputable section
namespace Go.Ev

variable {P : Program} {ρ : Rho} {h : Heap} {w : World} {N : Nat} {fm : Fm} {a : Act}

def Res.All {α : Type} (K : α → Prop) : Res α → Prop
  | .fail => False
  | .one x => K x
  | .br x y => x.All K ∧ y.All K
theorem Res.All.mono {α : Type} {K K' : α → Prop} : ∀ {r : Res α}, r.All K → (∀ x, K x → K' x) → r.All K'
  | .fail, hr, _ => hr
  | .one x, hr, hk => hk x hr
  | .br x y, hr, hk => ⟨Res.All.mono hr.1 hk, Res.All.mono hr.2 hk⟩
theorem Res.All.bind {α β : Type} {K : β → Prop} {k : α → Res β} : ∀ {r : Res α}, (r.bind k).All K → r.All (fun x => (k x).All K)
  | .fail, hr => hr
  | .one x, hr => hr
  | .br x y, hr => ⟨Res.All.bind hr.1, Res.All.bind hr.2⟩

def Ex.ex (ρ : Rho) : Ex → Exit
  | .norm => .normal
  | .exit id => .exit id
  | .ret => .ret
  | .pan v => .panic [{ v := conc ρ v, recovered := false }]
def Ex.sc (ρ : Rho) (nx : Nat) : Ex → Prop
  | .pan v => Ev.sc ρ nx v
  | _ => True

def Post (ρ : Rho) (h : Heap) (w : World) (N : Nat) (Q : Exit → Act → World → Prop) (o : Out) : Prop :=
  ∀ ρ' w' a', Rel ρ' o.h w' → ActRel ρ' o.h.nx N o.f o.d a' → Ext ρ h w ρ' o.h w' → o.e.sc ρ' o.h.nx → Q (o.e.ex ρ') a' w'
def CPost (ρ : Rho) (h : Heap) (w : World) (R : Ending → World → Prop) : CO → Prop
  | .ret v h' => ∀ ρ' w', Rel ρ' h' w' → Ext ρ h w ρ' h' w' → sc ρ' h'.nx v → R (.returned (conc ρ' v)) w'
  | .pan v h' => ∀ ρ' w', Rel ρ' h' w' → Ext ρ h w ρ' h' w' → sc ρ' h'.nx v → R (.panicked [{ v := conc ρ' v, recovered := false }]) w'

theorem Post.ext {ρ1 : Rho} {h1 : Heap} {w1 : World} {Q : Exit → Act → World → Prop} {o : Out} (hp : Post ρ h w N Q o) (hx : Ext ρ h w ρ1 h1 w1) : Post ρ1 h1 w1 N Q o :=
  fun ρ' w' a' q1 q2 q3 q4 => hp ρ' w' a' q1 q2 (hx.trans q3) q4
theorem CPost.ext {ρ1 : Rho} {h1 : Heap} {w1 : World} {R : Ending → World → Prop} {o : CO} (hp : CPost ρ h w R o) (hx : Ext ρ h w ρ1 h1 w1) : CPost ρ1 h1 w1 R o := by
  cases o with
  | ret v h' => exact fun ρ' w' q1 q3 q4 => hp ρ' w' q1 (hx.trans q3) q4
  | pan v h' => exact fun ρ' w' q1 q3 q4 => hp ρ' w' q1 (hx.trans q3) q4

def GoOk (P : Program) (go : Go) : Prop := ∀ (c : Code) (N : Nat) (fm : Fm) (d : List Dfr) (h : Heap) (ρ : Rho) (a : Act) (w : World) (Q : Exit → Act → World → Prop),
  Rel ρ h w → ActRel ρ h.nx N fm d a → (go c N fm d h).All (Post ρ h w N Q) → c.wp P Q a w
def CallOk (P : Program) (cl : Nat → List AV → Heap → Res CO) : Prop := ∀ (f : Nat) (args : List AV) (h : Heap) (ρ : Rho) (w : World) (R : Ending → World → Prop),
  Rel ρ h w → scL ρ h.nx args → (cl f args h).All (CPost ρ h w R) → Calls P f (args.map (conc ρ)).toArray w R

theorem conc_bool {v : AV} {b : Bool} (hv : conc ρ v = .bool b) : v = .bool b := by
  cases v <;> simp [conc] at hv
  subst hv; rfl
theorem tmps_bool {nx : Nat} {tmps : Array Value} (hf : FmRel ρ nx N fm tmps) (d : Nat) (b : Bool) : tmps[d]? = some (.bool b) ↔ fm.get d = some (.bool b) := by
  have h1 := (hf.2 d).1
  unfold Fm.slot at h1
  rw [Array.getD_eq_getD_getElem?] at h1
  constructor
  · intro e
    rw [e] at h1
    have := conc_bool h1.symm
    cases hg : fm.get d with
    | none => rw [hg] at this; cases this
    | some v => rw [hg] at this; rw [← this]
  · intro e
    rw [e] at h1
    cases hg : tmps[d]? with
    | none => rw [hg] at h1; cases h1
    | some v => rw [hg] at h1; rw [← show v = Value.bool b from h1]
theorem want_ok {nx : Nat} {tmps : Array Value} (hf : FmRel ρ nx N fm tmps) (ops : Array Oper) (o : Oper) : wantA ops fm o = Region.wanted o (yielded ops tmps) := by
  unfold wantA Region.wanted
  cases hg : o.guard with
  | none => rfl
  | some p =>
    obtain ⟨j, want⟩ := p
    show wantG ops fm (j, want) = (yielded ops tmps j == some want)
    unfold wantG yielded
    simp only []
    cases hj : ops[j]? with
    | none => rfl
    | some g =>
      simp only [Option.bind_some]
      cases hd : g.dst with
      | none => rfl
      | some d =>
        simp only [Option.bind_some]
        cases hv : fm.get d with
        | none =>
          simp only []
          have hno : ∀ b, tmps[d]? ≠ some (.bool b) := fun b e => by rw [(tmps_bool hf d b).1 e] at hv; cases hv
          symm
          split
          · rename_i b hb; exact absurd hb (hno b)
          · rfl
        | some v =>
          by_cases hb : ∃ b, v = .bool b
          · obtain ⟨b, rfl⟩ := hb
            rw [(tmps_bool hf d b).2 hv]
            cases b <;> cases want <;> rfl
          · have hno : ∀ b, tmps[d]? ≠ some (.bool b) := fun b e => by
              have := (tmps_bool hf d b).1 e
              rw [hv] at this
              injection this with this
              exact hb ⟨b, this⟩
            refine Eq.trans (b := false) (by cases v <;> first | rfl | exact absurd ⟨_, rfl⟩ hb) ?_
            symm
            split
            · rename_i b hb'; exact absurd hb' (hno b)
            · rfl

theorem alts_all {K : Out → Prop} {k : AV → Heap → Res Out} : ∀ {l : List (AV × Heap)}, (alts k l).All K → ∀ p ∈ l, (k p.1 p.2).All K
  | [], _, p, hp => by simp at hp
  | [(v, h)], ha, p, hp => by
    simp only [List.mem_singleton] at hp
    subst hp
    exact ha
  | (v, h) :: q :: r, ha, p, hp => by
    rcases List.mem_cons.1 hp with rfl | hp
    · exact ha.1
    · exact alts_all ha.2 p hp

theorem val_step {Q : Exit → Act → World → Prop} {o : Oper} {d : List Dfr} {r : Result Next} {v : AV} {h' : Heap} {next : Act → World → Prop} (hact : ActRel ρ h.nx N fm d a) (hv : ValIs ρ h w r v h')
    (hn : ∀ ρ' w' a', Rel ρ' h' w' → Ext ρ h w ρ' h' w' → ActRel ρ' h'.nx N (Fm.put fm N o.dst v) d a' → next a' w') : o.upon P a next Q r := by
  obtain ⟨ρ', w', nx, rfl, hnx, hr', hx, hs⟩ := hv
  have hact' := (hact.ext hx.same hx.nx).put o.dst hs
  rcases hnx with rfl | ⟨rfl, rfl⟩
  · exact hn ρ' w' _ hr' hx hact'
  · exact hn ρ' w' _ hr' hx hact'

theorem evOps_ok (hg : Good P) {cl : Nat → List AV → Heap → Res CO} (hcl : CallOk P cl) (ops : Array Oper) (Q : Exit → Act → World → Prop) : ∀ (l : List Oper) (k : Nat) (fm : Fm) (d : List Dfr) (h : Heap) (ρ : Rho) (a : Act) (w : World), ops.toList.drop k = l → Rel ρ h w → ActRel ρ h.nx N fm d a →
    (evOps (Env.of P) cl ops N l fm d h).All (Post ρ h w N Q) → wpOps P ops Q (List.range' k l.length) a w := by
  intro l
  induction l with
  | nil =>
    intro k fm d h ρ a w _ hr hact hall
    exact hall ρ w a hr hact (Ext.refl _ _ _) trivial
  | cons o r ih =>
    intro k fm d h ρ a w hl hr hact hall
    have hk : ops[k]? = some o := by
      rw [← Array.getElem?_toList]
      have : (ops.toList.drop k)[0]? = some o := by rw [hl]; rfl
      simpa using this
    have hr' : ops.toList.drop (k + 1) = r := by
      rw [← List.drop_drop, hl]; rfl
    rw [List.length_cons, List.range'_succ]
    unfold wpOps
    rw [hk]
    simp only []
    have hwant := want_ok hact.fm ops o
    have hev : evOps (Env.of P) cl ops N (o :: r) fm d h = evOp (Env.of P) cl ops N o (evOps (Env.of P) cl ops N r) fm d h := rfl
    rw [hev] at hall
    unfold evOp at hall
    cases hw : wantA ops fm o with
    | false =>
      rw [hw] at hall hwant
      rw [← hwant]
      simp only [Bool.false_eq_true, if_false]
      exact ih (k + 1) _ d h ρ _ w hr' hr (hact.put o.dst (v := .tup []) trivial) hall
    | true =>
      rw [hw] at hall hwant
      rw [← hwant]
      simp only [if_true]
      left
      have hsays := opx_ok hg hr hact.fm o
      unfold Oper.wp
      have hall' : (kOR (opx (Env.of P) fm h o) ⟨evOps (Env.of P) cl ops N r, cl, N, o.dst, fm, d, h⟩).All (Post ρ h w N Q) := hall
      have hnext : ∀ (v : AV) (h' : Heap), (evOps (Env.of P) cl ops N r (Fm.put fm N o.dst v) d h').All (Post ρ h w N Q) → ∀ ρ' w' a', Rel ρ' h' w' → Ext ρ h w ρ' h' w' → ActRel ρ' h'.nx N (Fm.put fm N o.dst v) d a' → wpOps P ops Q (List.range' (k + 1) r.length) a' w' :=
        fun v h' hv ρ' w' a' q1 q2 q3 => ih (k + 1) _ d h' ρ' a' w' hr' q1 q3 (hv.mono fun x hx => hx.ext q2)
      cases hop : opx (Env.of P) fm h o with
      | fail => rw [hop] at hall'; exact hall'.elim
      | val v h' =>
        rw [hop] at hall' hsays
        exact val_step hact hsays (hnext v h' hall')
      | call f args =>
        rw [hop] at hall' hsays
        obtain ⟨e1, e2⟩ := hsays
        rw [e1, Oper.upon_enter]
        refine hcl f args h ρ w _ hr e2 ((Res.All.bind hall').mono fun co hco => ?_)
        cases co with
        | ret v h' => exact fun ρ' w' q1 q2 q3 => hnext v h' hco ρ' w' _ q1 q2 ((hact.ext q2.same q2.nx).put o.dst q3)
        | pan v h' => exact fun ρ' w' q1 q2 q3 => hco ρ' w' a q1 (hact.ext q2.same q2.nx) q2 q3
      | pan v =>
        rw [hop] at hall' hsays
        obtain ⟨e1, e2⟩ := hsays
        rw [e1, Oper.upon_panic]
        exact hall' ρ w a hr hact (Ext.refl _ _ _) e2
      | dfr d' =>
        rw [hop] at hall' hsays
        obtain ⟨e1, e2, e3⟩ := hsays
        rw [e1, Oper.upon_defer]
        have hact1 : ActRel ρ h.nx N fm (d' :: d) { a with defers := concD ρ d' :: a.defers } := ⟨hact.fm, by rw [hact.df.1]; rfl, fun x hx => by
          rcases List.mem_cons.1 hx with rfl | hx
          · exact ⟨e2, e3⟩
          · exact hact.df.2 x hx⟩
        exact ih (k + 1) _ (d' :: d) h ρ _ w hr' hr (hact1.put o.dst (v := .tup []) trivial) hall'
      | rcv => rw [hop] at hall'; exact hall'.elim
      | alt l =>
        rw [hop] at hall' hsays
        obtain ⟨p, hp, hv⟩ := hsays
        exact val_step hact hv (hnext p.1 p.2 (alts_all hall' p hp))

theorem wp_region_ok (hg : Good P) {cl : Nat → List AV → Heap → Res CO} (hcl : CallOk P cl) {id : Nat} {ops : Array Oper} {Q : Exit → Act → World → Prop} {d : List Dfr} (hr : Rel ρ h w) (hact : ActRel ρ h.nx N fm d a)
    (hall : (evOps (Env.of P) cl ops N ops.toList fm d h).All (Post ρ h w N Q)) : (Code.region id ops false).wp P Q a w := by
  apply wp_region
  have := evOps_ok hg hcl ops Q ops.toList 0 fm d h ρ a w (by simp) hr hact hall
  rw [List.range_eq_range']
  simpa using this

end Go.Ev
/- The evaluator: drawn regions, part 1: equality of values; an operation looks at its operands alone. -/
noncomputable section
namespace Go.Ev

theorem eqL_eq {f : AV → AV → Bool} (hf : ∀ u v, f u v = true → u = v) : ∀ (l m : List AV), eqL f l m = true → l = m
  | [], [], _ => rfl
  | x :: r, y :: s, h => by
    simp only [eqL, Bool.and_eq_true] at h
    rw [hf x y h.1, eqL_eq hf r s h.2]
  | [], _ :: _, h => by cases h
  | _ :: _, [], h => by cases h
theorem eqV_eq : ∀ (d : Nat) (u v : AV), eqV d u v = true → u = v := by
  intro d
  induction d with
  | zero => intro u v h; cases h
  | succ d ih =>
    intro u v h
    cases u <;> cases v <;> first | cases h | skip
    all_goals first | rfl | skip
    case bool.bool a b => simp only [eqV, beq_iff_eq] at h; rw [h]
    case int.int k n j m => simp only [eqV, Bool.and_eq_true, eqF_eq, decide_eq_true_eq] at h; rw [keq_eq h.1, h.2]
    case str.str n x m y => simp only [eqV, Bool.and_eq_true] at h; rw [beq_eq h.1, beq_eq h.2]
    case ptr.ptr b o c p => simp only [eqV, Bool.and_eq_true] at h; rw [beq_eq h.1, beq_eq h.2]
    case sl.sl => simp only [eqV, Bool.and_eq_true] at h; rw [beq_eq h.1.1.1, beq_eq h.1.1.2, beq_eq h.1.2, beq_eq h.2]
    case slu.slu => simp only [eqV, Bool.and_eq_true] at h; rw [beq_eq h.1.1.1.1, beq_eq h.1.1.1.2, beq_eq h.1.1.2, beq_eq h.1.2, beq_eq h.2]
    case map.map => simp only [eqV] at h; rw [beq_eq h]
    case fn.fn => simp only [eqV, Bool.and_eq_true] at h; rw [beq_eq h.1.1, eqL_eq ih _ _ h.1.2, eqL_eq ih _ _ h.2]
    case ifc.ifc => simp only [eqV, Bool.and_eq_true] at h; rw [beq_eq h.1, ih _ _ h.2]
    case agg.agg => simp only [eqV] at h; rw [eqL_eq ih _ _ h]
    case tup.tup => simp only [eqV] at h; rw [eqL_eq ih _ _ h]

theorem mapO_congr {α β : Type} {f g : α → Option β} : ∀ (l : List α), (∀ x ∈ l, f x = g x) → mapO f l = mapO g l
  | [], _ => rfl
  | x :: r, h => by
    unfold mapO
    rw [h x (by simp), mapO_congr r (fun y hy => h y (by simp [hy]))]
theorem bndA_congr {fm fm' : Fm} {x : Option Operand} (h : ∀ y, x = some y → ro fm y = ro fm' y) (d : Nat) : bndA fm x d = bndA fm' x d := by
  cases x with
  | none => rfl
  | some y => unfold bndA; simp only [h y rfl]

theorem opx_congr (E : Env) {fm fm' : Fm} (h : Heap) (o : Oper) (hs : ∀ x ∈ o.op.operands, ro fm x = ro fm' x) : opx E fm h o = opx E fm' h o := by
  obtain ⟨dst, op, type, pos, after, guard⟩ := o
  unfold opx
  cases op <;> simp only [Op.operands] at hs
  case build t ps =>
    have hp : ∀ p ∈ ps.toList, ro fm p.2 = ro fm' p.2 := fun p hp => hs p.2 (by simp; exact ⟨p.1, by simpa using hp⟩)
    show aBuild t ps E fm h = aBuild t ps E fm' h
    unfold aBuild xBuild
    have e1 : ∀ fields, mapO (partS E fields fm) ps.toList = mapO (partS E fields fm') ps.toList := fun fields => mapO_congr _ fun p hp' => by unfold partS; rw [hp p hp']
    have e2 : ∀ s, mapO (partE s fm) ps.toList = mapO (partE s fm') ps.toList := fun s => mapO_congr _ fun p hp' => by unfold partE; rw [hp p hp']
    simp only [e1, e2]
  case buildSlice t n ps =>
    have hp : ∀ p ∈ ps.toList, ro fm p.2 = ro fm' p.2 := fun p hp => hs p.2 (by simp; exact ⟨p.1, by simpa using hp⟩)
    show aBuildSlice t n ps E fm h = aBuildSlice t n ps E fm' h
    unfold aBuildSlice xBuildSlice
    have e2 : ∀ s, mapO (partE s fm) ps.toList = mapO (partE s fm') ps.toList := fun s => mapO_congr _ fun p hp' => by unfold partE; rw [hp p hp']
    simp only [e2]
  case makeFunc fn first cap =>
    show aMakeFunc fn first cap E fm h = aMakeFunc fn first cap E fm' h
    unfold aMakeFunc xMakeFunc roL
    rw [mapO_congr (g := ro fm') first.toList (fun x hx => hs x (by simp; left; simpa using hx)), mapO_congr (g := ro fm') cap.toList (fun x hx => hs x (by simp; right; simpa using hx))]
  case makeMap t r =>
    show aMakeMap t r E fm h = aMakeMap t r E fm' h
    unfold aMakeMap xMakeMap
    cases r with
    | none => rfl
    | some x => simp only [hs x (by simp)]
  case slice t x lo hi mx =>
    show aSlice t x lo hi mx E fm h = aSlice t x lo hi mx E fm' h
    have hx := hs x (by simp)
    have hlo : ∀ y, lo = some y → ro fm y = ro fm' y := fun y hy => hs y (by simp [hy])
    have hhi : ∀ y, hi = some y → ro fm y = ro fm' y := fun y hy => hs y (by simp [hy])
    have hmx : ∀ y, mx = some y → ro fm y = ro fm' y := fun y hy => hs y (by simp [hy])
    have b1 := fun d => bndA_congr hlo d
    have b2 := fun d => bndA_congr hhi d
    have b3 := fun d => bndA_congr hmx d
    unfold aSlice xSlice xSliceStr xSliceRow xSliceNil xSliceU
    simp only [hx, b1, b2, b3]
    cases mx with
    | none => rfl
    | some y => simp only [hmx y rfl]
  case call c =>
    show aCall c E fm h = aCall c E fm' h
    have e : roL fm c.args.toList = roL fm' c.args.toList := mapO_congr _ fun x hx => hs x (by simp [Call.operands]; right; simpa using hx)
    unfold aCall xCall
    rw [e]
    cases hc : c.callee with
    | value f =>
      have hf := hs f (by simp [Call.operands, hc])
      cases f <;> first | rfl | simp only [hf]
    | invoke r m => rfl
    | builtin b => rfl
  case defer c =>
    show aDefer c E fm h = aDefer c E fm' h
    have e : roL fm c.args.toList = roL fm' c.args.toList := mapO_congr _ fun x hx => hs x (by simp [Call.operands]; right; simpa using hx)
    unfold aDefer xDefer
    cases hc : c.callee with
    | value f =>
      have hf := hs f (by simp [Call.operands, hc])
      simp only [e, hf]
    | invoke r m => rfl
    | builtin b => rfl
  all_goals first
    | rfl
    | (simp at hs
       simp only [aMove, aAssign, aPick, aBox, aInsert, aLoad, aStore, aNilCheck, aBinOp, aUnOp, aConvert, aMakeInterface, aMakeSlice, aFieldAddr, aField, aIndexAddr, aIndex, aLookup, aMapUpdate, aRange, aNext, aEntry, aTypeAssert, aExtract, aPanic, hs])

end Go.Ev
/- The evaluator: drawn regions, part 2: what a schedule is. -/
noncomputable section
namespace Go.Ev

/-- A list of what is left, behind what is done: a permutation that respects the edges. -/
def Val (ops : Array Oper) : List Nat → List Nat → Prop
  | D, [] => ∀ i, i < ops.size → i ∈ D
  | D, i :: r => i ∉ D ∧ i < ops.size ∧ (∀ o, ops[i]? = some o → ∀ e ∈ o.after, Region.binds .any e = true → e.on ∈ D) ∧ Val ops (i :: D) r

def edgesIn (md : Region.Mode) (o : Oper) (D : List Nat) : Bool := o.after.all fun e => !Region.binds md e || D.contains e.on
/-- No circle: something is always ready. -/
def Acyc (md : Region.Mode) (ops : Array Oper) : Prop := ∀ D : List Nat, (∃ i, i < ops.size ∧ i ∉ D) → ∃ i o, ops[i]? = some o ∧ i ∉ D ∧ edgesIn md o D = true

theorem binds_any {e : Edge} (md : Region.Mode) (h : Region.binds .any e = true) : Region.binds md e = true := by
  unfold Region.binds at *
  cases hg : e.ground <;> rw [hg] at h <;> first | rfl | (simp at h)

theorem count_lt {p q : Nat → Bool} : ∀ (l : List Nat) (i : Nat), (∀ x, q x = true → p x = true) → i ∈ l → p i = true → q i = false → (l.filter q).length < (l.filter p).length
  | [], i, _, hi, _, _ => by simp at hi
  | x :: r, i, hpq, hi, h1, h2 => by
    have hle : ∀ l : List Nat, (l.filter q).length ≤ (l.filter p).length := by
      intro l
      induction l with
      | nil => simp
      | cons y s ih =>
        by_cases hq : q y = true
        · simp [List.filter_cons, hq, hpq y hq, ih]
        · by_cases hp : p y = true
          · simp only [List.filter_cons, hq, hp]; simp; omega
          · simp only [List.filter_cons, hq, hp]; simpa using ih
    rcases List.mem_cons.1 hi with rfl | hi'
    · have := hle r
      simp only [List.filter_cons, h1, h2]
      simp; omega
    · have := count_lt r i hpq hi' h1 h2
      by_cases hq : q x = true
      · simp [List.filter_cons, hq, hpq x hq, this]
      · by_cases hp : p x = true
        · simp only [List.filter_cons, hq, hp]; simp; omega
        · simp only [List.filter_cons, hq, hp]; simpa using this

theorem go_val {md : Region.Mode} {ops : Array Oper} (hL : Acyc md ops) : ∀ (fuel t : Nat) (listed : Array Bool) (D : List Nat), listed.size = ops.size → (∀ i, i < ops.size → (listed.getD i true = true ↔ i ∈ D)) → (∀ i ∈ D, i < ops.size) →
    ((List.range ops.size).filter fun i => !D.contains i).length ≤ fuel → Val ops D (Region.linearise.go md ops fuel t listed []) := by
  intro fuel
  induction fuel with
  | zero =>
    intro t listed D hs hl hD hf
    simp only [Region.linearise.go, List.reverse_nil]
    intro i hi
    have : (List.range ops.size).filter (fun i => !D.contains i) = [] := List.eq_nil_of_length_eq_zero (Nat.le_zero.1 hf)
    have := List.filter_eq_nil_iff.1 this i (List.mem_range.2 hi)
    simpa using this
  | succ fuel ih =>
    intro t listed D hs hl hD hf
    simp only [Region.linearise.go]
    have hl' : ∀ i, (listed.getD i false = true ↔ i ∈ D) := fun i => by
      by_cases hi : i < ops.size
      · rw [← hl i hi]
        simp [Array.getD, hs, hi]
      · constructor
        · intro hh; simp [Array.getD, hs, hi] at hh
        · intro hh; exact absurd (hD i hh) hi
    split
    · rename_i i hi
      have hmem := List.mem_of_getElem? hi
      obtain ⟨h1, h2⟩ := List.mem_filter.1 hmem
      have hin : i < ops.size := List.mem_range.1 h1
      simp only [Bool.and_eq_true, Bool.not_eq_true'] at h2
      have hnD : i ∉ D := fun hh => by
        have := (hl i hin).2 hh
        rw [this] at h2; exact absurd h2.1 (by simp)
      have hgo := linearise_go_acc md ops fuel (t / ((List.range ops.size).filter fun i => !listed.getD i true && ((ops[i]?).map (·.after.all fun e => !Region.binds md e || listed.getD e.on false)).getD false).length) (listed.setIfInBounds i true) [i]
      rw [hgo]
      refine ⟨hnD, hin, fun o ho e he hb => ?_, ?_⟩
      · have h3 := h2.2
        rw [ho] at h3
        simp only [Option.map_some, Option.getD_some, Array.all_eq_true', Bool.or_eq_true, Bool.not_eq_true'] at h3
        rcases h3 e he with hh | hh
        · rw [binds_any md hb] at hh; cases hh
        · exact (hl' e.on).1 hh
      · refine ih _ _ (i :: D) (by simp [hs]) (fun j hj => ?_) (fun j hj => ?_) ?_
        · by_cases e : j = i
          · subst e
            simp [Array.getD, hs, hin]
          · have : (listed.setIfInBounds i true).getD j true = listed.getD j true := by
              simp only [Array.getD_eq_getD_getElem?]
              rw [Array.getElem?_setIfInBounds_ne (fun h => e h.symm)]
            rw [this, hl j hj]
            simp [e]
        · rcases List.mem_cons.1 hj with rfl | hj
          · exact hin
          · exact hD j hj
        · have := count_lt (p := fun j => !D.contains j) (q := fun j => !(i :: D).contains j) (List.range ops.size) i (fun x hx => by simp at hx ⊢; exact hx.2) (List.mem_range.2 hin) (by simp [hnD]) (by simp)
          omega
    · rename_i hno
      simp only [List.reverse_nil]
      intro j hj
      apply Classical.byContradiction
      intro hjD
      obtain ⟨i, o, ho, hi, he⟩ := hL D ⟨j, hj, hjD⟩
      have hin : i < ops.size := (Array.getElem?_eq_some_iff.1 ho).1
      have hmem : i ∈ ((List.range ops.size).filter fun i => !listed.getD i true && ((ops[i]?).map (·.after.all fun e => !Region.binds md e || listed.getD e.on false)).getD false) := by
        refine List.mem_filter.2 ⟨List.mem_range.2 hin, ?_⟩
        rw [ho]
        simp only [Option.map_some, Option.getD_some, Bool.and_eq_true, Bool.not_eq_true', Array.all_eq_true', Bool.or_eq_true]
        refine ⟨?_, fun e' he' => ?_⟩
        · cases hh : listed.getD i true with
          | false => rfl
          | true => exact absurd ((hl i hin).1 hh) hi
        · simp only [edgesIn, Array.all_eq_true', Bool.or_eq_true, List.contains_iff_mem, Bool.not_eq_true'] at he
          rcases he e' he' with hh | hh
          · exact Or.inl hh
          · exact Or.inr ((hl' e'.on).2 hh)
      generalize ((List.range ops.size).filter fun i => !listed.getD i true && ((ops[i]?).map (·.after.all fun e => !Region.binds md e || listed.getD e.on false)).getD false) = rs at hno hmem
      have hpos : 0 < rs.length := List.length_pos_of_mem hmem
      have := Nat.mod_lt t hpos
      rw [List.getElem?_eq_getElem this] at hno
      cases hno

end Go.Ev
namespace Go.Ev

theorem lin_val {md : Region.Mode} {ops : Array Oper} (hL : Acyc md ops) (t : Nat) : Val ops [] (Region.linearise md ops t) := by
  refine go_val hL ops.size t _ [] (by simp) (fun i hi => ?_) (by simp) ?_
  · simp [Array.getD, hi]
  · exact Nat.le_trans (List.length_filter_le _ _) (by simp)

/-- What is asked of a region. -/
structure RegOk (ops : Array Oper) : Prop where
  any : Acyc .any ops
  text : Acyc .text ops
  gc : Acyc .gc ops
  reads : ∀ (j : Nat) (o : Oper), ops[j]? = some o → ∀ t ∈ looks ops o, ∀ (i : Nat) (p : Oper), ops[i]? = some p → p.dst = some t → inMask (edgeMask .any o.after.toList) i = true
  back : ∀ (j : Nat) (o : Oper), ops[j]? = some o → ∀ i, inMask (edgeMask .any o.after.toList) i = true → i < j
  distinct : ∀ (i j : Nat) (p q : Oper) (t : Nat), ops[i]? = some p → ops[j]? = some q → p.dst = some t → q.dst = some t → i = j

theorem schedule_val {ops : Array Oper} (h : RegOk ops) (mixed : Bool) (t : Nat) : Val ops [] (Region.schedule mixed ops t) := by
  unfold Region.schedule
  split
  · exact lin_val h.any t
  · split
    · exact lin_val h.text _
    · exact lin_val h.gc _

theorem wp_draw_val {P : Program} {id : Nat} {ops : Array Oper} {Q : Exit → Act → World → Prop} {a : Act} {w : World} (h : RegOk ops)
    (hv : ∀ l, Val ops [] l → wpOps P ops Q l a { w with drawn := w.drawn + 1 }) : (Code.region id ops true).wp P Q a w :=
  wp_region_draw fun t => hv _ (schedule_val h _ t)

/-! Masks -/
theorem inMask_eq (m i : Nat) : inMask m i = m.testBit i := by
  unfold inMask
  have h1 : Nat.land (Nat.shiftRight m i) 1 = m / 2 ^ i % 2 := by
    show (m >>> i) &&& 1 = _
    rw [Nat.and_one_is_mod, Nat.shiftRight_eq_div_pow]
  rw [h1, Nat.testBit_eq_decide_div_mod_eq, beq_eqd]
theorem inMask_lor (a b i : Nat) : inMask (Nat.lor a b) i = (inMask a i || inMask b i) := by
  rw [inMask_eq, inMask_eq, inMask_eq]
  exact Nat.testBit_or a b i
theorem inMask_pow (j i : Nat) : inMask (2 ^ j) i = decide (j = i) := by rw [inMask_eq, Nat.testBit_two_pow]
theorem inMask_zero (i : Nat) : inMask 0 i = false := by rw [inMask_eq, Nat.zero_testBit]
theorem inMask_sub {m d : Nat} (h : Nat.beq (Nat.land m d) m = true) {i : Nat} (hi : inMask m i = true) : inMask d i = true := by
  rw [inMask_eq] at *
  have h1 : m &&& d = m := beq_eq h
  rw [← h1, Nat.testBit_and] at hi
  simp at hi
  exact hi.2
theorem inMask_full {d n i : Nat} (h : d = Nat.pred (2 ^ n)) (hi : i < n) : inMask d i = true := by
  rw [inMask_eq, h, show Nat.pred (2 ^ n) = 2 ^ n - 1 from rfl, Nat.testBit_two_pow_sub_one]
  exact decide_eq_true hi
theorem inMask_add (d j i : Nat) : inMask (Nat.lor d (2 ^ j)) i = true ↔ inMask d i = true ∨ i = j := by
  rw [inMask_lor, inMask_pow]
  simp only [Bool.or_eq_true, decide_eq_true_eq]
  constructor
  · rintro (h | h)
    · exact Or.inl h
    · exact Or.inr h.symm
  · rintro (h | h)
    · exact Or.inl h
    · exact Or.inr h.symm
theorem edgeMask_in {md : Region.Mode} : ∀ {l : List Edge} {i : Nat}, inMask (edgeMask md l) i = true ↔ ∃ e ∈ l, Region.binds md e = true ∧ e.on = i
  | [], i => by
    simp only [edgeMask, inMask_zero]
    simp
  | e :: r, i => by
    have ih := edgeMask_in (md := md) (l := r) (i := i)
    unfold edgeMask
    cases hb : Region.binds md e with
    | false => simp only [cond_false]; rw [ih]; simp [hb]
    | true =>
      simp only [cond_true]
      rw [inMask_lor, Bool.or_eq_true, inMask_pow, decide_eq_true_eq, ih]
      simp [hb]

theorem mem_items : ∀ {l : List Oper} {k : Nat} {x : Item}, x ∈ items l k → ∃ j, l[j]? = some x.o ∧ x.i = k + j ∧ x.em = edgeMask .any x.o.after.toList
  | [], _, _, h => by simp [items] at h
  | o :: r, k, x, h => by
    rcases List.mem_cons.1 h with rfl | h
    · exact ⟨0, rfl, rfl, rfl⟩
    · obtain ⟨j, h1, h2, h3⟩ := mem_items h
      exact ⟨j + 1, by simpa using h1, by omega, h3⟩
theorem items_mem : ∀ {l : List Oper} {k j : Nat} {o : Oper}, l[j]? = some o → ⟨k + j, edgeMask .any o.after.toList, o⟩ ∈ items l k
  | [], _, _, _, h => by simp at h
  | p :: r, k, 0, o, h => by
    have : p = o := by simpa using h
    subst this
    exact List.mem_cons_self
  | p :: r, k, j + 1, o, h => by
    have := items_mem (k := k + 1) (show r[j]? = some o by simpa using h)
    rw [show k + 1 + j = k + (j + 1) by omega] at this
    exact List.mem_cons_of_mem _ this

/-- What is closed under readiness holds all that a sweep takes. -/
theorem sw_in {md : Region.Mode} {ops : Array Oper} {D : List Nat} (hD : ∀ i o, ops[i]? = some o → edgesIn md o D = true → i ∈ D) : ∀ (l : List Oper) (k d : Nat), ops.toList.drop k = l → (∀ i, inMask d i = true → i ∈ D) → ∀ i, inMask (sw (masks md l) k d) i = true → i ∈ D
  | [], _, _, _, hd => hd
  | o :: r, k, d, hl, hd => by
    have hk : ops[k]? = some o := by
      rw [← Array.getElem?_toList]
      have : (ops.toList.drop k)[0]? = some o := by rw [hl]; rfl
      simpa using this
    have hr' : ops.toList.drop (k + 1) = r := by
      rw [← List.drop_drop, hl]; rfl
    refine sw_in hD r (k + 1) _ hr' ?_
    intro i hi
    cases hb : Nat.beq (Nat.land (edgeMask md o.after.toList) d) (edgeMask md o.after.toList) with
    | false => rw [hb] at hi; exact hd i hi
    | true =>
      rw [hb] at hi
      simp only [cond_true] at hi
      rcases (inMask_add _ _ _).1 hi with hi | rfl
      · exact hd i hi
      · refine hD i o hk ?_
        simp only [edgesIn, Array.all_eq_true', Bool.or_eq_true, List.contains_iff_mem, Bool.not_eq_true']
        intro e he
        cases hbd : Region.binds md e with
        | false => exact Or.inl rfl
        | true => exact Or.inr (hd _ (inMask_sub hb (edgeMask_in.2 ⟨e, by simpa using he, hbd, rfl⟩)))
theorem closes_in {md : Region.Mode} {ops : Array Oper} {D : List Nat} (hD : ∀ i o, ops[i]? = some o → edgesIn md o D = true → i ∈ D) (full : Nat) : ∀ (n d : Nat), (∀ i, inMask d i = true → i ∈ D) → closesF (masks md ops.toList) full n d = true → ∀ i, inMask full i = true → i ∈ D
  | 0, d, hd, h, i, hi => by rw [← beq_eq h] at hi; exact hd i hi
  | n + 1, d, hd, h, i, hi => by
    unfold closesF at h
    cases hb : Nat.beq d full with
    | true => rw [← beq_eq hb] at hi; exact hd i hi
    | false =>
      rw [hb] at h
      exact closes_in hD full n _ (sw_in hD ops.toList 0 d (by simp) hd) h i hi
theorem masks_length (md : Region.Mode) : ∀ l, (masks md l).length = l.length
  | [] => rfl
  | _ :: r => by simp [masks, masks_length md r]
theorem closes_acyc {md : Region.Mode} {ops : Array Oper} (h : closes (masks md ops.toList) = true) : Acyc md ops := by
  intro D ⟨i, hi, hn⟩
  apply Classical.byContradiction
  intro hno
  have hD : ∀ i o, ops[i]? = some o → edgesIn md o D = true → i ∈ D := fun j o ho he => by
    apply Classical.byContradiction
    intro hj
    exact hno ⟨j, o, ho, hj, he⟩
  unfold closes at h
  refine hn (closes_in hD _ _ 0 (fun j hj => by rw [inMask_zero] at hj; cases hj) h i (inMask_full rfl ?_))
  rw [masks_length]; simpa using hi

theorem dstIn_mem {t m : Nat} : ∀ {xs : List Item}, dstIn t m xs = true → ∀ x ∈ xs, x.o.dst = some t → inMask m x.i = true
  | [], _, x, hx, _ => by simp at hx
  | y :: r, h, x, hx, hd => by
    simp only [dstIn, Bool.and_eq_true] at h
    rcases List.mem_cons.1 hx with rfl | hx
    · have h1 := h.1
      rw [hd] at h1
      simpa using h1
    · exact dstIn_mem h.2 x hx hd
theorem allIn_mem {xs : List Item} {m : Nat} : ∀ {l : List Nat}, allIn xs m l = true → ∀ t ∈ l, dstIn t m xs = true
  | [], _, t, ht => by simp at ht
  | s :: r, h, t, ht => by
    simp only [allIn, Bool.and_eq_true] at h
    rcases List.mem_cons.1 ht with rfl | ht
    · exact h.1
    · exact allIn_mem h.2 t ht
theorem readsOk_mem {ops : Array Oper} {xs : List Item} : ∀ {l : List Item}, readsOk ops xs l = true → ∀ x ∈ l, allIn xs x.em (looks ops x.o) = true
  | [], _, x, hx => by simp at hx
  | y :: r, h, x, hx => by
    simp only [readsOk, Bool.and_eq_true] at h
    rcases List.mem_cons.1 hx with rfl | hx
    · exact h.1
    · exact readsOk_mem h.2 x hx
theorem distinct_list : ∀ (l : List Oper) (k : Nat), distinctOk (items l k) = true → ∀ (i j : Nat) (p q : Oper) (t : Nat), i < j → l[i]? = some p → l[j]? = some q → p.dst = some t → q.dst ≠ some t
  | [], _, _, i, j, p, q, t, _, hp, _, _ => by simp at hp
  | o :: r, k, h, i, j, p, q, t, hij, hp, hq, hd => by
    have h' : ((match o.dst with | some d => dstIn d 0 (items r (k + 1)) | none => true) && distinctOk (items r (k + 1))) = true := h
    simp only [Bool.and_eq_true] at h'
    cases j with
    | zero => omega
    | succ j =>
      cases i with
      | succ i => exact distinct_list r (k + 1) h'.2 i j p q t (by omega) (by simpa using hp) (by simpa using hq) hd
      | zero =>
        have : o = p := by simpa using hp
        subst this
        intro hqd
        have h1 := h'.1
        rw [hd] at h1
        have := dstIn_mem h1 _ (items_mem (k := k + 1) (show r[j]? = some q by simpa using hq)) hqd
        rw [inMask_zero] at this
        cases this
theorem backOk_mem : ∀ {l : List Item}, backOk l = true → ∀ x ∈ l, x.em < 2 ^ x.i
  | [], _, x, hx => by simp at hx
  | y :: r, h, x, hx => by
    simp only [backOk, Bool.and_eq_true] at h
    rcases List.mem_cons.1 hx with rfl | hx
    · exact blt_lt h.1
    · exact backOk_mem h.2 x hx
theorem regOk_spec {ops : Array Oper} (h : regOk ops = true) : RegOk ops := by
  simp only [regOk, Bool.and_eq_true] at h
  obtain ⟨⟨⟨⟨⟨h0, h1⟩, h2⟩, h3⟩, h4⟩, h5⟩ := h
  refine ⟨closes_acyc h1, closes_acyc h2, closes_acyc h3, fun j o ho t ht i p hp hd => ?_, fun j o ho i hi => ?_, fun i j p q t hp hq hd hd' => ?_⟩
  · have hj := items_mem (k := 0) (show ops.toList[j]? = some o by simpa using ho)
    have hi := items_mem (k := 0) (show ops.toList[i]? = some p by simpa using hp)
    have := dstIn_mem (allIn_mem (readsOk_mem h4 _ hj) t ht) _ hi hd
    simpa using this
  · have hj := items_mem (k := 0) (show ops.toList[j]? = some o by simpa using ho)
    have hlt := backOk_mem h0 _ hj
    simp only [Nat.zero_add] at hlt
    apply Classical.byContradiction
    intro hge
    rw [inMask_eq, Nat.testBit_lt_two_pow (Nat.lt_of_lt_of_le hlt (Nat.pow_le_pow_right (by decide) (by omega)))] at hi
    cases hi
  · have hp' : ops.toList[i]? = some p := by simpa using hp
    have hq' : ops.toList[j]? = some q := by simpa using hq
    rcases Nat.lt_trichotomy i j with hlt | he | hgt
    · exact absurd hd' (distinct_list _ 0 h5 i j p q t hlt hp' hq' hd)
    · exact he
    · exact absurd hd (distinct_list _ 0 h5 j i q p t hgt hq' hp' hd')

end Go.Ev
/- The evaluator: drawn regions, part 3: quiet operations keep the heap. -/
noncomputable section
namespace Go.Ev

/-- What keeps the heap, or takes a number. -/
def Keeps (h : Heap) (r : OR) : Prop := ∀ v h', r = .val v h' → h'.nx = h.nx → h' = h
theorem keeps_fail {h : Heap} : Keeps h .fail := fun _ _ e => by cases e
theorem keeps_val {h : Heap} {v : AV} : Keeps h (.val v h) := fun _ _ e _ => by injection e with _ e; exact e.symm
theorem keeps_new {h : Heap} {v : AV} {m : Tr Blk} : Keeps h (.val v ⟨m, h.nx + 1⟩) := fun _ _ e hn => by injection e with _ e; subst e; exact absurd hn (by simp)
theorem keeps_wo {α : Type} {h : Heap} {x : Option α} {k : α → OR} (hk : ∀ v, Keeps h (k v)) : Keeps h (wo x k) := by
  cases x with
  | none => exact keeps_fail
  | some v => exact hk v
theorem keeps_opt {h : Heap} {x : Option AV} : Keeps h (optO x h) := by
  cases x with
  | none => exact keeps_fail
  | some v => exact keeps_val
theorem keeps_bif {h : Heap} {b : Bool} {x y : OR} (hx : Keeps h x) (hy : Keeps h y) : Keeps h (bif b then x else y) := by
  cases b
  · exact hy
  · exact hx
theorem keeps_map {h : Heap} {b : Nat} {k : List AEnt → Nat → OR} (hk : ∀ es c, Keeps h (k es c)) : Keeps h (h.map b k) := by
  unfold Heap.map
  split
  · exact hk _ _
  · exact keeps_fail

theorem quiet_keeps (E : Env) (fm : Fm) (h : Heap) (o : Oper) (hq : quietK o.op = true) : Keeps h (opx E fm h o) := by
  obtain ⟨dst, op, type, pos, after, guard⟩ := o
  unfold opx
  cases op <;> first | cases hq | skip
  case move x => exact keeps_opt
  case assign x => exact keeps_opt
  case pick c a b => exact keeps_wo fun _ => keeps_wo fun _ => keeps_wo fun _ => by unfold xPick; split; exact keeps_val; exact keeps_fail
  case load t a => exact keeps_wo fun _ => by unfold xLoad; split; exact keeps_opt; exact keeps_fail
  case nilCheck x => exact keeps_wo fun _ => by unfold xNilCheck; split <;> first | exact keeps_val | exact keeps_fail
  case binOp op t x y ty =>
    refine keeps_wo fun u => keeps_wo fun v => ?_
    unfold xBin xBinI xEq
    repeat' split
    all_goals first | exact keeps_val | exact keeps_fail | exact keeps_opt | exact keeps_bif keeps_opt keeps_fail
  case unOp op t x =>
    refine keeps_wo fun u => ?_
    unfold xUn
    repeat' split
    all_goals first | exact keeps_val | exact keeps_fail
  case makeInterface t x =>
    refine keeps_wo fun u => ?_
    refine keeps_wo fun d => ?_
    split <;> first | exact keeps_val | exact keeps_fail
  case makeFunc fn a b =>
    show Keeps h (xMakeFunc fm fn a b h)
    unfold xMakeFunc
    split
    · exact keeps_wo fun _ => keeps_wo fun _ => keeps_val
    · exact keeps_fail
  case fieldAddr s x f =>
    refine keeps_wo fun u => keeps_wo fun d => ?_
    split
    · exact keeps_wo fun _ => keeps_wo fun _ => keeps_bif keeps_fail (by split; exact keeps_val; exact keeps_fail)
    · exact keeps_fail
  case field s x f =>
    refine keeps_wo fun u => keeps_wo fun d => ?_
    split
    · exact keeps_wo fun _ => by split; exact keeps_opt; exact keeps_fail
    · exact keeps_fail
  case indexAddr t x i =>
    refine keeps_wo fun u => keeps_wo fun v => keeps_wo fun d => keeps_wo fun n => ?_
    split
    · exact keeps_wo fun _ => by split <;> first | exact keeps_bif keeps_val keeps_fail | exact keeps_fail
    · exact keeps_wo fun _ => by split <;> first | exact keeps_bif keeps_val keeps_fail | exact keeps_fail
    · exact keeps_fail
  case index t x i =>
    refine keeps_wo fun u => keeps_wo fun v => keeps_wo fun d => keeps_wo fun n => ?_
    split
    · split <;> first | exact keeps_bif keeps_val keeps_fail | exact keeps_fail
    · split <;> first | exact keeps_bif (keeps_wo fun _ => keeps_opt) keeps_fail | exact keeps_fail
    · exact keeps_fail
  case lookup t m k ok =>
    refine keeps_wo fun u => keeps_wo fun v => keeps_wo fun d => ?_
    split
    · refine keeps_wo fun kd => keeps_bif (keeps_wo fun zv => ?_) keeps_fail
      split
      · exact keeps_val
      · exact keeps_map fun _ _ => keeps_wo fun _ => by split <;> exact keeps_val
      · exact keeps_fail
    · exact keeps_fail
  case typeAssert x xt t ok =>
    refine keeps_wo fun u => keeps_wo fun d => ?_
    split
    · exact keeps_fail
    · split
      · exact keeps_bif keeps_val (keeps_bif (keeps_wo fun _ => keeps_val) keeps_fail)
      · exact keeps_fail
  case extract x i => exact keeps_wo fun _ => by unfold xExtract; split; exact keeps_opt; exact keeps_fail
  case build t ps =>
    refine keeps_wo fun zv => keeps_wo fun d => ?_
    split
    · exact keeps_bif (keeps_wo fun _ => by split; exact keeps_val; exact keeps_fail) keeps_fail
    · exact keeps_wo fun _ => keeps_wo fun _ => by split; exact keeps_val; exact keeps_fail
    · exact keeps_fail
  case convert s t x =>
    refine keeps_wo fun u => keeps_wo fun sd => keeps_wo fun d => ?_
    split
    · split; exact keeps_val; exact keeps_fail
    · split
      · exact keeps_val
      · exact keeps_val
      · split
        · refine keeps_bif ?_ keeps_fail
          split <;> first | exact keeps_val | exact keeps_fail | exact keeps_wo fun _ => keeps_wo fun _ => keeps_val
        · exact keeps_fail
    · split
      · exact keeps_bif keeps_new keeps_fail
      · exact keeps_fail
    · exact keeps_fail
  case slice t x lo hi mx =>
    refine keeps_wo fun u => keeps_wo fun d => ?_
    split
    · split
      · unfold xSliceStr
        split
        · exact keeps_fail
        · exact keeps_wo fun _ => keeps_wo fun _ => keeps_bif keeps_val keeps_fail
      · exact keeps_fail
    · split
      · exact keeps_wo fun _ => keeps_wo fun _ => keeps_wo fun _ => keeps_wo fun _ => keeps_bif keeps_val keeps_fail
      · exact keeps_wo fun _ => keeps_wo fun _ => keeps_wo fun _ => keeps_wo fun _ => keeps_bif keeps_val keeps_fail
      · refine keeps_wo fun _ => keeps_wo fun _ => keeps_wo fun _ => ?_
        split
        · exact keeps_bif keeps_val keeps_fail
        · exact keeps_wo fun _ => keeps_wo fun _ => keeps_bif (keeps_bif keeps_new keeps_val) keeps_fail
      · exact keeps_fail
    · split
      · exact keeps_wo fun _ => keeps_wo fun _ => keeps_wo fun _ => keeps_wo fun _ => keeps_bif keeps_val keeps_fail
      · exact keeps_fail
    · exact keeps_fail
  case call c =>
    refine keeps_wo fun args => ?_
    cases hc : c.callee with
    | value f => rw [show quietK (.call c) = (match c.callee with | .builtin b => quietB b | _ => false) from rfl, hc] at hq; cases hq
    | invoke r m => exact keeps_fail
    | builtin b =>
      rw [show quietK (.call c) = (match c.callee with | .builtin b => quietB b | _ => false) from rfl, hc] at hq
      show Keeps h (xBuiltin E b c.argTypes args h)
      have k1 : ∀ k : AV → OR, (∀ x, Keeps h (k x)) → Keeps h (arg1 args k) := fun k hk => by unfold arg1; split; exact hk _; exact keeps_fail
      have k2 : ∀ k : AV → AV → OR, (∀ x y, Keeps h (k x y)) → Keeps h (arg2 args k) := fun k hk => by unfold arg2; split; exact hk _ _; exact keeps_fail
      have kmin : ∀ l x y, Keeps h (xMin l x y h) := fun l x y => by
        unfold xMin
        repeat' split
        all_goals first | exact keeps_bif keeps_val keeps_fail | exact keeps_fail
      cases b <;> first | cases hq | skip
      case builtin.len.refl =>
        refine keeps_wo fun t => k1 _ fun x => keeps_wo fun d => ?_
        split
        · exact keeps_val
        · exact keeps_wo fun _ => by split; exact keeps_val; exact keeps_fail
        · split <;> first | exact keeps_val | exact keeps_fail
        · split <;> first | exact keeps_val | exact keeps_fail
        · split <;> first | exact keeps_val | exact keeps_map fun _ _ => keeps_val | exact keeps_fail
        · exact keeps_fail
      case builtin.cap.refl =>
        refine keeps_wo fun t => k1 _ fun x => keeps_wo fun d => ?_
        split
        · split <;> first | exact keeps_val | exact keeps_fail
        · exact keeps_fail
      case builtin.min.refl => exact k2 _ fun x y => kmin true x y
      case builtin.max.refl => exact k2 _ fun x y => kmin false x y

end Go.Ev
/- The evaluator: drawn regions, part 4: what holds between two operations. -/
noncomputable section
namespace Go.Ev

variable {P : Program} {ops : Array Oper}

def em (o : Oper) : Nat := edgeMask .any o.after.toList

/-! An operation looks at the slots that it looks at -/
theorem slotsOf_mem : ∀ {l : List Operand} {t : Nat}, Operand.tmp t ∈ l → t ∈ slotsOf l
  | [], _, h => by simp at h
  | x :: r, t, h => by
    rcases List.mem_cons.1 h with e | h
    · subst e; exact List.mem_cons_self
    · have := slotsOf_mem h
      unfold slotsOf
      cases x <;> first | exact List.mem_cons_of_mem _ this | exact this
theorem slotsOf_looks {o : Oper} {t : Nat} (h : t ∈ slotsOf o.op.operands.toList) : t ∈ looks ops o := by
  unfold looks
  split
  · exact h
  · split
    · split
      · exact List.mem_cons_of_mem _ h
      · exact h
    · exact h
theorem ro_slots {fm fm' : Fm} {o : Oper} (h : ∀ t ∈ looks ops o, Fm.slot fm t = Fm.slot fm' t) : ∀ x ∈ o.op.operands, ro fm x = ro fm' x := by
  intro x hx
  cases x with
  | tmp t => exact congrArg some (h t (slotsOf_looks (slotsOf_mem (by simpa using hx))))
  | _ => rfl
theorem opx_slots (E : Env) {fm fm' : Fm} (h : Heap) {o : Oper} (hs : ∀ t ∈ looks ops o, Fm.slot fm t = Fm.slot fm' t) : opx E fm h o = opx E fm' h o :=
  opx_congr E h o (ro_slots hs)
def boolIs (v : AV) (b : Bool) : Bool := match v with
  | .bool c => c == b
  | _ => false
theorem wantG_slot (fm : Fm) (p : Nat × Bool) {g : Oper} {d : Nat} (hg : ops[p.1]? = some g) (hd : g.dst = some d) : wantG ops fm p = boolIs (Fm.slot fm d) p.2 := by
  unfold wantG
  rw [hg]
  simp only [hd]
  unfold Fm.slot
  cases fm.get d with
  | none => rfl
  | some v => cases v <;> rfl
theorem want_slots {fm fm' : Fm} {o : Oper} (h : ∀ t ∈ looks ops o, Fm.slot fm t = Fm.slot fm' t) : wantA ops fm o = wantA ops fm' o := by
  unfold wantA
  cases hg : o.guard with
  | none => rfl
  | some p =>
    show wantG ops fm p = wantG ops fm' p
    cases hj : ops[p.1]? with
    | none => unfold wantG; rw [hj]
    | some g =>
      cases hd : g.dst with
      | none => unfold wantG; rw [hj]; simp only [hd]
      | some d =>
        rw [wantG_slot fm p hj hd, wantG_slot fm' p hj hd, h d]
        unfold looks
        rw [hg]
        simp only [hj, hd]
        exact List.mem_cons_self
theorem eval_slots {a a' : Act} {o : Oper} (h : ∀ t ∈ looks ops o, a.tmps[t]? = a'.tmps[t]?) : ∀ x ∈ o.op.operands, a.eval x = a'.eval x := by
  intro x hx
  cases x with
  | tmp t =>
    show a.tmps.getD t undef = a'.tmps.getD t undef
    rw [Array.getD_eq_getD_getElem?, Array.getD_eq_getD_getElem?, h t (slotsOf_looks (slotsOf_mem (by simpa using hx)))]
  | _ => rfl
theorem wanted_slots {a a' : Act} {o : Oper} (h : ∀ t ∈ looks ops o, a.tmps[t]? = a'.tmps[t]?) : Region.wanted o (yielded ops a.tmps) = Region.wanted o (yielded ops a'.tmps) := by
  unfold Region.wanted
  cases hg : o.guard with
  | none => rfl
  | some p =>
    obtain ⟨j, b⟩ := p
    simp only []
    unfold yielded
    cases hj : ops[j]? with
    | none => rfl
    | some g =>
      simp only [Option.bind_some]
      cases hd : g.dst with
      | none => rfl
      | some d =>
        simp only [Option.bind_some]
        rw [h d]
        unfold looks
        rw [hg]
        simp only [hj, hd]
        exact List.mem_cons_self
theorem slot_put_other {fm : Fm} {N t : Nat} {dst : Option Nat} {v : AV} (h : dst ≠ some t ∨ N ≤ t) : Fm.slot (Fm.put fm N dst v) t = Fm.slot fm t := by
  cases dst with
  | none => rfl
  | some d =>
    rw [put_some]
    by_cases hd : d < N
    · rw [if_pos hd]
      refine slot_set_other _ _ ?_
      rintro rfl
      rcases h with h | h
      · exact h rfl
      · omega
    · rw [if_neg hd]
theorem slot_put_same {fm : Fm} {N t : Nat} {dst : Option Nat} {v : AV} (h : dst = some t) (ht : t < N) : Fm.slot (Fm.put fm N dst v) t = v := by
  subst h
  rw [put_some, if_pos ht, slot_set_same]
theorem looks_put (hk : RegOk ops) {i j : Nat} {o p : Oper} (ho : ops[j]? = some o) (hp : ops[i]? = some p) (he : inMask (em o) i = false) {fm : Fm} {N : Nat} {v : AV} : ∀ t ∈ looks ops o, Fm.slot (Fm.put fm N p.dst v) t = Fm.slot fm t := by
  intro t ht
  refine slot_put_other (Or.inl fun hd => ?_)
  have := hk.reads j o ho t ht i p hp hd
  unfold em at he
  rw [this] at he
  cases he

theorem notSel {E : Env} {fm : Fm} {h : Heap} {o : Oper} (hx : opx E fm h o ≠ .fail) : ∀ cs b, o.op ≠ .select cs b := by
  intro cs b e
  apply hx
  obtain ⟨dst, op, type, pos, after, guard⟩ := o
  simp only at e
  subst e
  rfl

/-! What is static -/
def SlotIs (N : Nat) (fm : Fm) (o : Oper) (v : AV) : Prop := ∀ t : Nat, o.dst = some t → t < N → Fm.slot fm t = v
def QOk (E : Env) (ops : Array Oper) (N : Nat) (fm : Fm) (h : Heap) (o : Oper) : Prop :=
  (wantA ops fm o = false ∧ SlotIs N fm o (.tup [])) ∨ (wantA ops fm o = true ∧ quietK o.op = true ∧ ∃ v, opx E fm h o = .val v h ∧ SlotIs N fm o v)

structure SInv (E : Env) (ops : Array Oper) (N done : Nat) (live : List Item) (fm : Fm) (h : Heap) (A : List (Nat × Nat)) (D : List Nat) : Prop where
  down : ∀ (i : Nat) (o : Oper), ops[i]? = some o → i ∈ D → ∀ k, inMask (em o) k = true → k ∈ D
  ddn : ∀ (i : Nat) (o : Oper), ops[i]? = some o → inMask done i = true → ∀ k, inMask (em o) k = true → inMask done k = true
  sub : ∀ i ∈ D, inMask done i = true ∨ ∃ B, (i, B) ∈ A
  lv : ∀ (i : Nat) (o : Oper), ops[i]? = some o → inMask done i = true → i ∉ D → (∃ x ∈ live, x.i = i ∧ x.o = o) ∧ QOk E ops N fm h o
  al : ∀ i B, (i, B) ∈ A → i ∈ D ∧ inMask done i = false ∧ ∃ o, ops[i]? = some o ∧ alcOk E o = true ∧ wantA ops fm o = true ∧ ∀ k, inMask (em o) k = true → inMask done k = true

/-- A slot is put: what was known stays, where nothing looks at it. -/
theorem QOk.put {E : Env} {N : Nat} {fm : Fm} {h : Heap} {i j : Nat} {o p : Oper} {v : AV} (hk : RegOk ops) (ho : ops[j]? = some o) (hp : ops[i]? = some p) (hij : i ≠ j) (he : inMask (em o) i = false) (hq : QOk E ops N fm h o) : QOk E ops N (Fm.put fm N p.dst v) h o := by
  have hl := looks_put hk ho hp he (fm := fm) (N := N) (v := v)
  have hs : ∀ u, SlotIs N fm o u → SlotIs N (Fm.put fm N p.dst v) o u := fun u hu t ht hN => by
    rw [slot_put_other (Or.inl fun hd => hij (hk.distinct i j p o t hp ho hd ht))]
    exact hu t ht hN
  rcases hq with ⟨q1, q2⟩ | ⟨q1, q2, u, q3, q4⟩
  · exact Or.inl ⟨by rw [want_slots hl]; exact q1, hs _ q2⟩
  · exact Or.inr ⟨by rw [want_slots hl]; exact q1, q2, u, by rw [opx_slots E h hl]; exact q3, hs _ q4⟩

/-! What is in memory -/
structure DInv (P : Program) (ops : Array Oper) (N : Nat) (d : List Dfr) (ρ0 : Rho) (h0 : Heap) (w0 : World) (done : Nat) (fm : Fm) (h : Heap) (A : List (Nat × Nat)) (D : List Nat) (ρ : Rho) (a : Act) (w : World) : Prop where
  rel : Rel ρ h w
  ext : Ext ρ0 h0 w0 ρ h w
  fr : ∃ fD aD, ActRel ρ h.nx N fD d aD ∧ (∀ t, (N ≤ t ∨ ∀ (i : Nat) (o : Oper), ops[i]? = some o → o.dst = some t → inMask done i = true ∧ i ∈ D) → Fm.slot fD t = Fm.slot fm t) ∧
    a.defers = aD.defers ∧ a.tmps.size = N ∧ (∀ t : Nat, (∀ (i B : Nat) (o : Oper), (i, B) ∈ A → ops[i]? = some o → o.dst ≠ some t) → a.tmps[t]? = aD.tmps[t]?)
  al : ∀ (i B : Nat), (i, B) ∈ A → ∀ (o : Oper) (t : Nat) (v : AV), ops[i]? = some o → o.op = .alloc t → (Env.of P).zero t = some v →
    w.heap[B]? = some (.cells (conc ρ v).cells t (0, 0)) ∧ w0.heap.size ≤ B ∧ (∀ b x, h.m.get b = some x → ρ.blk b ≠ B) ∧ ∀ t' : Nat, o.dst = some t' → t' < N → a.tmps[t']? = some (.pointer (some ⟨B, 0, none⟩))
  inj : ∀ i j B, (i, B) ∈ A → (j, B) ∈ A → i = j

theorem zero_same {t : Nat} {v : AV} (hv : (Env.of P).zero t = some v) (ρ ρ' : Rho) : conc ρ v = conc ρ' v := by
  obtain ⟨V, _, v2, _⟩ := zero_ok hv
  rw [v2 ρ, v2 ρ']

theorem put_tmps_same {a : Act} {t : Nat} {dst : Option Nat} {v : Value} (h : dst = some t) (ht : t < a.tmps.size) : (a.put dst v).tmps[t]? = some v := by
  subst h
  simp [Act.put, ht]
theorem put_tmps_other {a : Act} {t : Nat} {dst : Option Nat} {v : Value} (h : dst ≠ some t) : (a.put dst v).tmps[t]? = a.tmps[t]? := by
  cases dst with
  | none => rfl
  | some d => simp only [Act.put]; rw [Array.getElem?_setIfInBounds_ne (fun e => h (by rw [e]))]
theorem put_size {a : Act} {dst : Option Nat} {v : Value} : (a.put dst v).tmps.size = a.tmps.size := by
  cases dst <;> simp [Act.put]
theorem put_defers {a : Act} {dst : Option Nat} {v : Value} : (a.put dst v).defers = a.defers := by
  cases dst <;> rfl

variable {N : Nat} {d : List Dfr} {ρ0 : Rho} {h0 : Heap} {w0 : World}

/-- An operation that is no early variable has been carried out. -/
theorem DInv.step {done done' : Nat} {fm fm' : Fm} {h h' : Heap} {A : List (Nat × Nat)} {D : List Nat} {ρ ρ' : Rho} {a : Act} {w w' : World} {j : Nat} {o : Oper} {v : AV} (hk : RegOk ops)
    (hd : DInv P ops N d ρ0 h0 w0 done fm h A D ρ a w) (hal : ∀ i B, (i, B) ∈ A → ∃ o t v, ops[i]? = some o ∧ o.op = .alloc t ∧ (Env.of P).zero t = some v) (ho : ops[j]? = some o) (hjA : ∀ B, (j, B) ∉ A)
    (hr : Rel ρ' h' w') (hx : Ext ρ h w ρ' h' w') (hv : sc ρ' h'.nx v) (hf1 : ∀ t, (o.dst ≠ some t ∨ N ≤ t) → Fm.slot fm' t = Fm.slot fm t) (hf2 : SlotIs N fm' o v)
    (hd1 : ∀ i, inMask done' i = true → inMask done i = true ∨ i = j) : DInv P ops N d ρ0 h0 w0 done' fm' h' A (j :: D) ρ' (a.put o.dst (conc ρ' v)) w' := by
  obtain ⟨fD, aD, q1, q2, q3, q4, q5⟩ := hd.fr
  refine ⟨hr, hd.ext.trans hx, ⟨Fm.put fD N o.dst v, aD.put o.dst (conc ρ' v), (q1.ext hx.same hx.nx).put o.dst hv, ?_, ?_, ?_, ?_⟩, ?_, hd.inj⟩
  · intro t ht
    by_cases htd : o.dst = some t ∧ t < N
    · rw [slot_put_same htd.1 htd.2, hf2 t htd.1 htd.2]
    · have htd' : o.dst ≠ some t ∨ N ≤ t := by
        by_cases e : o.dst = some t
        · right
          have : ¬ t < N := fun hh => htd ⟨e, hh⟩
          omega
        · exact Or.inl e
      rw [slot_put_other htd', hf1 t htd']
      apply q2
      rcases ht with ht | ht
      · exact Or.inl ht
      · rcases htd' with htd' | htd'
        · right
          intro i p hp hpd
          obtain ⟨r1, r2⟩ := ht i p hp hpd
          have hij : i ≠ j := by
            rintro rfl
            rw [ho] at hp
            injection hp with hp
            subst hp
            exact htd' hpd
          refine ⟨?_, ?_⟩
          · rcases hd1 i r1 with r1 | r1
            · exact r1
            · exact absurd r1 hij
          · rcases List.mem_cons.1 r2 with r2 | r2
            · exact absurd r2 hij
            · exact r2
        · exact Or.inl htd'
  · rw [put_defers, put_defers, q3]
  · rw [put_size, q4]
  · intro t ht
    by_cases e : o.dst = some t
    · by_cases hN : t < N
      · rw [put_tmps_same e (by omega), put_tmps_same e (by rw [q1.fm.1]; exact hN)]
      · rw [Array.getElem?_eq_none (by rw [put_size, q4]; omega), Array.getElem?_eq_none (by rw [put_size, q1.fm.1]; omega)]
    · rw [put_tmps_other e, put_tmps_other e]
      exact q5 t ht
  · intro i B hi p t u hp hpt hu
    obtain ⟨r1, r2, r3, r4⟩ := hd.al i B hi p t u hp hpt hu
    have hB : B < w.heap.size := (Array.getElem?_eq_some_iff.1 r1).1
    refine ⟨?_, r2, ?_, ?_⟩
    · rw [hx.frame B hB r3, r1, zero_same hu ρ ρ']
    · intro b x hb e
      rcases hx.img b x hb with ⟨b', x', hb', e'⟩ | hge
      · exact r3 b' x' hb' (e'.symm.trans e)
      · omega
    · intro t' ht' hN
      have hij : i ≠ j := by rintro rfl; exact hjA B hi
      rw [put_tmps_other (fun e => hij (hk.distinct i j p o t' hp ho ht' e))]
      exact r4 t' ht' hN

/-- What an operation that is ready sees. -/
theorem DInv.sees {done : Nat} {fm : Fm} {h : Heap} {A : List (Nat × Nat)} {D : List Nat} {ρ : Rho} {a : Act} {w : World} {j : Nat} {o : Oper} (hk : RegOk ops)
    (hd : DInv P ops N d ρ0 h0 w0 done fm h A D ρ a w) (hA : ∀ i B, (i, B) ∈ A → inMask done i = false) (ho : ops[j]? = some o) (h1 : ∀ k, inMask (em o) k = true → k ∈ D) (h2 : ∀ k, inMask (em o) k = true → inMask done k = true) :
    ∃ fD aD, ActRel ρ h.nx N fD d aD ∧ opx (Env.of P) fD h o = opx (Env.of P) fm h o ∧ wantA ops fm o = Region.wanted o (yielded ops a.tmps) ∧ ((∀ cs b, o.op ≠ .select cs b) → execOp a.eval o = execOp aD.eval o) ∧ a.defers = aD.defers := by
  obtain ⟨fD, aD, q1, q2, q3, q4, q5⟩ := hd.fr
  have hs : ∀ t ∈ looks ops o, Fm.slot fD t = Fm.slot fm t := fun t ht => q2 t (Or.inr fun i p hp hpd => by
    have := hk.reads j o ho t ht i p hp hpd
    exact ⟨h2 i this, h1 i this⟩)
  have ha : ∀ t ∈ looks ops o, a.tmps[t]? = aD.tmps[t]? := fun t ht => q5 t fun i B p hi hp hpd => by
    have := hk.reads j o ho t ht i p hp hpd
    have h3 := hA i B hi
    rw [h2 i this] at h3
    cases h3
  refine ⟨fD, aD, q1, opx_slots _ h hs, ?_, fun hns => execOp_congr o hns (eval_slots ha), q3⟩
  rw [wanted_slots ha, ← want_ok q1.fm ops o, want_slots hs]

end Go.Ev
/- The evaluator: drawn regions, part 5: a sweep, an effect. -/
noncomputable section
namespace Go.Ev

variable {P : Program} {ops : Array Oper} {N : Nat} {d : List Dfr} {ρ0 : Rho} {h0 : Heap} {w0 : World}

theorem mask_not {m d : Nat} (h : Nat.beq (Nat.land m d) m = false) : ∃ e, inMask m e = true ∧ inMask d e = false := by
  apply Classical.byContradiction
  intro hno
  have hall : ∀ e, inMask m e = true → inMask d e = true := fun e he => by
    cases hd : inMask d e with
    | true => rfl
    | false => exact absurd ⟨e, he, hd⟩ hno
  have : m &&& d = m := by
    apply Nat.eq_of_testBit_eq
    intro i
    rw [Nat.testBit_and]
    have := hall i
    rw [inMask_eq, inMask_eq] at this
    cases hm : m.testBit i with
    | false => rfl
    | true => rw [this hm]; rfl
  have h' : Nat.land m d = m := this
  rw [h', Nat.beq_refl] at h
  cases h

theorem alc_op {E : Env} {o : Oper} (h : alcOk E o = true) : ∃ t v, o.op = .alloc t ∧ E.zero t = some v ∧ allOne v.cells = true := by
  unfold alcOk at h
  cases hop : o.op with
  | alloc t =>
    rw [hop] at h
    simp only [] at h
    cases hz : E.zero t with
    | none => rw [hz] at h; cases h
    | some v => rw [hz] at h; exact ⟨t, v, rfl, hz, h⟩
  | _ => rw [hop] at h; cases h

theorem SInv.grow {E : Env} {done : Nat} {live : List Item} {fm : Fm} {h : Heap} {A : List (Nat × Nat)} {D : List Nat} {j : Nat} {o : Oper} {v : AV} (hk : RegOk ops) (hs : SInv E ops N done live fm h A D) (ho : ops[j]? = some o) (hj : inMask done j = false)
    (hav : ∀ e, inMask (em o) e = true → inMask done e = true) (hjD : j ∉ D) (x : Item) (hx : x.i = j ∧ x.o = o) (hq : QOk E ops N (Fm.put fm N o.dst v) h o) : SInv E ops N (Nat.lor done (2 ^ j)) (x :: live) (Fm.put fm N o.dst v) h A D := by
  have up : ∀ i, inMask done i = true → inMask (Nat.lor done (2 ^ j)) i = true := fun i hi => (inMask_add _ _ _).2 (Or.inl hi)
  refine ⟨hs.down, ?_, ?_, ?_, ?_⟩
  · intro i p hp hi k hkk
    rcases (inMask_add _ _ _).1 hi with hi | rfl
    · exact up k (hs.ddn i p hp hi k hkk)
    · rw [ho] at hp
      injection hp with hp
      subst hp
      exact up k (hav k hkk)
  · intro i hi
    rcases hs.sub i hi with hh | hh
    · exact Or.inl (up i hh)
    · exact Or.inr hh
  · intro i p hp hi hiD
    rcases (inMask_add _ _ _).1 hi with hi | rfl
    · obtain ⟨⟨y, hy, hyi⟩, hq'⟩ := hs.lv i p hp hi hiD
      refine ⟨⟨y, List.mem_cons_of_mem _ hy, hyi⟩, hq'.put hk hp ho ?_ ?_⟩
      · rintro rfl
        rw [hi] at hj
        cases hj
      · cases he : inMask (em p) j with
        | false => rfl
        | true => rw [hs.ddn i p hp hi j he] at hj; cases hj
    · rw [ho] at hp
      injection hp with hp
      subst hp
      exact ⟨⟨x, List.mem_cons_self, hx⟩, hq⟩
  · intro i B hi
    obtain ⟨r1, r2, p, r3, r4, r5, r6⟩ := hs.al i B hi
    refine ⟨r1, ?_, p, r3, r4, ?_, fun k hkk => up k (r6 k hkk)⟩
    · cases hh : inMask (Nat.lor done (2 ^ j)) i with
      | false => rfl
      | true =>
        rcases (inMask_add _ _ _).1 hh with hh | rfl
        · rw [hh] at r2; cases r2
        · exact absurd r1 hjD
    · rw [want_slots (looks_put hk r3 ho ?_)]
      · exact r5
      · cases he : inMask (em p) j with
        | false => rfl
        | true => rw [r6 j he] at hj; cases hj

theorem DInv.grow {done : Nat} {fm : Fm} {h : Heap} {A : List (Nat × Nat)} {D : List Nat} {ρ : Rho} {a : Act} {w : World} {j : Nat} {o : Oper} {v : AV} (hd : DInv P ops N d ρ0 h0 w0 done fm h A D ρ a w) (ho : ops[j]? = some o) (hjD : j ∉ D) :
    DInv P ops N d ρ0 h0 w0 (Nat.lor done (2 ^ j)) (Fm.put fm N o.dst v) h A D ρ a w := by
  obtain ⟨fD, aD, q1, q2, q3⟩ := hd.fr
  refine ⟨hd.rel, hd.ext, ⟨fD, aD, q1, ?_, q3⟩, hd.al, hd.inj⟩
  intro t ht
  have hne : o.dst ≠ some t ∨ N ≤ t := by
    rcases ht with ht | ht
    · exact Or.inr ht
    · exact Or.inl fun e => hjD (ht j o ho e).2
  rw [slot_put_other hne]
  apply q2
  rcases ht with ht | ht
  · exact Or.inl ht
  · right
    intro i p hp hpd
    obtain ⟨r1, r2⟩ := ht i p hp hpd
    refine ⟨?_, r2⟩
    rcases (inMask_add _ _ _).1 r1 with r1 | rfl
    · exact r1
    · exact absurd r2 hjD

/-- What a sweep has found, up to number k. -/
structure CandOk (ops : Array Oper) (k : Nat) (s : Stg) : Prop where
  c : ∀ c ∈ s.cand, ops[c.i]? = some c.o ∧ c.em = em c.o ∧ c.i < k ∧ inMask s.done c.i = false ∧ wantA ops s.fm c.o = true ∧ ∀ e, inMask (em c.o) e = true → inMask s.done e = true
  full : ∀ (i : Nat) (o : Oper), i < k → ops[i]? = some o → inMask s.done i = true ∨ (∃ c ∈ s.cand, c.i = i) ∨ ∃ e, e < i ∧ inMask (em o) e = true ∧ inMask s.done e = false

theorem CandOk.grow {k : Nat} {s : Stg} {o : Oper} {v : AV} (hk : RegOk ops) (hc : CandOk ops k s) (ho : ops[k]? = some o) (hj : inMask s.done k = false) (live : List Item) : CandOk ops (k + 1) ⟨Nat.lor s.done (2 ^ k), live, s.cand, Fm.put s.fm N o.dst v⟩ := by
  have up : ∀ i, inMask s.done i = true → inMask (Nat.lor s.done (2 ^ k)) i = true := fun i hi => (inMask_add _ _ _).2 (Or.inl hi)
  have dn : ∀ i, i ≠ k → inMask s.done i = false → inMask (Nat.lor s.done (2 ^ k)) i = false := fun i hi hf => by
    cases hh : inMask (Nat.lor s.done (2 ^ k)) i with
    | false => rfl
    | true =>
      rcases (inMask_add _ _ _).1 hh with hh | rfl
      · rw [hh] at hf; cases hf
      · exact absurd rfl hi
  refine ⟨fun c hcm => ?_, fun i p hi hp => ?_⟩
  · obtain ⟨q1, q2, q3, q4, q5, q6⟩ := hc.c c hcm
    refine ⟨q1, q2, by omega, dn _ (by omega) q4, ?_, fun e he => up e (q6 e he)⟩
    show wantA ops (Fm.put s.fm N o.dst v) c.o = true
    rw [want_slots (looks_put hk q1 ho ?_)]
    · exact q5
    · cases he : inMask (em c.o) k with
      | false => rfl
      | true => rw [q6 k he] at hj; cases hj
  · by_cases hik : i = k
    · subst hik
      exact Or.inl ((inMask_add _ _ _).2 (Or.inr rfl))
    · rcases hc.full i p (by omega) hp with hh | hh | ⟨e, e1, e2, e3⟩
      · exact Or.inl (up i hh)
      · exact Or.inr (Or.inl hh)
      · exact Or.inr (Or.inr ⟨e, e1, e2, dn e (by omega) e3⟩)

theorem sweep_ok (hk : RegOk ops) {h : Heap} {A : List (Nat × Nat)} {D : List Nat} {ρ : Rho} {a : Act} {w : World} : ∀ (l : List Oper) (k : Nat) (s s' : Stg), ops.toList.drop k = l → sweep (Env.of P) ops N h (items l k) s = some s' →
    SInv (Env.of P) ops N s.done s.live s.fm h A D → DInv P ops N d ρ0 h0 w0 s.done s.fm h A D ρ a w → CandOk ops k s →
    SInv (Env.of P) ops N s'.done s'.live s'.fm h A D ∧ DInv P ops N d ρ0 h0 w0 s'.done s'.fm h A D ρ a w ∧ CandOk ops ops.size s' := by
  intro l
  induction l with
  | nil =>
    intro k s s' hl hsw hs hd hc
    injection hsw with hsw
    subst hsw
    refine ⟨hs, hd, fun c hcm => ?_, ?_⟩
    · obtain ⟨q1, q2, q3, q4⟩ := hc.c c hcm
      exact ⟨q1, q2, (Array.getElem?_eq_some_iff.1 q1).1, q4⟩
    · intro i o hi ho
      refine hc.full i o ?_ ho
      have : ops.size - k = 0 := by simpa using congrArg List.length hl
      omega
  | cons o r ih =>
    intro k s s' hl hsw hs hd hc
    have ho : ops[k]? = some o := by
      rw [← Array.getElem?_toList]
      have : (ops.toList.drop k)[0]? = some o := by rw [hl]; rfl
      simpa using this
    have hr' : ops.toList.drop (k + 1) = r := by
      rw [← List.drop_drop, hl]; rfl
    have hself : inMask (em o) k = false := by
      cases he : inMask (em o) k with
      | false => rfl
      | true => have := hk.back k o ho k he; omega
    have hsw' : sweep (Env.of P) ops N h (⟨k, em o, o⟩ :: items r (k + 1)) s = some s' := hsw
    unfold sweep at hsw'
    simp only [] at hsw'
    cases hdn : inMask s.done k with
    | true =>
      rw [hdn] at hsw'
      refine ih (k + 1) s s' hr' hsw' hs hd ⟨fun c hcm => ?_, fun i p hi hp => ?_⟩
      · obtain ⟨q1, q2, q3, q4⟩ := hc.c c hcm
        exact ⟨q1, q2, by omega, q4⟩
      · by_cases hik : i = k
        · subst hik; exact Or.inl hdn
        · exact hc.full i p (by omega) hp
    | false =>
      rw [hdn] at hsw'
      simp only [cond_false] at hsw'
      cases hav : Nat.beq (Nat.land (em o) s.done) (em o) with
      | false =>
        rw [hav] at hsw'
        simp only [cond_false] at hsw'
        refine ih (k + 1) s s' hr' hsw' hs hd ⟨fun c hcm => ?_, fun i p hi hp => ?_⟩
        · obtain ⟨q1, q2, q3, q4⟩ := hc.c c hcm
          exact ⟨q1, q2, by omega, q4⟩
        · by_cases hik : i = k
          · subst hik
            rw [ho] at hp
            injection hp with hp
            subst hp
            obtain ⟨e, e1, e2⟩ := mask_not hav
            exact Or.inr (Or.inr ⟨e, hk.back i o ho e e1, e1, e2⟩)
          · exact hc.full i p (by omega) hp
      | true =>
        rw [hav] at hsw'
        simp only [cond_true] at hsw'
        have hav' : ∀ e, inMask (em o) e = true → inMask s.done e = true := fun e he => inMask_sub hav he
        cases hw : wantA ops s.fm o with
        | false =>
          rw [hw] at hsw'
          simp only [cond_false] at hsw'
          have hkD : k ∉ D := fun hh => by
            rcases hs.sub k hh with q | ⟨B, q⟩
            · rw [q] at hdn; cases hdn
            · obtain ⟨_, _, p, r3, _, r5, _⟩ := hs.al k B q
              rw [ho] at r3
              injection r3 with r3
              subst r3
              rw [r5] at hw
              cases hw
          refine ih (k + 1) _ s' hr' hsw' (hs.grow hk ho hdn hav' hkD ⟨k, em o, o⟩ ⟨rfl, rfl⟩ (Or.inl ⟨?_, ?_⟩)) (hd.grow ho hkD) (hc.grow hk ho hdn _)
          · rw [want_slots (looks_put hk ho ho hself)]; exact hw
          · exact fun t ht hN => slot_put_same ht hN
        | true =>
          rw [hw] at hsw'
          simp only [cond_true] at hsw'
          cases hqk : quietK o.op with
          | false =>
            rw [hqk] at hsw'
            simp only [cond_false] at hsw'
            refine ih (k + 1) _ s' hr' hsw' hs hd ⟨fun c hcm => ?_, fun i p hi hp => ?_⟩
            · rcases List.mem_cons.1 hcm with rfl | hcm
              · exact ⟨ho, rfl, Nat.lt_succ_self k, hdn, hw, hav'⟩
              · obtain ⟨q1, q2, q3, q4⟩ := hc.c c hcm
                exact ⟨q1, q2, by omega, q4⟩
            · by_cases hik : i = k
              · subst hik
                exact Or.inr (Or.inl ⟨_, List.mem_cons_self, rfl⟩)
              · rcases hc.full i p (by omega) hp with q | ⟨c, q, q'⟩ | q
                · exact Or.inl q
                · exact Or.inr (Or.inl ⟨c, List.mem_cons_of_mem _ q, q'⟩)
                · exact Or.inr (Or.inr q)
          | true =>
            rw [hqk] at hsw'
            simp only [cond_true] at hsw'
            cases hv : qval (Env.of P) s.fm h o with
            | none => rw [hv] at hsw'; cases hsw'
            | some v =>
              rw [hv] at hsw'
              simp only [] at hsw'
              have hval : opx (Env.of P) s.fm h o = .val v h := by
                unfold qval at hv
                cases hop : opx (Env.of P) s.fm h o with
                | val u h' =>
                  rw [hop] at hv
                  simp only [] at hv
                  cases hb : Nat.beq h'.nx h.nx with
                  | false => rw [hb] at hv; cases hv
                  | true =>
                    rw [hb] at hv
                    injection hv with hv
                    subst hv
                    have := quiet_keeps (Env.of P) s.fm h o hqk u h' hop (beq_eq hb)
                    rw [this]
                | _ => rw [hop] at hv; cases hv
              have hkD : k ∉ D := fun hh => by
                rcases hs.sub k hh with q | ⟨B, q⟩
                · rw [q] at hdn; cases hdn
                · obtain ⟨_, _, p, r3, r4, _, _⟩ := hs.al k B q
                  rw [ho] at r3
                  injection r3 with r3
                  subst r3
                  obtain ⟨t, u, e, _⟩ := alc_op r4
                  rw [e] at hqk
                  cases hqk
              have hl := looks_put hk ho ho hself (fm := s.fm) (N := N) (v := v)
              refine ih (k + 1) _ s' hr' hsw' (hs.grow hk ho hdn hav' hkD ⟨k, em o, o⟩ ⟨rfl, rfl⟩ (Or.inr ⟨?_, hqk, v, ?_, ?_⟩)) (hd.grow ho hkD) (hc.grow hk ho hdn _)
              · rw [want_slots hl]; exact hw
              · rw [opx_slots _ h hl]; exact hval
              · exact fun t ht hN => slot_put_same ht hN

/-! An effect -/
theorem befores_in {D : List Nat} : ∀ {ys : List Item} {m : Nat}, (∀ x ∈ ys, x.i ∈ D → ∀ k, inMask x.em k = true → k ∈ D) → (∀ k, inMask m k = true → k ∈ D) → ∀ k, inMask (befores ys m) k = true → k ∈ D
  | [], _, _, hm => hm
  | x :: r, m, hx, hm => by
    refine befores_in (ys := r) (fun y hy => hx y (List.mem_cons_of_mem _ hy)) ?_
    intro k hk
    cases hi : inMask m x.i with
    | false => rw [hi] at hk; exact hm k hk
    | true =>
      rw [hi] at hk
      simp only [cond_true] at hk
      rw [inMask_lor, Bool.or_eq_true] at hk
      rcases hk with hk | hk
      · exact hm k hk
      · exact hx x List.mem_cons_self (hm _ hi) k hk
theorem keepLive_mem {m : Nat} : ∀ {l : List Item} {y : Item}, y ∈ l → inMask m y.i = false → y ∈ keepLive m l
  | [], _, h, _ => by simp at h
  | x :: r, y, h, hm => by
    unfold keepLive
    rcases List.mem_cons.1 h with rfl | h
    · rw [hm]; exact List.mem_cons_self
    · have := keepLive_mem h hm
      cases inMask m x.i
      · exact List.mem_cons_of_mem _ this
      · exact this
theorem again_mem {E : Env} {fm : Fm} {h : Heap} : ∀ {l : List Item}, again E ops fm h l = true → ∀ y ∈ l, again1 E ops fm h y.o = true
  | [], _, y, hy => by simp at hy
  | x :: r, ha, y, hy => by
    simp only [again, Bool.and_eq_true] at ha
    rcases List.mem_cons.1 hy with rfl | hy
    · exact ha.1
    · exact again_mem ha.2 y hy

theorem QOk.again {E : Env} {fm : Fm} {h h' : Heap} {o : Oper} (hq : QOk E ops N fm h o) (ha : again1 E ops fm h' o = true) : QOk E ops N fm h' o := by
  rcases hq with hq | ⟨q1, q2, _, _, _⟩
  · exact Or.inl hq
  · right
    refine ⟨q1, q2, ?_⟩
    unfold again1 at ha
    rw [q1] at ha
    simp only [cond_true] at ha
    cases hv : qval E fm h' o with
    | none => rw [hv] at ha; cases ha
    | some v =>
      rw [hv] at ha
      simp only [] at ha
      refine ⟨v, ?_, ?_⟩
      · unfold qval at hv
        cases hop : opx E fm h' o with
        | val u h'' =>
          rw [hop] at hv
          simp only [] at hv
          cases hb : Nat.beq h''.nx h'.nx with
          | false => rw [hb] at hv; cases hv
          | true =>
            rw [hb] at hv
            injection hv with hv
            subst hv
            rw [quiet_keeps E fm h' o q2 u h'' hop (beq_eq hb)]
        | _ => rw [hop] at hv; cases hv
      · intro t ht _
        rw [ht] at ha
        exact (eqV_eq 8 v _ ha).symm

theorem SInv.eff {E : Env} {done : Nat} {live : List Item} {fm : Fm} {h h' : Heap} {A A' : List (Nat × Nat)} {D D' : List Nat} {j : Nat} {o : Oper} {v : AV} {ys : List Item} (hk : RegOk ops) (hs : SInv E ops N done live fm h A D) (ho : ops[j]? = some o) (hj : inMask done j = false)
    (hav : ∀ e, inMask (em o) e = true → inMask done e = true) (heD : ∀ e, inMask (em o) e = true → e ∈ D) (hD : ∀ i, i ∈ D' ↔ i = j ∨ i ∈ D) (hys : ∀ x ∈ ys, ops[x.i]? = some x.o ∧ x.em = em x.o)
    (hA1 : ∀ i B, (i, B) ∈ A' → (i, B) ∈ A ∧ i ≠ j) (hA2 : ∀ i B, (i, B) ∈ A → i = j ∨ (i, B) ∈ A')
    (ha : again E ops (Fm.put fm N o.dst v) h' (keepLive (befores ys (em o)) live) = true) : SInv E ops N (Nat.lor done (2 ^ j)) (keepLive (befores ys (em o)) live) (Fm.put fm N o.dst v) h' A' D' := by
  have up : ∀ i, inMask done i = true → inMask (Nat.lor done (2 ^ j)) i = true := fun i hi => (inMask_add _ _ _).2 (Or.inl hi)
  have hbef : ∀ k, inMask (befores ys (em o)) k = true → k ∈ D := befores_in (fun x hx hxD k hkk => hs.down x.i x.o (hys x hx).1 hxD k (by rw [← (hys x hx).2]; exact hkk)) heD
  refine ⟨?_, ?_, ?_, ?_, ?_⟩
  · intro i p hp hi k hkk
    rcases (hD i).1 hi with rfl | hi
    · rw [ho] at hp
      injection hp with hp
      subst hp
      exact (hD k).2 (Or.inr (heD k hkk))
    · exact (hD k).2 (Or.inr (hs.down i p hp hi k hkk))
  · intro i p hp hi k hkk
    rcases (inMask_add _ _ _).1 hi with hi | rfl
    · exact up k (hs.ddn i p hp hi k hkk)
    · rw [ho] at hp
      injection hp with hp
      subst hp
      exact up k (hav k hkk)
  · intro i hi
    rcases (hD i).1 hi with rfl | hi
    · exact Or.inl ((inMask_add _ _ _).2 (Or.inr rfl))
    · rcases hs.sub i hi with hh | ⟨B, hh⟩
      · exact Or.inl (up i hh)
      · rcases hA2 i B hh with rfl | hh
        · exact Or.inl ((inMask_add _ _ _).2 (Or.inr rfl))
        · exact Or.inr ⟨B, hh⟩
  · intro i p hp hi hiD
    have hij : i ≠ j := fun e => hiD ((hD i).2 (Or.inl e))
    have hiD' : i ∉ D := fun e => hiD ((hD i).2 (Or.inr e))
    rcases (inMask_add _ _ _).1 hi with hi | hi
    · obtain ⟨⟨y, hy, hyi, hyo⟩, hq⟩ := hs.lv i p hp hi hiD'
      have hy' : y ∈ keepLive (befores ys (em o)) live := by
        refine keepLive_mem hy ?_
        cases hb : inMask (befores ys (em o)) y.i with
        | false => rfl
        | true => rw [hyi] at hb; exact absurd (hbef i hb) hiD'
      refine ⟨⟨y, hy', hyi, hyo⟩, ?_⟩
      have h1 := again_mem ha y hy'
      rw [hyo] at h1
      refine QOk.again (QOk.put hk hp ho (fun e => hij e.symm) ?_ hq) h1
      cases he : inMask (em p) j with
      | false => rfl
      | true => rw [hs.ddn i p hp hi j he] at hj; cases hj
    · exact absurd hi hij
  · intro i B hi
    obtain ⟨hi', hij⟩ := hA1 i B hi
    obtain ⟨r1, r2, p, r3, r4, r5, r6⟩ := hs.al i B hi'
    refine ⟨(hD i).2 (Or.inr r1), ?_, p, r3, r4, ?_, fun k hkk => up k (r6 k hkk)⟩
    · cases hh : inMask (Nat.lor done (2 ^ j)) i with
      | false => rfl
      | true =>
        rcases (inMask_add _ _ _).1 hh with hh | hh
        · rw [hh] at r2; cases r2
        · exact absurd hh hij
    · rw [want_slots (looks_put hk r3 ho ?_)]
      · exact r5
      · cases he : inMask (em p) j with
        | false => rfl
        | true => rw [r6 j he] at hj; cases hj

end Go.Ev
/- The evaluator: drawn regions, part 6: every order. -/
noncomputable section
namespace Go.Ev

variable {P : Program} {ops : Array Oper} {N : Nat} {d : List Dfr} {ρ0 : Rho} {h0 : Heap} {w0 : World}

theorem SInv.alNot {E : Env} {done : Nat} {live : List Item} {fm : Fm} {h : Heap} {A : List (Nat × Nat)} {D : List Nat} (hs : SInv E ops N done live fm h A D) : ∀ i B, (i, B) ∈ A → inMask done i = false := fun i B hi => (hs.al i B hi).2.1
theorem SInv.alOp {done : Nat} {live : List Item} {fm : Fm} {h : Heap} {A : List (Nat × Nat)} {D : List Nat} (hs : SInv (Env.of P) ops N done live fm h A D) : ∀ i B, (i, B) ∈ A → ∃ o t v, ops[i]? = some o ∧ o.op = .alloc t ∧ (Env.of P).zero t = some v := fun i B hi => by
  obtain ⟨_, _, o, r3, r4, _, _⟩ := hs.al i B hi
  obtain ⟨t, v, e, z, _⟩ := alc_op r4
  exact ⟨o, t, v, r3, e, z⟩

theorem SInv.cons {E : Env} {done : Nat} {live : List Item} {fm : Fm} {h : Heap} {A : List (Nat × Nat)} {D : List Nat} {j : Nat} {o : Oper} (hs : SInv E ops N done live fm h A D) (ho : ops[j]? = some o) (hdn : inMask done j = true) (heD : ∀ e, inMask (em o) e = true → e ∈ D) : SInv E ops N done live fm h A (j :: D) := by
  refine ⟨?_, hs.ddn, ?_, ?_, ?_⟩
  · intro i p hp hi k hkk
    rcases List.mem_cons.1 hi with rfl | hi
    · rw [ho] at hp
      injection hp with hp
      subst hp
      exact List.mem_cons_of_mem _ (heD k hkk)
    · exact List.mem_cons_of_mem _ (hs.down i p hp hi k hkk)
  · intro i hi
    rcases List.mem_cons.1 hi with rfl | hi
    · exact Or.inl hdn
    · exact hs.sub i hi
  · intro i p hp hi hiD
    exact hs.lv i p hp hi (fun hh => hiD (List.mem_cons_of_mem _ hh))
  · intro i B hi
    obtain ⟨r1, r2⟩ := hs.al i B hi
    exact ⟨List.mem_cons_of_mem _ r1, r2⟩

theorem quiet_step (hg : Good P) (hk : RegOk ops) {done : Nat} {live : List Item} {fm : Fm} {h : Heap} {A : List (Nat × Nat)} {D : List Nat} {ρ : Rho} {a : Act} {w : World} {j : Nat} {o : Oper} {Q : Exit → Act → World → Prop} {K : Act → World → Prop}
    (hs : SInv (Env.of P) ops N done live fm h A D) (hd : DInv P ops N d ρ0 h0 w0 done fm h A D ρ a w) (ho : ops[j]? = some o) (hdn : inMask done j = true) (hjD : j ∉ D) (heD : ∀ e, inMask (em o) e = true → e ∈ D)
    (hK : ∀ ρ' a' w', SInv (Env.of P) ops N done live fm h A (j :: D) → DInv P ops N d ρ0 h0 w0 done fm h A (j :: D) ρ' a' w' → K a' w') : wpOp P ops Q j K a w := by
  obtain ⟨fD, aD, q1, q2, q3, q4, q5⟩ := hd.sees hk hs.alNot ho heD (hs.ddn j o ho hdn)
  have hjA : ∀ B, (j, B) ∉ A := fun B hh => by
    have := hs.alNot j B hh
    rw [hdn] at this
    cases this
  have hs' := hs.cons ho hdn heD
  unfold wpOp
  rw [ho]
  simp only []
  rcases (hs.lv j o ho hdn hjD).2 with ⟨hw, hsl⟩ | ⟨hw, hq, v, hv, hsl⟩
  · rw [← q3, hw]
    simp only [Bool.false_eq_true, if_false]
    exact hK ρ _ w hs' (hd.step hk hs.alOp ho hjA (v := .tup []) hd.rel (Ext.refl _ _ _) trivial (fun _ _ => rfl) hsl (fun i hi => Or.inl hi))
  · rw [← q3, hw]
    simp only [if_true]
    left
    unfold Oper.wp
    rw [q4 (notSel (E := Env.of P) (fm := fm) (h := h) (by rw [hv]; intro e; cases e))]
    have hsays := opx_ok hg hd.rel q1.fm o
    rw [q2, hv] at hsays
    obtain ⟨ρ', w', nx, e, hnx, hr', hx, hsv⟩ := hsays
    rw [e]
    have hd' := hd.step hk hs.alOp ho hjA (v := v) hr' hx hsv (fun _ _ => rfl) hsl (fun i hi => Or.inl hi)
    rcases hnx with rfl | ⟨rfl, rfl⟩
    · exact hK ρ' _ w' hs' hd'
    · exact hK ρ' _ w' hs' hd'

theorem phase (hg : Good P) (hk : RegOk ops) {done : Nat} {live : List Item} {fm : Fm} {h : Heap} {Q : Exit → Act → World → Prop}
    (hend : ∀ A D ρ a w, SInv (Env.of P) ops N done live fm h A D → DInv P ops N d ρ0 h0 w0 done fm h A D ρ a w → (∀ i, i < ops.size → i ∈ D) → Q .normal a w)
    (hnext : ∀ (j : Nat) (o : Oper) (l : List Nat) A D ρ a w, SInv (Env.of P) ops N done live fm h A D → DInv P ops N d ρ0 h0 w0 done fm h A D ρ a w → ops[j]? = some o → j ∉ D → (∀ e, inMask (em o) e = true → e ∈ D) → inMask done j = false → Val ops (j :: D) l →
      (∀ A' ρ' a' w', SInv (Env.of P) ops N done live fm h A' (j :: D) → DInv P ops N d ρ0 h0 w0 done fm h A' (j :: D) ρ' a' w' → wpOps P ops Q l a' w') → wpOp P ops Q j (wpOps P ops Q l) a w) :
    ∀ (l : List Nat) A D ρ a w, SInv (Env.of P) ops N done live fm h A D → DInv P ops N d ρ0 h0 w0 done fm h A D ρ a w → Val ops D l → wpOps P ops Q l a w := by
  intro l
  induction l with
  | nil =>
    intro A D ρ a w hs hd hv
    exact hend A D ρ a w hs hd hv
  | cons j l ih =>
    intro A D ρ a w hs hd hv
    obtain ⟨v1, v2, v3, v4⟩ := hv
    rw [wpOps_cons]
    have ho : ops[j]? = some ops[j] := Array.getElem?_eq_getElem v2
    generalize ops[j] = o at ho
    have heD : ∀ e, inMask (em o) e = true → e ∈ D := fun k hkk => by
      obtain ⟨e, e1, e2, e3⟩ := edgeMask_in.1 hkk
      rw [← e3]
      exact v3 o ho e (by simpa using e1) e2
    cases hdn : inMask done j with
    | true => exact quiet_step hg hk hs hd ho hdn v1 heD (fun ρ' a' w' s' d' => ih A _ ρ' a' w' s' d' v4)
    | false => exact hnext j o l A D ρ a w hs hd ho v1 heD hdn v4 (fun A' ρ' a' w' s' d' => ih A' _ ρ' a' w' s' d' v4)

/-! A new variable ahead of its time -/
theorem Rel.push {ρ : Rho} {h : Heap} {w : World} (hr : Rel ρ h w) (o : Obj) : Rel ρ h { w with heap := w.heap.push o } :=
  ⟨hr.lt, fun b x hb => by
    obtain ⟨o', ho', hi⟩ := hr.is b x hb
    exact ⟨o', (push_lt o (Array.getElem?_eq_some_iff.1 ho').1).trans ho', hi⟩, hr.inj⟩
theorem Ext.push (ρ : Rho) (h : Heap) (w : World) (o : Obj) : Ext ρ h w ρ h { w with heap := w.heap.push o } :=
  ⟨by simp, rfl, rfl, rfl, Nat.le_refl _, fun _ _ => ⟨rfl, rfl, rfl⟩, fun k hk _ => push_lt o hk, fun b x hb => Or.inl ⟨b, x, hb, rfl⟩⟩

theorem alloc_exec {o : Oper} {t : Nat} {v : AV} (hop : o.op = .alloc t) (hz : (Env.of P).zero t = some v) (ρ : Rho) (e : Operand → Value) (w : World) :
    (execOp e o).run P w = .ok (.value (.pointer (some ⟨w.heap.size, 0, none⟩))) { w with heap := w.heap.push (.cells (conc ρ v).cells t (0, 0)) } := by
  obtain ⟨V, v1, v2, v3⟩ := zero_ok hz
  obtain ⟨dst, op, type, pos, after, guard⟩ := o
  simp only at hop
  subst hop
  rw [v2 ρ]
  simp [execOp, Instr.alloc, v1, newVar, newRow]

theorem early_step (hk : RegOk ops) {done : Nat} {live : List Item} {fm : Fm} {h : Heap} {A : List (Nat × Nat)} {D : List Nat} {ρ : Rho} {a : Act} {w : World} {j : Nat} {o : Oper} {Q : Exit → Act → World → Prop} {K : Act → World → Prop}
    (hs : SInv (Env.of P) ops N done live fm h A D) (hd : DInv P ops N d ρ0 h0 w0 done fm h A D ρ a w) (ho : ops[j]? = some o) (hdn : inMask done j = false) (hjD : j ∉ D) (heD : ∀ e, inMask (em o) e = true → e ∈ D) (hed : ∀ e, inMask (em o) e = true → inMask done e = true)
    (halc : alcOk (Env.of P) o = true) (hw : wantA ops fm o = true)
    (hK : ∀ A' a' w', SInv (Env.of P) ops N done live fm h A' (j :: D) → DInv P ops N d ρ0 h0 w0 done fm h A' (j :: D) ρ a' w' → K a' w') : wpOp P ops Q j K a w := by
  obtain ⟨fD, aD, q1, q2, q3, q4, q5⟩ := hd.sees hk hs.alNot ho heD hed
  obtain ⟨t, v, hop, hz, h1⟩ := alc_op halc
  unfold wpOp
  rw [ho]
  simp only []
  rw [← q3, hw]
  simp only [if_true]
  left
  unfold Oper.wp
  rw [alloc_exec hop hz ρ]
  show K (a.put o.dst _) _
  have hsz : ∀ b x, h.m.get b = some x → ρ.blk b < w.heap.size := fun b x hb => by
    obtain ⟨o', ho', _⟩ := hd.rel.is b x hb
    exact (Array.getElem?_eq_some_iff.1 ho').1
  refine hK ((j, w.heap.size) :: A) _ _ ⟨?_, hs.ddn, ?_, ?_, ?_⟩ ⟨hd.rel.push _, hd.ext.trans (Ext.push _ _ _ _), ?_, ?_, ?_⟩
  · intro i p hp hi k hkk
    rcases List.mem_cons.1 hi with rfl | hi
    · rw [ho] at hp
      injection hp with hp
      subst hp
      exact List.mem_cons_of_mem _ (heD k hkk)
    · exact List.mem_cons_of_mem _ (hs.down i p hp hi k hkk)
  · intro i hi
    rcases List.mem_cons.1 hi with rfl | hi
    · exact Or.inr ⟨_, List.mem_cons_self⟩
    · rcases hs.sub i hi with hh | ⟨B, hh⟩
      · exact Or.inl hh
      · exact Or.inr ⟨B, List.mem_cons_of_mem _ hh⟩
  · intro i p hp hi hiD
    exact hs.lv i p hp hi (fun hh => hiD (List.mem_cons_of_mem _ hh))
  · intro i B hi
    rcases List.mem_cons.1 hi with e | hi
    · injection e with e1 e2
      subst e1
      exact ⟨List.mem_cons_self, hdn, o, ho, halc, hw, hed⟩
    · obtain ⟨r1, r2⟩ := hs.al i B hi
      exact ⟨List.mem_cons_of_mem _ r1, r2⟩
  · obtain ⟨fD, aD, p1, p2, p3, p4, p5⟩ := hd.fr
    refine ⟨fD, aD, p1, ?_, ?_, ?_, ?_⟩
    · intro s hs'
      apply p2
      rcases hs' with hs' | hs'
      · exact Or.inl hs'
      · right
        intro i p hp hpd
        obtain ⟨r1, r2⟩ := hs' i p hp hpd
        refine ⟨r1, ?_⟩
        rcases List.mem_cons.1 r2 with rfl | r2
        · rw [r1] at hdn; cases hdn
        · exact r2
    · rw [put_defers, p3]
    · rw [put_size, p4]
    · intro s hs'
      rw [put_tmps_other (hs' j _ o List.mem_cons_self ho)]
      exact p5 s fun i B p hi hp => hs' i B p (List.mem_cons_of_mem _ hi) hp
  · intro i B hi p s u hp hpt hu
    rcases List.mem_cons.1 hi with e | hi
    · injection e with e1 e2
      subst e1
      subst e2
      rw [ho] at hp
      injection hp with hp
      subst hp
      rw [hop] at hpt
      injection hpt with hpt
      subst hpt
      rw [hz] at hu
      injection hu with hu
      subst hu
      refine ⟨push_new _, hd.ext.size, fun b x hb => ?_, fun t' ht' hN => ?_⟩
      · have := hsz b x hb; omega
      · obtain ⟨_, _, _, _, _, p4, _⟩ := hd.fr
        exact put_tmps_same ht' (by omega)
    · obtain ⟨r1, r2, r3, r4⟩ := hd.al i B hi p s u hp hpt hu
      have hB := (Array.getElem?_eq_some_iff.1 r1).1
      refine ⟨(push_lt _ hB).trans r1, r2, r3, fun t' ht' hN => ?_⟩
      have hiD := (hs.al i B hi).1
      have hij : i ≠ j := fun e => hjD (e ▸ hiD)
      rw [put_tmps_other (fun e => hij (hk.distinct i j p o t' hp ho ht' e))]
      exact r4 t' ht' hN
  · intro i k B hi hk'
    have hlt : ∀ i B, (i, B) ∈ A → B < w.heap.size := fun i B hh => by
      obtain ⟨o', t', v', r1, r2, r3⟩ := hs.alOp i B hh
      exact (Array.getElem?_eq_some_iff.1 (hd.al i B hh o' t' v' r1 r2 r3).1).1
    rcases List.mem_cons.1 hi with e | hi
    · injection e with e1 e2
      rcases List.mem_cons.1 hk' with e' | hk'
      · injection e' with e1' e2'
        rw [e1, e1']
      · have := hlt k B hk'; omega
    · rcases List.mem_cons.1 hk' with e' | hk'
      · injection e' with e1' e2'
        have := hlt i B hi; omega
      · exact hd.inj i k B hi hk'

/-- A block that is there gets a number. -/
theorem Rel.name {ρ : Rho} {h : Heap} {w : World} (hr : Rel ρ h w) (x : Blk) (o : Obj) (B c : Nat) (ho : w.heap[B]? = some o) (hB : ∀ b y, h.m.get b = some y → ρ.blk b ≠ B) (hx : x.is (ρ.upd h.nx B 0 c) (h.nx + 1) h.nx o) :
    Rel (ρ.upd h.nx B 0 c) (h.new x) w := by
  have hs := ρ.upd_same h.nx B 0 c
  have hget : ∀ b y, (h.new x).m.get b = some y → (b = h.nx ∧ y = x) ∨ (b ≠ h.nx ∧ h.m.get b = some y) := fun b y hb => by
    have hb' : (h.m.set h.nx x).get b = some y := hb
    rw [Tr.get_set] at hb'
    by_cases e : b = h.nx
    · rw [if_pos e] at hb'; injection hb' with hb'; exact Or.inl ⟨e, hb'.symm⟩
    · rw [if_neg e] at hb'; exact Or.inr ⟨e, hb'⟩
  refine ⟨fun b y hb => ?_, fun b y hb => ?_, fun b b' y y' hb hb' e => ?_⟩
  · show b < h.nx + 1
    rcases hget b y hb with ⟨e, _⟩ | ⟨_, hb⟩
    · omega
    · have := hr.lt b y hb; omega
  · rcases hget b y hb with ⟨e, e'⟩ | ⟨e, hb⟩
    · subst e; subst e'
      refine ⟨o, ?_, hx⟩
      rw [Rho.upd_blk]
      exact ho
    · obtain ⟨o', ho', hi⟩ := hr.is b y hb
      refine ⟨o', ?_, Blk.is_ext hi (hr.lt b y hb) hs (Nat.le_succ _)⟩
      rw [Rho.upd_blk_other _ _ _ _ e]
      exact ho'
  · rcases hget b y hb with ⟨e1, _⟩ | ⟨e1, hb1⟩
    · rcases hget b' y' hb' with ⟨e2, _⟩ | ⟨e2, hb2⟩
      · omega
      · subst e1
        rw [Rho.upd_blk, Rho.upd_blk_other _ _ _ _ e2] at e
        exact absurd e.symm (hB b' y' hb2)
    · rcases hget b' y' hb' with ⟨e2, _⟩ | ⟨e2, hb2⟩
      · subst e2
        rw [Rho.upd_blk, Rho.upd_blk_other _ _ _ _ e1] at e
        exact absurd e (hB b y hb1)
      · rw [Rho.upd_blk_other _ _ _ _ e1, Rho.upd_blk_other _ _ _ _ e2] at e
        exact hr.inj b b' y y' hb1 hb2 e
theorem Ext.name {ρ0 ρ : Rho} {h0 h : Heap} {w0 w : World} (he : Ext ρ0 h0 w0 ρ h w) (x : Blk) (B c : Nat) (hB : w0.heap.size ≤ B) : Ext ρ0 h0 w0 (ρ.upd h.nx B 0 c) (h.new x) w := by
  have hs := ρ.upd_same h.nx B 0 c
  refine ⟨he.size, he.os, he.tape, he.output, Nat.le_trans he.nx (Nat.le_succ _), fun b hb => ?_, he.frame, fun b y hb => ?_⟩
  · obtain ⟨p1, p2, p3⟩ := he.same b hb
    obtain ⟨q1, q2, q3⟩ := hs b (Nat.lt_of_lt_of_le hb he.nx)
    exact ⟨q1.trans p1, q2.trans p2, q3.trans p3⟩
  · have hb' : (h.m.set h.nx x).get b = some y := hb
    rw [Tr.get_set] at hb'
    by_cases e : b = h.nx
    · right; subst e; rw [Rho.upd_blk]; exact hB
    · rw [if_neg e] at hb'
      rw [Rho.upd_blk_other _ _ _ _ e]
      exact he.img b y hb'

theorem advance (hk : RegOk ops) {done : Nat} {live : List Item} {fm : Fm} {h : Heap} {A : List (Nat × Nat)} {D : List Nat} {ρ : Rho} {a : Act} {w : World} {j B t : Nat} {o : Oper} {v : AV} {ys : List Item}
    (hs : SInv (Env.of P) ops N done live fm h A D) (hd : DInv P ops N d ρ0 h0 w0 done fm h A D ρ a w) (ho : ops[j]? = some o) (hjA : (j, B) ∈ A) (hop : o.op = .alloc t) (hz : (Env.of P).zero t = some v) (h1 : allOne v.cells = true) (hys : ∀ x ∈ ys, ops[x.i]? = some x.o ∧ x.em = em x.o)
    (ha : again (Env.of P) ops (Fm.put fm N o.dst (.ptr h.nx 0)) (h.new (rowOf t v.cells)) (keepLive (befores ys (em o)) live) = true) :
    ∃ A' ρ', SInv (Env.of P) ops N (Nat.lor done (2 ^ j)) (keepLive (befores ys (em o)) live) (Fm.put fm N o.dst (.ptr h.nx 0)) (h.new (rowOf t v.cells)) A' D ∧
      DInv P ops N d ρ0 h0 w0 (Nat.lor done (2 ^ j)) (Fm.put fm N o.dst (.ptr h.nx 0)) (h.new (rowOf t v.cells)) A' D ρ' a w := by
  obtain ⟨r1, r2, o', r3, r4, r5, r6⟩ := hs.al j B hjA
  rw [ho] at r3
  injection r3 with r3
  subst r3
  obtain ⟨s1, s2, s3, s4⟩ := hd.al j B hjA o t v ho hop hz
  obtain ⟨V, v1, v2, v3⟩ := zero_ok hz
  have hlen : (conc ρ v).cells.size = v.cells.length := by rw [← Array.length_toList, conc_cells, List.length_map]
  have hcell : ∀ (ρ' : Rho) (i : Nat) (u : AV), v.cells[i]? = some u → (conc ρ v).cells[i]? = some (conc ρ' u) := fun ρ' i u hu => by
    rw [zero_same hz ρ ρ', ← Array.getElem?_toList, conc_cells, List.getElem?_map, hu]; rfl
  have hsc : ∀ (ρ' : Rho) (n : Nat), ∀ u ∈ v.cells, sc ρ' n u := fun ρ' n => sc_cells (v3 ρ' n)
  have hrow : (rowOf t v.cells).is (ρ.upd h.nx B 0 v.cells.length) (h.nx + 1) h.nx (.cells (conc ρ v).cells t (0, 0)) := by
    refine row_is h.nx ?_ ?_ ?_ h1 (hsc _ _) (0, 0) ?_ (fun _ => Or.inl rfl)
    · rw [Rho.upd_base, Rho.upd_cap]; omega
    · rw [Rho.upd_cap]; exact Nat.le_refl _
    · intro i u hu
      rw [Rho.upd_base, Nat.zero_add]
      exact hcell _ i u hu
    · intro i _ _ hh
      exact absurd hh.2 (by simp)
  have hsame := ρ.upd_same h.nx B 0 v.cells.length
  have hptr : conc (ρ.upd h.nx B 0 v.cells.length) (.ptr h.nx 0) = .pointer (some ⟨B, 0, none⟩) := by
    simp [conc, Rho.at, Rho.upd_blk, Rho.upd_base]
  refine ⟨A.filter fun p => !Nat.beq p.1 j, ρ.upd h.nx B 0 v.cells.length, ?_, ?_⟩
  · refine hs.eff hk ho r2 r6 (hs.down j o ho r1) (fun i => ⟨fun hi => Or.inr hi, fun hi => hi.elim (fun e => e ▸ r1) id⟩) hys ?_ ?_ ha
    · intro i B' hi
      obtain ⟨e1, e2⟩ := List.mem_filter.1 hi
      refine ⟨e1, ?_⟩
      rintro rfl
      simp [Nat.beq_refl] at e2
    · intro i B' hi
      by_cases e : i = j
      · exact Or.inl e
      · right
        refine List.mem_filter.2 ⟨hi, ?_⟩
        cases hb : Nat.beq i j with
        | false => rfl
        | true => exact absurd (beq_eq hb) e
  · refine ⟨hd.rel.name _ _ B _ s1 s3 hrow, hd.ext.name _ B _ s2, ?_, ?_, ?_⟩
    · obtain ⟨fD, aD, p1, p2, p3, p4, p5⟩ := hd.fr
      have hact := ((p1.ext hsame (Nat.le_succ h.nx)).put o.dst (v := .ptr h.nx 0) (Nat.lt_succ_self h.nx))
      refine ⟨Fm.put fD N o.dst (.ptr h.nx 0), _, hact, ?_, ?_, p4, ?_⟩
      · intro s hs'
        by_cases htd : o.dst = some s ∧ s < N
        · rw [slot_put_same htd.1 htd.2, slot_put_same htd.1 htd.2]
        · have htd' : o.dst ≠ some s ∨ N ≤ s := by
            by_cases e : o.dst = some s
            · right
              have : ¬ s < N := fun hh => htd ⟨e, hh⟩
              omega
            · exact Or.inl e
          rw [slot_put_other htd', slot_put_other htd']
          apply p2
          rcases hs' with hs' | hs'
          · exact Or.inl hs'
          · rcases htd' with htd' | htd'
            · right
              intro i p hp hpd
              obtain ⟨e1, e2⟩ := hs' i p hp hpd
              refine ⟨?_, e2⟩
              rcases (inMask_add _ _ _).1 e1 with e1 | rfl
              · exact e1
              · rw [ho] at hp
                injection hp with hp
                subst hp
                exact absurd hpd htd'
            · exact Or.inl htd'
      · rw [put_defers, p3]
      · intro s hs'
        by_cases e : o.dst = some s
        · by_cases hN : s < N
          · rw [put_tmps_same e (by rw [p1.fm.1]; exact hN), hptr, s4 s e hN]
          · rw [Array.getElem?_eq_none (by omega), Array.getElem?_eq_none (by rw [put_size, p1.fm.1]; omega)]
        · rw [put_tmps_other e]
          apply p5
          intro i B' p hi hp hpd
          by_cases hij : i = j
          · subst hij
            rw [ho] at hp
            injection hp with hp
            subst hp
            exact e hpd
          · refine hs' i B' p (List.mem_filter.2 ⟨hi, ?_⟩) hp hpd
            cases hb : Nat.beq i j with
            | false => rfl
            | true => exact absurd (beq_eq hb) hij
    · intro i B' hi p s u hp hpt hu
      obtain ⟨e1, e2⟩ := List.mem_filter.1 hi
      obtain ⟨q1, q2, q3, q4⟩ := hd.al i B' e1 p s u hp hpt hu
      refine ⟨by rw [q1, zero_same hu ρ _], q2, fun b x hb => ?_, q4⟩
      have hb' : (h.m.set h.nx (rowOf t v.cells)).get b = some x := hb
      rw [Tr.get_set] at hb'
      by_cases e : b = h.nx
      · subst e
        rw [Rho.upd_blk]
        rintro rfl
        have := hd.inj i j B e1 hjA
        subst this
        simp [Nat.beq_refl] at e2
      · rw [if_neg e] at hb'
        rw [Rho.upd_blk_other _ _ _ _ e]
        exact q3 b x hb'
    · intro i k B' hi hk'
      exact hd.inj i k B' (List.mem_filter.1 hi).1 (List.mem_filter.1 hk').1

end Go.Ev
/- The evaluator: drawn regions, part 7: the whole. -/
noncomputable section
namespace Go.Ev

variable {P : Program} {ops : Array Oper} {N : Nat} {d : List Dfr} {ρ0 : Rho} {h0 : Heap} {w0 : World}

/-- An effect that is a value. -/
theorem eff_val (hk : RegOk ops) {done : Nat} {live : List Item} {fm : Fm} {h h' : Heap} {A : List (Nat × Nat)} {D : List Nat} {ρ : Rho} {a : Act} {w : World} {j : Nat} {o : Oper} {v : AV} {ys : List Item} {ρ' : Rho} {w' : World}
    (hs : SInv (Env.of P) ops N done live fm h A D) (hd : DInv P ops N d ρ0 h0 w0 done fm h A D ρ a w) (ho : ops[j]? = some o) (hdn : inMask done j = false) (hjA : ∀ B, (j, B) ∉ A)
    (heD : ∀ e, inMask (em o) e = true → e ∈ D) (hed : ∀ e, inMask (em o) e = true → inMask done e = true) (hys : ∀ x ∈ ys, ops[x.i]? = some x.o ∧ x.em = em x.o)
    (hr : Rel ρ' h' w') (hx : Ext ρ h w ρ' h' w') (hv : sc ρ' h'.nx v)
    (ha : again (Env.of P) ops (Fm.put fm N o.dst v) h' (keepLive (befores ys (em o)) live) = true) :
    SInv (Env.of P) ops N (Nat.lor done (2 ^ j)) (keepLive (befores ys (em o)) live) (Fm.put fm N o.dst v) h' A (j :: D) ∧
      DInv P ops N d ρ0 h0 w0 (Nat.lor done (2 ^ j)) (Fm.put fm N o.dst v) h' A (j :: D) ρ' (a.put o.dst (conc ρ' v)) w' :=
  ⟨hs.eff hk ho hdn hed heD (fun i => List.mem_cons) hys (fun i B hi => ⟨hi, fun e => hjA B (e ▸ hi)⟩) (fun i B hi => Or.inr hi) ha,
    hd.step hk hs.alOp ho hjA hr hx hv (fun t ht => slot_put_other ht) (fun t ht hN => slot_put_same ht hN) (fun i hi => (inMask_add _ _ _).1 hi)⟩

/-- All is done. -/
theorem all_done {done : Nat} {live : List Item} {fm : Fm} {h : Heap} {A : List (Nat × Nat)} {D : List Nat} {ρ : Rho} {a : Act} {w : World} {Q : Exit → Act → World → Prop}
    (hs : SInv (Env.of P) ops N done live fm h A D) (hd : DInv P ops N d ρ0 h0 w0 done fm h A D ρ a w) (hfull : ∀ i, i < ops.size → inMask done i = true) (hD : ∀ i, i < ops.size → i ∈ D) {h1 : Heap} (hm : ∀ b, h1.m.get b = h.m.get b) (hn : h1.nx = h.nx)
    (hp : Post ρ0 h0 w0 N Q ⟨.norm, fm, d, h1⟩) : Q .normal a w := by
  obtain ⟨fD, aD, q1, q2, q3, q4, q5⟩ := hd.fr
  have hA : ∀ i B, (i, B) ∉ A := fun i B hi => by
    obtain ⟨_, r2, o, r3, _⟩ := hs.al i B hi
    rw [hfull i (Array.getElem?_eq_some_iff.1 r3).1] at r2
    cases r2
  have ht : ∀ t : Nat, a.tmps[t]? = aD.tmps[t]? := fun t => q5 t fun i B o hi => absurd hi (hA i B)
  have hsl : ∀ t : Nat, Fm.slot fD t = Fm.slot fm t := fun t => q2 t (Or.inr fun i o ho _ => ⟨hfull i (Array.getElem?_eq_some_iff.1 ho).1, hD i (Array.getElem?_eq_some_iff.1 ho).1⟩)
  refine hp ρ w a (hd.rel.congr hm hn) ⟨⟨q4, fun t => ?_⟩, ?_⟩ ?_ trivial
  · show _ ∧ sc ρ h1.nx _
    rw [Array.getD_eq_getD_getElem?, ht t, ← Array.getD_eq_getD_getElem?, ← hsl t, hn]
    exact q1.fm.2 t
  · show DfRel ρ h1.nx d a.defers
    rw [q3, hn]
    exact q1.df
  · have he := hd.ext
    refine ⟨he.size, he.os, he.tape, he.output, ?_, he.same, he.frame, fun b x hb => ?_⟩
    · show h0.nx ≤ h1.nx
      rw [hn]; exact he.nx
    · exact he.img b x (by rw [← hm]; exact hb)

theorem full_mask {m n : Nat} (h : Nat.beq (Nat.succ m) (2 ^ n) = true) : ∀ i, i < n → inMask m i = true := fun i hi => inMask_full (by rw [← beq_eq h]; rfl) hi

theorem items_ops {x : Item} (hx : x ∈ items ops.toList 0) : ops[x.i]? = some x.o ∧ x.em = em x.o := by
  obtain ⟨j, h1, h2, h3⟩ := mem_items hx
  refine ⟨?_, h3⟩
  rw [h2, Nat.zero_add]
  simpa using h1

/-! Candidates -/
theorem effs_mem : ∀ {l : List Item} {x : Item}, x ∈ effs l → x ∈ l ∧ isAlc x.o.op = false
  | [], _, h => by simp [effs] at h
  | y :: r, x, h => by
    unfold effs at h
    cases hy : isAlc y.o.op with
    | true =>
      rw [hy] at h
      obtain ⟨q1, q2⟩ := effs_mem (l := r) h
      exact ⟨List.mem_cons_of_mem _ q1, q2⟩
    | false =>
      rw [hy] at h
      rcases List.mem_cons.1 h with rfl | h
      · exact ⟨List.mem_cons_self, hy⟩
      · obtain ⟨q1, q2⟩ := effs_mem (l := r) h
        exact ⟨List.mem_cons_of_mem _ q1, q2⟩
theorem alcs_mem : ∀ {l : List Item} {x : Item}, x ∈ alcs l → x ∈ l ∧ isAlc x.o.op = true
  | [], _, h => by simp [alcs] at h
  | y :: r, x, h => by
    unfold alcs at h
    cases hy : isAlc y.o.op with
    | false =>
      rw [hy] at h
      obtain ⟨q1, q2⟩ := alcs_mem (l := r) h
      exact ⟨List.mem_cons_of_mem _ q1, q2⟩
    | true =>
      rw [hy] at h
      rcases List.mem_cons.1 h with rfl | h
      · exact ⟨List.mem_cons_self, hy⟩
      · obtain ⟨q1, q2⟩ := alcs_mem (l := r) h
        exact ⟨List.mem_cons_of_mem _ q1, q2⟩
theorem cand_split : ∀ {l : List Item} {x : Item}, x ∈ l → (x ∈ effs l) ∨ (x ∈ alcs l)
  | [], _, h => by simp at h
  | y :: r, x, h => by
    unfold effs alcs
    rcases List.mem_cons.1 h with rfl | h
    · cases isAlc x.o.op
      · exact Or.inl List.mem_cons_self
      · exact Or.inr List.mem_cons_self
    · rcases cand_split h with q | q
      · left
        cases isAlc y.o.op
        · exact List.mem_cons_of_mem _ q
        · exact q
      · right
        cases isAlc y.o.op
        · exact q
        · exact List.mem_cons_of_mem _ q
theorem pend1_mem {x y : Nat} : ∀ {l : List Item}, pend1 x y l = true → ∀ z ∈ l, inMask z.em y = true → inMask z.em x = true
  | [], _, z, hz, _ => by simp at hz
  | u :: r, h, z, hz, hy => by
    simp only [pend1, Bool.and_eq_true] at h
    rcases List.mem_cons.1 hz with rfl | hz
    · have h1 := h.1
      rw [hy] at h1
      exact h1
    · exact pend1_mem h.2 z hz hy
theorem pends_mem {E : Env} {xs : List Item} {x : Nat} : ∀ {l : List Item}, pends E xs x l = true → ∀ y ∈ l, alcOk E y.o = true ∧ pend1 x y.i xs = true
  | [], _, y, hy => by simp at hy
  | u :: r, h, y, hy => by
    simp only [pends, Bool.and_eq_true] at h
    rcases List.mem_cons.1 hy with rfl | hy
    · exact h.1
    · exact pends_mem h.2 y hy

/-- What goes on behind an effect. -/
def GoDraw (P : Program) (ops : Array Oper) (N : Nat) (d : List Dfr) (ρ0 : Rho) (h0 : Heap) (w0 : World) (Q : Exit → Act → World → Prop) (go : Nat → List Item → Fm → Heap → Res Out) : Prop :=
  ∀ done live fm h A D ρ a w l, SInv (Env.of P) ops N done live fm h A D → DInv P ops N d ρ0 h0 w0 done fm h A D ρ a w → Val ops D l → (go done live fm h).All (Post ρ0 h0 w0 N Q) → wpOps P ops Q l a w

theorem runEff_ok (hg : Good P) (hk : RegOk ops) {cl : Nat → List AV → Heap → Res CO} (hcl : CallOk P cl) {go : Nat → List Item → Fm → Heap → Res Out} {Q : Exit → Act → World → Prop} (hgo : GoDraw P ops N d ρ0 h0 w0 Q go) {ys : List Item} (hys : ∀ x ∈ ys, ops[x.i]? = some x.o ∧ x.em = em x.o)
    {s : Stg} {h : Heap} {x : Item} {ps : List Item} (hc : CandOk ops ops.size s) (hxc : x ∈ s.cand) (hps : ∀ y ∈ s.cand, y = x ∨ y ∈ ps) (hpc : ∀ y ∈ ps, y ∈ s.cand) {A : List (Nat × Nat)} {D : List Nat} {ρ : Rho} {a : Act} {w : World} {l : List Nat}
    (hs : SInv (Env.of P) ops N s.done s.live s.fm h A D) (hd : DInv P ops N d ρ0 h0 w0 s.done s.fm h A D ρ a w) (hv : Val ops D l) (hall : (runEff (Env.of P) cl ops N (items ops.toList 0) ys go s h x ps).All (Post ρ0 h0 w0 N Q)) : wpOps P ops Q l a w := by
  obtain ⟨c1, c2, c3, c4, c5, c6⟩ := hc.c x hxc
  unfold runEff at hall
  cases hpe : pends (Env.of P) (items ops.toList 0) x.i ps with
  | false => rw [hpe] at hall; exact hall.elim
  | true =>
    rw [hpe] at hall
    simp only [cond_true] at hall
    have hpends := pends_mem hpe
    -- the effect itself
    have heff : ∀ A D ρ a w l, SInv (Env.of P) ops N s.done s.live s.fm h A D → DInv P ops N d ρ0 h0 w0 s.done s.fm h A D ρ a w → x.i ∉ D → (∀ e, inMask (em x.o) e = true → e ∈ D) → Val ops (x.i :: D) l → wpOp P ops Q x.i (wpOps P ops Q l) a w := by
      intro A D ρ a w l hs hd hjD heD hv
      have hjA : ∀ B, (x.i, B) ∉ A := fun B hh => hjD (hs.al x.i B hh).1
      obtain ⟨fD, aD, q1, q2, q3, q4, q5⟩ := hd.sees hk hs.alNot c1 heD c6
      unfold wpOp
      rw [c1]
      simp only []
      rw [← q3, c5]
      simp only [if_true]
      left
      unfold Oper.wp
      have hne : opx (Env.of P) s.fm h x.o ≠ .fail := fun e => by rw [e] at hall; exact hall.elim
      rw [q4 (notSel hne)]
      have hsays := opx_ok hg hd.rel q1.fm x.o
      rw [q2] at hsays
      have hafter : ∀ (v : AV) (h' : Heap), (afterEff (Env.of P) ops N ys go s x v h').All (Post ρ0 h0 w0 N Q) → ∀ ρ' w', Rel ρ' h' w' → Ext ρ h w ρ' h' w' → sc ρ' h'.nx v → wpOps P ops Q l (a.put x.o.dst (conc ρ' v)) w' := by
        intro v h' ha ρ' w' p1 p2 p3
        unfold afterEff at ha
        rw [c2] at ha
        cases hag : again (Env.of P) ops (Fm.put s.fm N x.o.dst v) h' (keepLive (befores ys (em x.o)) s.live) with
        | false => rw [hag] at ha; exact ha.elim
        | true =>
          rw [hag] at ha
          obtain ⟨e1, e2⟩ := eff_val hk hs hd c1 c4 hjA heD c6 hys p1 p2 p3 hag
          exact hgo _ _ _ _ A _ ρ' _ w' l e1 e2 hv ha
      have hvalstep : ∀ v h', (afterEff (Env.of P) ops N ys go s x v h').All (Post ρ0 h0 w0 N Q) → ValIs ρ h w ((execOp aD.eval x.o).run P w) v h' → x.o.upon P a (wpOps P ops Q l) Q ((execOp aD.eval x.o).run P w) := by
        intro v h' ha hvi
        obtain ⟨ρ', w', nx, e, hnx, hr', hx, hsv⟩ := hvi
        rw [e]
        rcases hnx with rfl | ⟨rfl, rfl⟩
        · exact hafter v h' ha ρ' w' hr' hx hsv
        · exact hafter _ h' ha ρ' w' hr' hx hsv
      cases hop : opx (Env.of P) s.fm h x.o with
      | fail => exact absurd hop hne
      | val v h' =>
        rw [hop] at hall hsays
        exact hvalstep v h' hall hsays
      | call f args =>
        rw [hop] at hall hsays
        obtain ⟨e1, e2⟩ := hsays
        rw [e1, Oper.upon_enter]
        refine hcl f args h ρ w _ hd.rel e2 ((Res.All.bind hall).mono fun co hco => ?_)
        cases co with
        | ret v h' => exact fun ρ' w' p1 p2 p3 => hafter v h' hco ρ' w' p1 p2 p3
        | pan v h' => exact hco.elim
      | alt al =>
        rw [hop] at hall hsays
        obtain ⟨p, hp, hvi⟩ := hsays
        exact hvalstep p.1 p.2 (alts_all hall p hp) hvi
      | pan v => rw [hop] at hall; exact hall.elim
      | dfr d' => rw [hop] at hall; exact hall.elim
      | rcv => rw [hop] at hall; exact hall.elim
    by_cases hxA : ∃ B, (x.i, B) ∈ A
    · -- it has been done ahead of its time
      obtain ⟨B, hB⟩ := hxA
      obtain ⟨r1, r2, o', r3, r4, r5, r6⟩ := hs.al x.i B hB
      rw [c1] at r3
      injection r3 with r3
      subst r3
      obtain ⟨t, v, hop, hz, h1⟩ := alc_op r4
      have hopx : opx (Env.of P) s.fm h x.o = .val (.ptr h.nx 0) (h.new (rowOf t v.cells)) := by
        unfold opx
        rw [hop]
        show wo ((Env.of P).zero t) (fun v => xNew t v h) = _
        rw [hz]
        show xNew t v h = _
        unfold xNew
        rw [h1]
        rfl
      rw [hopx] at hall
      have ha : (afterEff (Env.of P) ops N ys go s x (.ptr h.nx 0) (h.new (rowOf t v.cells))).All (Post ρ0 h0 w0 N Q) := hall
      unfold afterEff at ha
      rw [c2] at ha
      cases hag : again (Env.of P) ops (Fm.put s.fm N x.o.dst (.ptr h.nx 0)) (h.new (rowOf t v.cells)) (keepLive (befores ys (em x.o)) s.live) with
      | false => rw [hag] at ha; exact ha.elim
      | true =>
        rw [hag] at ha
        obtain ⟨A', ρ', e1, e2⟩ := advance hk hs hd c1 hB hop hz h1 hys hag
        exact hgo _ _ _ _ A' D ρ' a w l e1 e2 hv ha
    · -- it is still to come
      have key : ∀ (l : List Nat) A D ρ a w, SInv (Env.of P) ops N s.done s.live s.fm h A D → DInv P ops N d ρ0 h0 w0 s.done s.fm h A D ρ a w → (∀ B, (x.i, B) ∉ A) → Val ops D l → wpOps P ops Q l a w := by
        intro l
        induction l with
        | nil =>
          intro A D ρ a w hs hd hxA hv
          exfalso
          rcases hs.sub x.i (hv x.i c3) with q | ⟨B, q⟩
          · rw [q] at c4; cases c4
          · exact hxA B q
        | cons j l ih =>
          intro A D ρ a w hs hd hxA hv
          obtain ⟨v1, v2, v3, v4⟩ := hv
          rw [wpOps_cons]
          have ho : ops[j]? = some ops[j] := Array.getElem?_eq_getElem v2
          generalize ops[j] = o at ho
          have heD : ∀ e, inMask (em o) e = true → e ∈ D := fun k hkk => by
            obtain ⟨e, e1, e2, e3⟩ := edgeMask_in.1 hkk
            rw [← e3]
            exact v3 o ho e (by simpa using e1) e2
          have hxD : x.i ∉ D := fun hh => by
            rcases hs.sub x.i hh with q | ⟨B, q⟩
            · rw [q] at c4; cases c4
            · exact hxA B q
          cases hdn : inMask s.done j with
          | true => exact quiet_step hg hk hs hd ho hdn v1 heD (fun ρ' a' w' s' d' => ih A _ ρ' a' w' s' d' hxA v4)
          | false =>
            have hcand : ∀ i p, ops[i]? = some p → inMask s.done i = false → (∀ e, inMask (em p) e = true → inMask s.done e = true) → ∃ c ∈ s.cand, c.i = i := by
              intro i p hp h1 h2
              rcases hc.full i p (Array.getElem?_eq_some_iff.1 hp).1 hp with q | q | ⟨e, _, q2, q3⟩
              · rw [q] at h1; cases h1
              · exact q
              · rw [h2 e q2] at q3; cases q3
            have hed : ∀ e, inMask (em o) e = true → inMask s.done e = true := by
              intro e he
              rcases hs.sub e (heD e he) with q | ⟨B, q⟩
              · exact q
              · exfalso
                obtain ⟨r1, r2, p, r3, r4, r5, r6⟩ := hs.al e B q
                obtain ⟨c, hcm, hci⟩ := hcand e p r3 r2 r6
                have hcx : c ≠ x := by
                  rintro rfl
                  rw [hci] at hxA
                  exact hxA B q
                have hcp : c ∈ ps := (hps c hcm).resolve_left hcx
                have hp1 := (hpends c hcp).2
                have hit := items_mem (k := 0) (show ops.toList[j]? = some o by simpa using ho)
                have := pend1_mem hp1 _ hit (by rw [hci]; exact he)
                exact hxD (heD x.i this)
            obtain ⟨c, hcm, hci⟩ := hcand j o ho hdn hed
            obtain ⟨d1, d2, d3, d4, d5, d6⟩ := hc.c c hcm
            rw [hci, ho] at d1
            injection d1 with d1
            by_cases hcx : c = x
            · subst hcx
              subst d1
              rw [← hci]
              rw [← hci] at v1 v4
              exact heff A D ρ a w l hs hd v1 heD v4
            · have hcp : c ∈ ps := (hps c hcm).resolve_left hcx
              have halc := (hpends c hcp).1
              rw [← d1] at halc d5
              refine early_step hk hs hd ho hdn v1 heD hed halc d5 (fun A' a' w' s' d' => ih A' _ ρ a' w' s' d' ?_ v4)
              intro B hB
              rcases List.mem_cons.1 (s'.al x.i B hB).1 with e | e
              · apply hcx
                have hio : c.i = x.i := by rw [hci, e]
                have hoo : c.o = x.o := by
                  have c1' := c1
                  rw [e, ho] at c1'
                  injection c1' with c1'
                  rw [← d1, c1']
                obtain ⟨ci, ce, co⟩ := c
                obtain ⟨xi, xe, xo⟩ := x
                simp only at hio hoo d2 c2
                subst hio
                subst hoo
                rw [d2, c2]
              · exact hxD e
      exact key l A D ρ a w hs hd (fun B hh => hxA ⟨B, hh⟩) hv

end Go.Ev
/- The evaluator: drawn regions, part 8: two stores come last; the whole. -/
noncomputable section
namespace Go.Ev

variable {P : Program} {ops : Array Oper} {N : Nat} {d : List Dfr} {ρ0 : Rho} {h0 : Heap} {w0 : World}

theorem stoAt_ok {E : Env} {fm : Fm} {h : Heap} {o : Oper} {b : Nat} {X : Blk} (hs : stoAt E fm h o = some (b, X)) {h2 : Heap} (hb : h2.m.get b = h.m.get b) : opx E fm h2 o = .val (.tup []) ⟨h2.m.set b X, h2.nx⟩ := by
  unfold stoAt at hs
  cases hop : o.op with
  | store t a x =>
    rw [hop] at hs
    simp only [] at hs
    unfold opx
    rw [hop]
    show aStore t a x E fm h2 = _
    unfold aStore
    cases ha : ro fm a with
    | none => rw [ha] at hs; cases hs
    | some av =>
      rw [ha] at hs
      cases av with
      | ptr c p =>
        simp only [] at hs
        cases hx : ro fm x with
        | none => rw [hx] at hs; cases hs
        | some v =>
          rw [hx] at hs
          simp only [] at hs
          show xStore E t (.ptr c p) v h2 = _
          unfold xStore
          simp only []
          cases hz : E.size t with
          | none => rw [hz] at hs; cases hs
          | some s =>
            rw [hz] at hs
            simp only [] at hs
            show (bif Nat.beq v.cells.length s then (match h2.store c p v.cells with | some h' => OR.val (.tup []) h' | none => .fail) else .fail) = _
            cases hbeq : Nat.beq v.cells.length s with
            | false => rw [hbeq] at hs; cases hs
            | true =>
              rw [hbeq] at hs
              simp only [cond_true] at hs ⊢
              cases hg : h.m.get c with
              | none => rw [hg] at hs; cases hs
              | some blk =>
                rw [hg] at hs
                cases blk with
                | cells t' c' n fz q =>
                  simp only [] at hs
                  cases hcnd : (Nat.ble (p + v.cells.length) n && Nat.ble fz p && allOne v.cells) with
                  | false => rw [hcnd] at hs; cases hs
                  | true =>
                    rw [hcnd] at hs
                    simp only [cond_true] at hs
                    injection hs with hs
                    injection hs with hs1 hs2
                    subst hs1
                    subst hs2
                    unfold Heap.store
                    rw [hb, hg]
                    simp only [hcnd, cond_true]
                | _ => cases hs
      | _ => cases hs
  | _ => rw [hop] at hs; cases hs

theorem noDst_none {o : Oper} (h : noDst o = true) : o.dst = none := by
  unfold noDst at h
  cases hd : o.dst with
  | none => rfl
  | some t => rw [hd] at h; cases h

/-- A store, in any state in which nothing is ahead of its time. -/
theorem sto_step (hg : Good P) (hk : RegOk ops) {done : Nat} {live : List Item} {fm : Fm} {h h' : Heap} {A : List (Nat × Nat)} {D : List Nat} {ρ : Rho} {a : Act} {w : World} {j : Nat} {o : Oper} {ys : List Item} {Q : Exit → Act → World → Prop} {K : Act → World → Prop}
    (hs : SInv (Env.of P) ops N done live fm h A D) (hd : DInv P ops N d ρ0 h0 w0 done fm h A D ρ a w) (ho : ops[j]? = some o) (hdn : inMask done j = false) (hjD : j ∉ D) (heD : ∀ e, inMask (em o) e = true → e ∈ D) (hed : ∀ e, inMask (em o) e = true → inMask done e = true)
    (hys : ∀ x ∈ ys, ops[x.i]? = some x.o ∧ x.em = em x.o) (hnd : noDst o = true) (hw : wantA ops fm o = true) (hop : opx (Env.of P) fm h o = .val (.tup []) h') (ha : again (Env.of P) ops fm h' (keepLive (befores ys (em o)) live) = true)
    (hK : ∀ ρ' a' w', SInv (Env.of P) ops N (Nat.lor done (2 ^ j)) (keepLive (befores ys (em o)) live) fm h' A (j :: D) → DInv P ops N d ρ0 h0 w0 (Nat.lor done (2 ^ j)) fm h' A (j :: D) ρ' a' w' → K a' w') : wpOp P ops Q j K a w := by
  obtain ⟨fD, aD, q1, q2, q3, q4, q5⟩ := hd.sees hk hs.alNot ho heD hed
  have hdst := noDst_none hnd
  have hput : Fm.put fm N o.dst (.tup []) = fm := by rw [hdst]; rfl
  unfold wpOp
  rw [ho]
  simp only []
  rw [← q3, hw]
  simp only [if_true]
  left
  unfold Oper.wp
  rw [q4 (notSel (E := Env.of P) (fm := fm) (h := h) (by rw [hop]; intro e; cases e))]
  have hsays := opx_ok hg hd.rel q1.fm o
  rw [q2, hop] at hsays
  obtain ⟨ρ', w', nx, e, hnx, hr', hx, hsv⟩ := hsays
  rw [e]
  obtain ⟨e1, e2⟩ := eff_val (v := .tup []) hk hs hd ho hdn (fun B hh => hjD (hs.al j B hh).1) heD hed hys hr' hx hsv (by rw [hput]; exact ha)
  rw [hput] at e1 e2
  rcases hnx with rfl | ⟨rfl, _⟩
  · exact hK ρ' _ w' e1 e2
  · exact hK ρ' _ w' e1 e2

theorem mask_lor_left {m j i : Nat} (h : inMask m i = true) : inMask (Nat.lor m (2 ^ j)) i = true := (inMask_add _ _ _).2 (Or.inl h)

/-- Two stores, one behind the other. -/
theorem two_half (hg : Good P) (hk : RegOk ops) {ys : List Item} (hys : ∀ x ∈ ys, ops[x.i]? = some x.o ∧ x.em = em x.o) {Q : Exit → Act → World → Prop} {done : Nat} {live : List Item} {fm : Fm} {h : Heap} {x y : Item} {b c : Nat} {X Y : Blk}
    (hx : ops[x.i]? = some x.o) (hy : ops[y.i]? = some y.o) (hxy : x.i ≠ y.i) (hdx : inMask done x.i = false) (hdy : inMask done y.i = false) (hfull : ∀ i, i < ops.size → inMask done i = true ∨ i = x.i ∨ i = y.i)
    (hnx : noDst x.o = true) (hny : noDst y.o = true) (hwx : wantA ops fm x.o = true) (hwy : wantA ops fm y.o = true) (hex : ∀ e, inMask (em x.o) e = true → inMask done e = true) (hey : ∀ e, inMask (em y.o) e = true → inMask done e = true)
    (hsx : stoAt (Env.of P) fm h x.o = some (b, X)) (hsy : stoAt (Env.of P) fm h y.o = some (c, Y)) (hbc : b ≠ c)
    (ha : again (Env.of P) ops fm ⟨h.m.set b X, h.nx⟩ (keepLive (befores ys (em x.o)) live) = true) (hl : keepLive (befores ys (em y.o)) (keepLive (befores ys (em x.o)) live) = [])
    {h1 : Heap} (hm : ∀ k, h1.m.get k = ((h.m.set b X).set c Y).get k) (hn : h1.nx = h.nx) (hp : Post ρ0 h0 w0 N Q ⟨.norm, fm, d, h1⟩)
    {A : List (Nat × Nat)} {D : List Nat} {ρ : Rho} {a : Act} {w : World} {l : List Nat} (hs : SInv (Env.of P) ops N done live fm h A D) (hd : DInv P ops N d ρ0 h0 w0 done fm h A D ρ a w) (hjD : x.i ∉ D) (heD : ∀ e, inMask (em x.o) e = true → e ∈ D) (hv : Val ops (x.i :: D) l) : wpOp P ops Q x.i (wpOps P ops Q l) a w := by
  refine sto_step hg hk hs hd hx hdx hjD heD hex hys hnx hwx (stoAt_ok hsx rfl) ha (fun ρ' a' w' s' d' => ?_)
  have hdy1 : inMask (Nat.lor done (2 ^ x.i)) y.i = false := by
    cases hh : inMask (Nat.lor done (2 ^ x.i)) y.i with
    | false => rfl
    | true =>
      rcases (inMask_add _ _ _).1 hh with hh | hh
      · rw [hh] at hdy; cases hdy
      · exact absurd hh.symm hxy
  have hyb : (h.m.set b X).get c = h.m.get c := Tr.get_set_other _ _ (fun e => hbc e.symm)
  have hopy : opx (Env.of P) fm ⟨h.m.set b X, h.nx⟩ y.o = .val (.tup []) ⟨(h.m.set b X).set c Y, h.nx⟩ := stoAt_ok hsy (h2 := ⟨h.m.set b X, h.nx⟩) hyb
  have notA : ∀ {A D}, SInv (Env.of P) ops N (Nat.lor done (2 ^ x.i)) (keepLive (befores ys (em x.o)) live) fm ⟨h.m.set b X, h.nx⟩ A D → ∀ B, (y.i, B) ∉ A := fun {A D} s B hh => by
    obtain ⟨_, _, o, r3, r4, _, _⟩ := s.al y.i B hh
    rw [hy] at r3
    injection r3 with r3
    subst r3
    obtain ⟨t, v, e, _⟩ := alc_op r4
    unfold stoAt at hsy
    rw [e] at hsy
    cases hsy
  refine phase hg hk ?_ ?_ l A (x.i :: D) ρ' a' w' s' d' hv
  · intro A D ρ a w s1 d1 hD
    exfalso
    rcases s1.sub y.i (hD y.i (Array.getElem?_eq_some_iff.1 hy).1) with q | ⟨B, q⟩
    · rw [q] at hdy1; cases hdy1
    · exact notA s1 B q
  · intro j o l A D ρ a w s1 d1 ho hjD heD hdn hv1 _
    have hj : j = y.i := by
      rcases hfull j (Array.getElem?_eq_some_iff.1 ho).1 with q | q | q
      · rw [mask_lor_left q] at hdn; cases hdn
      · rw [q, (inMask_add _ _ _).2 (Or.inr rfl)] at hdn; cases hdn
      · exact q
    subst hj
    rw [hy] at ho
    injection ho with ho
    subst ho
    refine sto_step hg hk s1 d1 hy hdy1 hjD heD (fun e he => mask_lor_left (hey e he)) hys hny hwy hopy (by rw [hl]; rfl) (fun ρ2 a2 w2 s2 d2 => ?_)
    have hfull2 : ∀ i, i < ops.size → inMask (Nat.lor (Nat.lor done (2 ^ x.i)) (2 ^ y.i)) i = true := fun i hi => by
      rcases hfull i hi with q | q | q
      · exact mask_lor_left (mask_lor_left q)
      · exact mask_lor_left ((inMask_add _ _ _).2 (Or.inr q))
      · exact (inMask_add _ _ _).2 (Or.inr q)
    have hD2 : ∀ i, i < ops.size → i ∈ y.i :: D := fun i hi => by
      apply Classical.byContradiction
      intro hno
      obtain ⟨⟨z, hz, _⟩, _⟩ := s2.lv i ops[i] (Array.getElem?_eq_getElem hi) (hfull2 i hi) hno
      rw [hl] at hz
      simp at hz
    cases l with
    | nil => exact all_done s2 d2 hfull2 hD2 hm hn hp
    | cons k r => exact absurd (hD2 k hv1.2.1) hv1.1

theorem set_swap {α : Type} (t : Tr α) {b c : Nat} (X Y : α) (h : b ≠ c) (k : Nat) : ((t.set b X).set c Y).get k = ((t.set c Y).set b X).get k := by
  rw [Tr.get_set, Tr.get_set, Tr.get_set, Tr.get_set]
  by_cases h1 : k = c
  · have h2 : k ≠ b := fun e => h (e.symm.trans h1)
    rw [if_pos h1, if_neg h2, if_pos h1]
  · rw [if_neg h1, if_neg h1]

theorem keepLive_comm (m n : Nat) : ∀ (l : List Item), keepLive m (keepLive n l) = keepLive n (keepLive m l)
  | [] => rfl
  | x :: r => by
    have ih := keepLive_comm m n r
    simp only [keepLive]
    cases h1 : inMask n x.i <;> cases h2 : inMask m x.i <;> simp [keepLive, h1, h2, ih]

theorem two_ok (hg : Good P) (hk : RegOk ops) {ys : List Item} (hys : ∀ x ∈ ys, ops[x.i]? = some x.o ∧ x.em = em x.o) {Q : Exit → Act → World → Prop} {s : Stg} {h : Heap} {x y : Item} (hc : CandOk ops ops.size s) (hxc : x ∈ s.cand) (hyc : y ∈ s.cand)
    {A : List (Nat × Nat)} {D : List Nat} {ρ : Rho} {a : Act} {w : World} {l : List Nat} (hs : SInv (Env.of P) ops N s.done s.live s.fm h A D) (hd : DInv P ops N d ρ0 h0 w0 s.done s.fm h A D ρ a w) (hv : Val ops D l)
    (hall : (two (Env.of P) ops ys d s x y h).All (Post ρ0 h0 w0 N Q)) : wpOps P ops Q l a w := by
  obtain ⟨c1, c2, c3, c4, c5, c6⟩ := hc.c x hxc
  obtain ⟨e1, e2, e3, e4, e5, e6⟩ := hc.c y hyc
  unfold two at hall
  cases hcnd : (Nat.beq (Nat.succ (Nat.lor (Nat.lor s.done (2 ^ x.i)) (2 ^ y.i))) (2 ^ ops.size) && noDst x.o && noDst y.o) with
  | false => rw [hcnd] at hall; exact hall.elim
  | true =>
    rw [hcnd] at hall
    simp only [Bool.and_eq_true] at hcnd
    obtain ⟨⟨f1, f2⟩, f3⟩ := hcnd
    simp only [cond_true] at hall
    cases hsx : stoAt (Env.of P) s.fm h x.o with
    | none => rw [hsx] at hall; exact hall.elim
    | some p =>
      rw [hsx] at hall
      simp only [] at hall
      cases hsy : stoAt (Env.of P) s.fm h y.o with
      | none => rw [hsy] at hall; exact hall.elim
      | some q =>
        rw [hsy] at hall
        obtain ⟨b, X⟩ := p
        obtain ⟨c, Y⟩ := q
        unfold twoAt at hall
        rw [c2, e2] at hall
        simp only [] at hall
        cases hbc : Nat.beq b c with
        | true => rw [hbc] at hall; exact hall.elim
        | false =>
          rw [hbc] at hall
          simp only [cond_false] at hall
          have hne : b ≠ c := fun e => by rw [e, Nat.beq_refl] at hbc; cases hbc
          cases hag : (again (Env.of P) ops s.fm ⟨h.m.set b X, h.nx⟩ (keepLive (befores ys (em x.o)) s.live) && again (Env.of P) ops s.fm ⟨h.m.set c Y, h.nx⟩ (keepLive (befores ys (em y.o)) s.live)) with
          | false => rw [hag] at hall; exact hall.elim
          | true =>
            rw [hag] at hall
            simp only [Bool.and_eq_true] at hag
            simp only [cond_true] at hall
            cases hl : keepLive (befores ys (em y.o)) (keepLive (befores ys (em x.o)) s.live) with
            | cons _ _ => rw [hl] at hall; exact hall.elim
            | nil =>
              rw [hl] at hall
              have hp : Post ρ0 h0 w0 N Q ⟨.norm, s.fm, d, ⟨(h.m.set b X).set c Y, h.nx⟩⟩ := hall
              have hfull : ∀ i, i < ops.size → inMask s.done i = true ∨ i = x.i ∨ i = y.i := fun i hi => by
                rcases (inMask_add _ _ _).1 (full_mask f1 i hi) with q | q
                · rcases (inMask_add _ _ _).1 q with q | q
                  · exact Or.inl q
                  · exact Or.inr (Or.inl q)
                · exact Or.inr (Or.inr q)
              have hxy : x.i ≠ y.i := fun e => by
                have : x.o = y.o := by
                  rw [e, e1] at c1
                  injection c1 with c1
                  exact c1.symm
                rw [this, hsy] at hsx
                injection hsx with hsx
                injection hsx with hsx _
                exact hne hsx.symm
              have notA : ∀ {A D}, SInv (Env.of P) ops N s.done s.live s.fm h A D → ∀ B, (x.i, B) ∉ A := fun {A D} s' B hh => by
                obtain ⟨_, _, o, r3, r4, _, _⟩ := s'.al x.i B hh
                rw [c1] at r3
                injection r3 with r3
                subst r3
                obtain ⟨t, v, e, _⟩ := alc_op r4
                unfold stoAt at hsx
                rw [e] at hsx
                cases hsx
              refine phase hg hk ?_ ?_ l A D ρ a w hs hd hv
              · intro A D ρ a w s1 d1 hD
                exfalso
                rcases s1.sub x.i (hD x.i c3) with q | ⟨B, q⟩
                · rw [q] at c4; cases c4
                · exact notA s1 B q
              · intro j o l A D ρ a w s1 d1 ho hjD heD hdn hv1 _
                rcases hfull j (Array.getElem?_eq_some_iff.1 ho).1 with q | q | q
                · rw [q] at hdn; cases hdn
                · subst q
                  rw [c1] at ho
                  injection ho with ho
                  subst ho
                  exact two_half hg hk hys c1 e1 hxy c4 e4 hfull f2 f3 c5 e5 c6 e6 hsx hsy hne hag.1 hl (h1 := ⟨(h.m.set b X).set c Y, h.nx⟩) (fun _ => rfl) rfl hp s1 d1 hjD heD hv1
                · subst q
                  rw [e1] at ho
                  injection ho with ho
                  subst ho
                  exact two_half hg hk hys e1 c1 (fun e => hxy e.symm) e4 c4 (fun i hi => (hfull i hi).imp id Or.symm) f3 f2 e5 c5 e6 c6 hsy hsx (fun e => hne e.symm) hag.2 (by rw [keepLive_comm]; exact hl)
                    (h1 := ⟨(h.m.set b X).set c Y, h.nx⟩) (fun k => set_swap h.m X Y hne k) rfl hp s1 d1 hjD heD hv1

theorem afterSweep_ok (hg : Good P) (hk : RegOk ops) {cl : Nat → List AV → Heap → Res CO} (hcl : CallOk P cl) {go : Nat → List Item → Fm → Heap → Res Out} {Q : Exit → Act → World → Prop} (hgo : GoDraw P ops N d ρ0 h0 w0 Q go) {ys : List Item} (hys : ∀ x ∈ ys, ops[x.i]? = some x.o ∧ x.em = em x.o)
    {s : Stg} {h : Heap} (hc : CandOk ops ops.size s) {A : List (Nat × Nat)} {D : List Nat} {ρ : Rho} {a : Act} {w : World} {l : List Nat}
    (hs : SInv (Env.of P) ops N s.done s.live s.fm h A D) (hd : DInv P ops N d ρ0 h0 w0 s.done s.fm h A D ρ a w) (hv : Val ops D l) (hall : (afterSweep (Env.of P) cl ops N (items ops.toList 0) ys d go h s).All (Post ρ0 h0 w0 N Q)) : wpOps P ops Q l a w := by
  unfold afterSweep at hall
  cases he : effs s.cand with
  | nil =>
    rw [he] at hall
    simp only [] at hall
    cases hal : alcs s.cand with
    | nil =>
      rw [hal] at hall
      simp only [] at hall
      cases hf : Nat.beq (Nat.succ s.done) (2 ^ ops.size) with
      | false => rw [hf] at hall; exact hall.elim
      | true =>
        rw [hf] at hall
        have hp : Post ρ0 h0 w0 N Q ⟨.norm, s.fm, d, h⟩ := hall
        refine phase hg hk ?_ ?_ l A D ρ a w hs hd hv
        · intro A D ρ a w s1 d1 hD
          exact all_done s1 d1 (full_mask hf) hD (fun _ => rfl) rfl hp
        · intro j o l A D ρ a w s1 d1 ho hjD heD hdn hv1 _
          rw [full_mask hf j (Array.getElem?_eq_some_iff.1 ho).1] at hdn
          cases hdn
    | cons x ps =>
      rw [hal] at hall
      have hx : x ∈ s.cand := (alcs_mem (by rw [hal]; exact List.mem_cons_self)).1
      refine runEff_ok hg hk hcl hgo hys hc hx (fun y hy => ?_) (fun y hy => (alcs_mem (by rw [hal]; exact List.mem_cons_of_mem _ hy)).1) hs hd hv hall
      rcases cand_split hy with q | q
      · rw [he] at q; simp at q
      · rw [hal] at q; exact List.mem_cons.1 q
  | cons x r =>
    rw [he] at hall
    have hx : x ∈ s.cand := (effs_mem (by rw [he]; exact List.mem_cons_self)).1
    cases r with
    | nil =>
      refine runEff_ok hg hk hcl hgo hys hc hx (fun y hy => ?_) (fun y hy => (alcs_mem hy).1) hs hd hv hall
      rcases cand_split hy with q | q
      · rw [he] at q; left; simpa using q
      · exact Or.inr q
    | cons y r =>
      have hy : y ∈ s.cand := (effs_mem (by rw [he]; simp)).1
      cases r with
      | nil =>
        simp only [] at hall
        cases hal : alcs s.cand with
        | nil =>
          rw [hal] at hall
          exact two_ok hg hk hys hc hy hx hs hd hv hall
        | cons _ _ => rw [hal] at hall; exact hall.elim
      | cons _ _ => exact hall.elim

theorem drawStg_ok (hg : Good P) (hk : RegOk ops) {cl : Nat → List AV → Heap → Res CO} (hcl : CallOk P cl) {ys : List Item} (hys : ∀ x ∈ ys, ops[x.i]? = some x.o ∧ x.em = em x.o) {Q : Exit → Act → World → Prop} :
    ∀ n, GoDraw P ops N d ρ0 h0 w0 Q (drawStg (Env.of P) cl ops N (items ops.toList 0) ys d n) := by
  intro n
  induction n with
  | zero => intro done live fm h A D ρ a w l _ _ _ hall; exact hall.elim
  | succ n ih =>
    intro done live fm h A D ρ a w l hs hd hv hall
    unfold drawStg at hall
    cases hsw : sweep (Env.of P) ops N h (items ops.toList 0) ⟨done, live, [], fm⟩ with
    | none => rw [hsw] at hall; exact hall.elim
    | some s =>
      rw [hsw] at hall
      obtain ⟨s1, s2, s3⟩ := sweep_ok hk ops.toList 0 ⟨done, live, [], fm⟩ s (by simp) hsw hs hd ⟨by simp, fun i o hi => by omega⟩
      exact afterSweep_ok hg hk hcl ih hys s3 s1 s2 hv hall

theorem wp_draw_ok (hg : Good P) {cl : Nat → List AV → Heap → Res CO} (hcl : CallOk P cl) {id : Nat} {Q : Exit → Act → World → Prop} {fm : Fm} {h : Heap} {ρ : Rho} {a : Act} {w : World} (hr : Rel ρ h w) (hact : ActRel ρ h.nx N fm d a)
    (hall : (evDraw (Env.of P) cl ops N fm d h).All (Post ρ h w N Q)) : (Code.region id ops true).wp P Q a w := by
  unfold evDraw at hall
  cases hk : regOk ops with
  | false => rw [hk] at hall; exact hall.elim
  | true =>
    rw [hk] at hall
    have hk' := regOk_spec hk
    refine wp_draw_val hk' fun l hl => ?_
    refine drawStg_ok (ρ0 := ρ) (h0 := h) (w0 := w) hg hk' hcl (fun x hx => items_ops (by simpa using hx)) (ops.size + 1) 0 [] fm h [] [] ρ a _ l ?_ ?_ hl hall
    · exact ⟨by simp, (fun i o ho hi => by rw [inMask_zero] at hi; cases hi), by simp, (fun i o ho hi => by rw [inMask_zero] at hi; cases hi), by simp⟩
    · exact ⟨hr.drawn _, Ext.drawn _ _ _ _, ⟨fm, a, hact, fun _ _ => rfl, rfl, hact.fm.1, fun _ _ => rfl⟩, by simp, by simp⟩

end Go.Ev
/- The evaluator, part 17: calls and deferred calls. -/
noncomputable section
namespace Go.Ev

variable {P : Program} {ρ : Rho} {h : Heap} {w : World} {N : Nat} {fm : Fm} {a : Act}

def DM.mode (ρ : Rho) : DM → FrameMode
  | .none => .returning
  | .pan v => .panicking [{ v := conc ρ v, recovered := false }]
  | .rcd v => .panicking [{ v := conc ρ v, recovered := true }]
def DM.sc (ρ : Rho) (nx : Nat) : DM → Prop
  | .none => True
  | .pan v => Ev.sc ρ nx v
  | .rcd v => Ev.sc ρ nx v
theorem DM.mode_same {ρ' : Rho} {nx : Nat} (hs : ρ.same ρ' nx) {m : DM} (hm : m.sc ρ nx) : m.mode ρ' = m.mode ρ := by
  cases m with
  | none => rfl
  | pan v => simp only [DM.mode, conc_same hs v hm]
  | rcd v => simp only [DM.mode, conc_same hs v hm]
theorem DM.sc_ext {ρ' : Rho} {nx nx' : Nat} (hs : ρ.same ρ' nx) (hn : nx ≤ nx') {m : DM} (hm : m.sc ρ nx) : m.sc ρ' nx' := by
  cases m with
  | none => trivial
  | pan v => exact Ev.sc_ext hs hn v hm
  | rcd v => exact Ev.sc_ext hs hn v hm

abbrev QS := Exit → Act → List Frame → World → Prop
def PostD (c₀ : Frame) (cs : List Frame) (ρ : Rho) (h : Heap) (w : World) (N : Nat) (Q : QS) (o : OutD) : Prop :=
  ∀ ρ' w' a', Rel ρ' o.h w' → ActRel ρ' o.h.nx N o.f o.d a' → Ext ρ h w ρ' o.h w' → o.e.sc ρ' o.h.nx → o.m.sc ρ' o.h.nx → Q (o.e.ex ρ') a' ({ c₀ with mode := o.m.mode ρ' } :: cs) w'
theorem PostD.ext {c₀ : Frame} {cs : List Frame} {ρ1 : Rho} {h1 : Heap} {w1 : World} {Q : QS} {o : OutD} (hp : PostD c₀ cs ρ h w N Q o) (hx : Ext ρ h w ρ1 h1 w1) : PostD c₀ cs ρ1 h1 w1 N Q o :=
  fun ρ' w' a' q1 q2 q3 q4 q5 => hp ρ' w' a' q1 q2 (hx.trans q3) q4 q5

theorem recoverD_none (c₀ : Frame) (cs : List Frame) : recoverD ({ c₀ with mode := DM.mode ρ .none } :: cs) = none := rfl
theorem recoverD_rcd (c₀ : Frame) (cs : List Frame) (v : AV) : recoverD ({ c₀ with mode := DM.mode ρ (.rcd v) } :: cs) = none := rfl
theorem recoverD_pan (c₀ : Frame) (cs : List Frame) (v : AV) : recoverD ({ c₀ with mode := DM.mode ρ (.pan v) } :: cs) = some (conc ρ v, { c₀ with mode := DM.mode ρ (.rcd v) } :: cs) := rfl

theorem evOpsD_ok (hg : Good P) {cl : Nat → List AV → Heap → Res CO} (hcl : CallOk P cl) (ops : Array Oper) (c₀ : Frame) (cs : List Frame) (Q : QS) : ∀ (l : List Oper) (k : Nat) (fm : Fm) (h : Heap) (m : DM) (ρ : Rho) (a : Act) (w : World), ops.toList.drop k = l → Rel ρ h w → ActRel ρ h.nx N fm [] a → m.sc ρ h.nx →
    (evOpsD (Env.of P) cl ops N l fm h m).All (PostD c₀ cs ρ h w N Q) → wpOpsS P ops Q (List.range' k l.length) a ({ c₀ with mode := m.mode ρ } :: cs) w := by
  intro l
  induction l with
  | nil =>
    intro k fm h m ρ a w _ hr hact hm hall
    exact hall ρ w a hr hact (Ext.refl _ _ _) trivial hm
  | cons o r ih =>
    intro k fm h m ρ a w hl hr hact hm hall
    have hk : ops[k]? = some o := by
      rw [← Array.getElem?_toList]
      have : (ops.toList.drop k)[0]? = some o := by rw [hl]; rfl
      simpa using this
    have hr' : ops.toList.drop (k + 1) = r := by
      rw [← List.drop_drop, hl]; rfl
    rw [List.length_cons, List.range'_succ]
    unfold wpOpsS
    rw [hk]
    simp only []
    have hwant := want_ok hact.fm ops o
    unfold evOpsD at hall
    cases hw : wantA ops fm o with
    | false =>
      rw [hw] at hall hwant
      rw [← hwant]
      simp only [Bool.false_eq_true, if_false]
      exact ih (k + 1) _ h m ρ _ w hr' hr (hact.put o.dst (v := .tup []) trivial) hm hall
    | true =>
      rw [hw] at hall hwant
      rw [← hwant]
      simp only [if_true]
      simp only [cond_true] at hall
      have hsays := opx_ok hg hr hact.fm o
      have hnext : ∀ (v : AV) (h' : Heap), (evOpsD (Env.of P) cl ops N r (Fm.put fm N o.dst v) h' m).All (PostD c₀ cs ρ h w N Q) → ∀ ρ' w' a', Rel ρ' h' w' → Ext ρ h w ρ' h' w' → ActRel ρ' h'.nx N (Fm.put fm N o.dst v) [] a' → wpOpsS P ops Q (List.range' (k + 1) r.length) a' ({ c₀ with mode := m.mode ρ } :: cs) w' :=
        fun v h' hv ρ' w' a' q1 q2 q3 => by
          have := ih (k + 1) _ h' m ρ' a' w' hr' q1 q3 (DM.sc_ext q2.same q2.nx hm) (hv.mono fun x hx => hx.ext q2)
          rw [DM.mode_same q2.same hm] at this
          exact this
      cases hop : opx (Env.of P) fm h o with
      | fail => rw [hop] at hall; exact hall.elim
      | val v h' =>
        rw [hop] at hall hsays
        obtain ⟨ρ', w', nx, e, hnx, hr1, hx, hs⟩ := hsays
        have hact' := (hact.ext hx.same hx.nx).put o.dst hs
        rw [e]
        rcases hnx with rfl | ⟨rfl, rfl⟩
        · exact hnext v h' hall ρ' w' _ hr1 hx hact'
        · exact hnext _ h' hall ρ' w' _ hr1 hx hact'
      | call f args =>
        rw [hop] at hall hsays
        obtain ⟨e1, e2⟩ := hsays
        rw [e1]
        show Oper.upon P o a _ _ _
        rw [Oper.upon_enter]
        refine hcl f args h ρ w _ hr e2 ((Res.All.bind hall).mono fun co hco => ?_)
        cases co with
        | ret v h' => exact fun ρ' w' q1 q2 q3 => hnext v h' hco ρ' w' _ q1 q2 ((hact.ext q2.same q2.nx).put o.dst q3)
        | pan v h' => exact hco.elim
      | pan v => rw [hop] at hall; exact hall.elim
      | dfr d' => rw [hop] at hall; exact hall.elim
      | rcv =>
        rw [hop] at hall hsays
        have hsays' : (execOp a.eval o).run P w = .ok .recover w := hsays
        rw [hsays']
        simp only []
        cases m with
        | none =>
          rw [recoverD_none]
          exact ih (k + 1) _ h .none ρ _ w hr' hr (hact.put o.dst (v := .nili) trivial) hm hall
        | rcd v =>
          rw [recoverD_rcd]
          exact ih (k + 1) _ h (.rcd v) ρ _ w hr' hr (hact.put o.dst (v := .nili) trivial) hm hall
        | pan v =>
          rw [recoverD_pan]
          exact ih (k + 1) _ h (.rcd v) ρ _ w hr' hr (hact.put o.dst (v := v) hm) hm hall
      | alt l => rw [hop] at hall; exact hall.elim

theorem evD_ok (hg : Good P) {go : Go} (hgo : GoOk P go) {cl : Nat → List AV → Heap → Res CO} (hcl : CallOk P cl) (c₀ : Frame) (cs : List Frame) : ∀ (c : Code) (Q : QS) (fm : Fm) (h : Heap) (m : DM) (ρ : Rho) (a : Act) (w : World), Rel ρ h w → ActRel ρ h.nx N fm [] a → m.sc ρ h.nx →
    (evD (Env.of P) go cl N c fm h m).All (PostD c₀ cs ρ h w N Q) → c.wpS P Q a ({ c₀ with mode := m.mode ρ } :: cs) w := by
  have other : ∀ (c : Code) (Q : QS) (fm : Fm) (h : Heap) (m : DM) (ρ : Rho) (a : Act) (w : World), Rel ρ h w → ActRel ρ h.nx N fm [] a → m.sc ρ h.nx →
      ((go c N fm [] h).bind fun o => .one (⟨o.e, o.f, o.d, o.h, m⟩ : OutD)).All (PostD c₀ cs ρ h w N Q) → c.wpS P Q a ({ c₀ with mode := m.mode ρ } :: cs) w := by
    intro c Q fm h m ρ a w hr hact hm hall
    refine wpS_of_wp (hgo c N fm [] h ρ a w _ hr hact ((Res.All.bind hall).mono fun o ho => ?_))
    intro ρ' w' a' q1 q2 q3 q4
    have := ho ρ' w' a' q1 q2 q3 q4 (DM.sc_ext q3.same q3.nx hm)
    simp only [DM.mode_same q3.same hm] at this
    exact this
  intro c
  induction c with
  | seq x y ihx ihy =>
    intro Q fm h m ρ a w hr hact hm hall
    refine wpS_seq (ihx _ fm h m ρ a w hr hact hm ((Res.All.bind hall).mono fun o ho => ?_))
    intro ρ' w' a' q1 q2 q3 q4 q5
    obtain ⟨e, f, d, h', m'⟩ := o
    cases e with
    | norm =>
      cases d with
      | nil => exact ihy Q f h' m' ρ' a' w' q1 q2 q5 (Res.All.mono ho fun x hx => PostD.ext hx q3)
      | cons _ _ => exact ho.elim
    | exit id => exact ho ρ' w' a' q1 q2 q3 q4 q5
    | ret => exact ho ρ' w' a' q1 q2 q3 q4 q5
    | pan v => exact ho ρ' w' a' q1 q2 q3 q4 q5
  | cond c x y ihx ihy =>
    intro Q fm h m ρ a w hr hact hm hall
    unfold evD at hall
    cases hc : ro fm c with
    | none => rw [hc] at hall; exact hall.elim
    | some v =>
      rw [hc] at hall
      obtain ⟨p1, p2⟩ := ro_ok hact.fm hc
      cases v with
      | bool b =>
        cases b with
        | true => exact wpS_cond p1 (ihx Q fm h m ρ a w hr hact hm hall)
        | false => exact wpS_cond p1 (ihy Q fm h m ρ a w hr hact hm hall)
      | _ => exact hall.elim
  | region id ops draw =>
    cases draw with
    | true => exact other _
    | false =>
      intro Q fm h m ρ a w hr hact hm hall
      apply wpS_region
      have := evOpsD_ok hg hcl ops c₀ cs Q ops.toList 0 fm h m ρ a w (by simp) hr hact hm hall
      rw [List.range_eq_range']
      simpa using this
  | _ => exact other _

end Go.Ev
/- The evaluator, part 18: calls, and the whole. -/
noncomputable section
namespace Go.Ev

variable {P : Program} {ρ : Rho} {h : Heap} {w : World} {N : Nat} {fm : Fm} {a : Act}

def resV (tmps : Array Value) : ResultVar → Sem Value
  | .tmp t => pure (tmps.getD t undef)
  | .cell a t => do loadVar t (← asAddr (tmps.getD a undef))
theorem res_list (hr : Rel ρ h w) {nx : Nat} {tmps : Array Value} (hf : FmRel ρ h.nx N fm tmps) : ∀ (l : List ResultVar) (vs : List AV), mapO (resA (Env.of P) fm h) l = some vs → (l.mapM (resV tmps)).run P w = .ok (vs.map (conc ρ)) w ∧ scL ρ h.nx vs
  | [], vs, hv => by injection hv with hv; subst hv; exact ⟨by simp, trivial⟩
  | x :: r, vs, hv => by
    unfold mapO at hv
    cases hx : resA (Env.of P) fm h x with
    | none => rw [hx] at hv; cases hv
    | some y =>
      rw [hx] at hv
      cases hr' : mapO (resA (Env.of P) fm h) r with
      | none => rw [hr'] at hv; cases hv
      | some ys =>
        rw [hr'] at hv
        injection hv with hv
        subst hv
        obtain ⟨p1, p2⟩ := res_list hr (nx := nx) hf r ys hr'
        have hy : (resV tmps x).run P w = .ok (conc ρ y) w ∧ sc ρ h.nx y := by
          cases x with
          | tmp t =>
            injection hx with hx
            subst hx
            exact ⟨by simp [resV, (hf.2 t).1], (hf.2 t).2⟩
          | cell b t =>
            simp only [resA] at hx
            have h1 := (hf.2 b).1
            generalize hsl : Fm.slot fm b = s at hx h1
            cases s with
            | ptr c o =>
              obtain ⟨q1, q2⟩ := loadA_run hr hx
              refine ⟨?_, q2⟩
              simp only [resV, h1, conc, asAddr]
              simpa using q1
            | _ => cases hx
        refine ⟨?_, hy.2, p2⟩
        simp [List.mapM_cons, hy.1, p1]
theorem results_ok (hr : Rel ρ h w) {fn : Func} {tmps : Array Value} (hf : FmRel ρ h.nx N fm tmps) {v : AV} (hv : resultsA (Env.of P) fn fm h = some v) : (results fn tmps).run P w = .ok (conc ρ v) w ∧ sc ρ h.nx v := by
  unfold resultsA at hv
  cases hm : mapO (resA (Env.of P) fm h) fn.results.toList with
  | none => rw [hm] at hv; cases hv
  | some l =>
    rw [hm] at hv
    obtain ⟨p1, p2⟩ := res_list hr (nx := 0) hf _ _ hm
    have hrun : (fn.results.mapM (resV tmps)).run P w = .ok (l.map (conc ρ)).toArray w := by
      rw [Array.mapM_eq_mapM_toList]
      simp [p1]
    have hdef : results fn tmps = (do let vs ← fn.results.mapM (resV tmps); pure (if h : vs.size = 1 then vs[0] else .tuple vs)) := rfl
    rw [hdef, Sem.run_bind, hrun, Result.andThen_ok]
    match l, hv, p2 with
    | [], hv, p2 => injection hv with hv; subst hv; exact ⟨by simp [conc, concL_map], p2⟩
    | [u], hv, p2 => injection hv with hv; subst hv; exact ⟨by simp, p2.1⟩
    | u :: u' :: r, hv, p2 => injection hv with hv; subst hv; exact ⟨by simp [conc, concL_map], p2⟩

theorem entry_ok (args : List AV) (hs : scL ρ h.nx args) (fn : Func) : ActRel ρ h.nx (slots fn args) (entry args) [] { tmps := (args.map (conc ρ)).toArray ++ Array.replicate (fn.ntmps - (args.map (conc ρ)).toArray.size) undef, defers := [] } := by
  refine ⟨⟨by simp [slots], fun t => ?_⟩, rfl, by simp⟩
  have hslot : Fm.slot (entry args) t = (args[t]?).getD (.tup []) := by
    unfold Fm.slot entry
    rw [Tr.get_ofList0]
    cases args[t]? <;> rfl
  rw [hslot, Array.getD_eq_getD_getElem?]
  by_cases ht : t < args.length
  · have e2 : args[t]? = some args[t] := List.getElem?_eq_getElem ht
    have e1 : ((args.map (conc ρ)).toArray)[t]? = some (conc ρ args[t]) := by rw [List.getElem?_toArray, List.getElem?_map, e2]; rfl
    rw [Array.getElem?_append_left (by simpa using ht), e1, e2]
    exact ⟨rfl, (scL_iff _ _ _).1 hs _ (List.getElem_mem ht)⟩
  · rw [Array.getElem?_append_right (by simpa using ht), List.getElem?_eq_none (by omega)]
    refine ⟨?_, trivial⟩
    rw [Array.getElem?_replicate]
    split <;> rfl

theorem invoke_run (hg : Good P) {d : Dfr} {dn : Func} {body : Code} (hf : P.funcs[d.f]? = some dn) (hb : dn.body = some body) :
    (invoke (concD ρ d).target (concD ρ d).args).run P w = .ok (.enter d.f ((d.args ++ d.cap).map (conc ρ)).toArray) w := by
  simp [concD, invoke, callFunc, hf, hb, hg.num d.f dn hf]

def modeOf (ρ : Rho) : Option AV → FrameMode
  | none => .returning
  | some v => .panicking [{ v := conc ρ v, recovered := false }]
def scO (ρ : Rho) (nx : Nat) : Option AV → Prop
  | none => True
  | some v => sc ρ nx v
theorem modeOf_dm (m : Option AV) : modeOf ρ m = (dmOf m).mode ρ := by cases m <;> rfl

theorem leave_ok (hg : Good P) {go : Go} (hgo : GoOk P go) {cl : Nat → List AV → Heap → Res CO} (hcl : CallOk P cl) (fn : Func) (R : Ending → World → Prop) (tmps : Array Value) (fm : Fm) : ∀ (ds : List Dfr) (m : Option AV) (h : Heap) (ρ : Rho) (w : World),
    Rel ρ h w → FmRel ρ h.nx N fm tmps → (∀ x ∈ ds, scL ρ h.nx x.args ∧ scL ρ h.nx x.cap) → scO ρ h.nx m → (leave (Env.of P) go cl fn fm ds m h).All (CPost ρ h w R) → Leaves P fn tmps R (ds.map (concD ρ)) (modeOf ρ m) w := by
  intro ds
  induction ds with
  | nil =>
    intro m h ρ w hr hf _ hm hall
    cases m with
    | none =>
      unfold leave at hall
      cases hv : resultsA (Env.of P) fn fm h with
      | none => rw [hv] at hall; exact hall.elim
      | some v =>
        rw [hv] at hall
        obtain ⟨p1, p2⟩ := results_ok hr hf hv
        exact ⟨_, p1, hall ρ w hr (Ext.refl _ _ _) p2⟩
    | some v => exact hall ρ w hr (Ext.refl _ _ _) hm
  | cons d ds ih =>
    intro m h ρ w hr hf hds hm hall
    unfold leave at hall
    cases hfn : (Env.of P).funcs.get d.f with
    | none => rw [hfn] at hall; exact hall.elim
    | some dn =>
      rw [hfn] at hall
      rw [funcs_get] at hfn
      simp only [] at hall
      cases hb : dn.body with
      | none => rw [hb] at hall; exact hall.elim
      | some body =>
        rw [hb] at hall
        have hsa : scL ρ h.nx (d.args ++ d.cap) := scL_append (hds d (by simp)).1 (hds d (by simp)).2
        have hdsc : (dmOf m).sc ρ h.nx := by cases m <;> exact hm
        refine ⟨by cases m <;> simp [modeOf], .func d.f, _, d.f, _, rfl, invoke_run hg hfn hb, ?_⟩
        refine callsD_of_wpS hfn hb fun c₀ cs hc₀ => ?_
        have hc : c₀ :: cs = { c₀ with mode := (dmOf m).mode ρ } :: cs := by
          rw [← modeOf_dm, ← hc₀]
        rw [hc]
        refine evD_ok hg hgo hcl c₀ cs body _ (entry (d.args ++ d.cap)) h (dmOf m) ρ _ w hr (entry_ok _ hsa dn) hdsc ((Res.All.bind hall).mono fun o ho => ?_)
        intro ρ' w' a' q1 q2 q3 q4 q5
        obtain ⟨e, f, dd, h', m'⟩ := o
        simp only [] at ho q1 q2 q3 q4 q5
        have key : ∀ (hd : dd = []) (u : AV), resultsA (Env.of P) dn f h' = some u → ((match m' with | .none => leave (Env.of P) go cl fn fm ds none h' | .rcd _ => leave (Env.of P) go cl fn fm ds none h' | .pan v => leave (Env.of P) go cl fn fm ds (some v) h') : Res CO).All (CPost ρ h w R) →
            a'.defers = [] ∧ ∃ u', ({ c₀ with mode := m'.mode ρ' } :: cs : List Frame) = { c₀ with mode := u' } :: cs ∧ ∃ v, (results dn a'.tmps).run P w' = .ok v w' ∧ Leaves P fn tmps R (ds.map (concD ρ)) (settle u') w' := by
          intro hd u hu hh
          subst hd
          obtain ⟨r1, r2⟩ := results_ok q1 q2.fm hu
          refine ⟨q2.df.1, _, rfl, _, r1, ?_⟩
          have hmap : ds.map (concD ρ) = ds.map (concD ρ') := by
            apply List.map_congr_left
            intro x hx
            have := hds x (by simp [hx])
            unfold concD
            rw [map_conc_same q3.same this.1, map_conc_same q3.same this.2]
          rw [hmap]
          have hds' : ∀ x ∈ ds, scL ρ' h'.nx x.args ∧ scL ρ' h'.nx x.cap := fun x hx => by
            have := hds x (by simp [hx])
            exact ⟨scL_ext q3.same q3.nx _ this.1, scL_ext q3.same q3.nx _ this.2⟩
          cases m' with
          | none => exact ih none h' ρ' w' q1 (hf.ext q3.same q3.nx) hds' trivial (Res.All.mono hh fun x hx => CPost.ext hx q3)
          | rcd v => exact ih none h' ρ' w' q1 (hf.ext q3.same q3.nx) hds' trivial (Res.All.mono hh fun x hx => CPost.ext hx q3)
          | pan v => exact ih (some v) h' ρ' w' q1 (hf.ext q3.same q3.nx) hds' q5 (Res.All.mono hh fun x hx => CPost.ext hx q3)
        cases e with
        | norm =>
          cases dd with
          | cons _ _ => exact ho.elim
          | nil =>
            cases hu : resultsA (Env.of P) dn f h' with
            | none => rw [hu] at ho; exact ho.elim
            | some u => rw [hu] at ho; exact key rfl u hu (by cases m' <;> exact ho)
        | ret =>
          cases dd with
          | cons _ _ => exact ho.elim
          | nil =>
            cases hu : resultsA (Env.of P) dn f h' with
            | none => rw [hu] at ho; exact ho.elim
            | some u => rw [hu] at ho; exact key rfl u hu (by cases m' <;> exact ho)
        | exit id => exact ho.elim
        | pan v => exact ho.elim

theorem callB_ok (hg : Good P) {go : Go} (hgo : GoOk P go) {cl : Nat → List AV → Heap → Res CO} (hcl : CallOk P cl) : CallOk P (callB (Env.of P) go cl) := by
  intro f args h ρ w R hr hs hall
  unfold callB at hall
  cases hfn : (Env.of P).funcs.get f with
  | none => rw [hfn] at hall; exact hall.elim
  | some fn =>
    rw [hfn] at hall
    rw [funcs_get] at hfn
    simp only [] at hall
    cases hb : fn.body with
    | none => rw [hb] at hall; exact hall.elim
    | some body =>
      rw [hb] at hall
      refine calls_of_wp_defers hfn hb (hgo body (slots fn args) (entry args) [] h ρ _ w _ hr (entry_ok args hs fn) ((Res.All.bind hall).mono fun o ho => ?_))
      intro ρ' w' a' q1 q2 q3 q4
      obtain ⟨e, f', d, h'⟩ := o
      have key : ∀ m, scO ρ' h'.nx m → (leave (Env.of P) go cl fn f' d m h').All (CPost ρ h w R) → Leaves P fn a'.tmps R a'.defers (modeOf ρ' m) w' := fun m hm hh => by
        rw [q2.df.1]
        exact leave_ok hg hgo hcl fn R a'.tmps f' d m h' ρ' w' q1 q2.fm q2.df.2 hm (hh.mono fun x hx => hx.ext q3)
      cases e with
      | norm => exact key none trivial ho
      | ret => exact key none trivial ho
      | pan v => exact key (some v) q4 ho
      | exit id => exact ho.elim

/-- The contracts that are known otherwise hold. -/
def HookOk (P : Program) (H : Hook) : Prop := ∀ (f : Nat), H.is f = true → ∀ (args : List AV) (h : Heap) (ρ : Rho) (w : World) (R : Ending → World → Prop),
  Rel ρ h w → scL ρ h.nx args → (H.k f args h).All (CPost ρ h w R) → Calls P f (args.map (conc ρ)).toArray w R

theorem cl2_ok (hg : Good P) {H : Hook} (hH : HookOk P H) {go : Go} (hgo : GoOk P go) : CallOk P (cl2 H (Env.of P) go) := by
  intro f args h ρ w R hr hs hall
  unfold cl2 at hall
  cases hi : H.is f with
  | true =>
    rw [hi] at hall
    exact hH f hi args h ρ w R hr hs hall
  | false =>
    rw [hi] at hall
    have h0 : CallOk P (fun _ _ _ => .fail) := fun _ _ _ _ _ _ _ _ hh => False.elim hh
    exact callB_ok hg hgo (callB_ok hg hgo h0) f args h ρ w R hr hs hall

end Go.Ev
/- The evaluator, part 19: the whole. -/
noncomputable section
namespace Go.Ev

variable {P : Program} {H : Hook}

theorem seq_ok {go : Go} (hgo : GoOk P go) {k : Fm → List Dfr → Heap → Res Out} {x : Code} {N : Nat} {fm : Fm} {d : List Dfr} {h : Heap} {ρ : Rho} {a : Act} {w : World} {Q : Exit → Act → World → Prop} {next : Act → World → Prop}
    (hr : Rel ρ h w) (hact : ActRel ρ h.nx N fm d a) (hall : ((go x N fm d h).bind (andThen k)).All (Post ρ h w N Q))
    (hn : ∀ fm' d' h' ρ' a' w', Rel ρ' h' w' → ActRel ρ' h'.nx N fm' d' a' → Ext ρ h w ρ' h' w' → (k fm' d' h').All (Post ρ' h' w' N Q) → next a' w') : x.wp P (Exit.then next Q) a w := by
  refine hgo x N fm d h ρ a w _ hr hact ((Res.All.bind hall).mono fun o ho => ?_)
  intro ρ' w' a' q1 q2 q3 q4
  obtain ⟨e, f, d', h'⟩ := o
  cases e with
  | norm => exact hn f d' h' ρ' a' w' q1 q2 q3 (Res.All.mono ho fun x hx => Post.ext hx q3)
  | exit id => exact ho ρ' w' a' q1 q2 q3 q4
  | ret => exact ho ρ' w' a' q1 q2 q3 q4
  | pan v => exact ho ρ' w' a' q1 q2 q3 q4

def LoopAt (P : Program) (H : Hook) (c : Code) (N : Nat) (Q : Exit → Act → World → Prop) (n : Nat) (a : Act) (w : World) : Prop :=
  ∃ fm d h ρ, Rel ρ h w ∧ ActRel ρ h.nx N fm d a ∧ (ev H (Env.of P) n (.loop c) N fm d h).All (Post ρ h w N Q)

theorem least (p : Nat → Prop) (hp : ∃ n, p n) : ∃ n, p n ∧ ∀ m, p m → n ≤ m := by
  obtain ⟨n, hn⟩ := hp
  induction n using Nat.strongRecOn with
  | _ n ih =>
    by_cases hh : ∃ m, m < n ∧ p m
    · obtain ⟨m, h1, h2⟩ := hh
      exact ih m h1 h2
    · exact ⟨n, hn, fun m hm => Nat.le_of_not_lt fun hlt => hh ⟨m, hlt, hm⟩⟩
def lst (p : Nat → Prop) : Nat := Classical.epsilon fun n => p n ∧ ∀ m, p m → n ≤ m
theorem lst_ok {p : Nat → Prop} (hp : ∃ n, p n) : p (lst p) ∧ ∀ m, p m → lst p ≤ m := Classical.epsilon_spec (least p hp)

theorem loop_ok {c : Code} {N : Nat} {Q : Exit → Act → World → Prop} {n : Nat} (ih : ∀ m, m < n → GoOk P (ev H (Env.of P) m)) {a : Act} {w : World} (hl : LoopAt P H c N Q n a w) : (Code.loop c).wp P Q a w := by
  refine wp_loop (fun a w => ∃ m, m ≤ n ∧ LoopAt P H c N Q m a w) (fun a w => lst fun m => m ≤ n ∧ LoopAt P H c N Q m a w) ⟨n, Nat.le_refl _, hl⟩ ?_
  intro a w hI
  obtain ⟨⟨hmn, fm, d, h, ρ, hr, hact, hall⟩, _⟩ := lst_ok hI
  generalize lst (fun m => m ≤ n ∧ LoopAt P H c N Q m a w) = m at hmn hall
  cases m with
  | zero => exact hall.elim
  | succ m =>
    refine seq_ok (ih m (by omega)) hr hact hall (fun fm' d' h' ρ' a' w' q1 q2 _ q4 => ?_)
    have hI' : ∃ m, m ≤ n ∧ LoopAt P H c N Q m a' w' := ⟨m, by omega, fm', d', h', ρ', q1, q2, q4⟩
    exact ⟨hI', Nat.lt_succ_of_le ((lst_ok hI').2 m ⟨by omega, fm', d', h', ρ', q1, q2, q4⟩)⟩

theorem ev_ok (hg : Good P) (hH : HookOk P H) : ∀ n, GoOk P (ev H (Env.of P) n) := by
  intro n
  induction n using Nat.strongRecOn with
  | _ n ih =>
    cases n with
    | zero => intro c N fm d h ρ a w Q _ _ hall; exact hall.elim
    | succ n =>
      have hgo := ih n (Nat.lt_succ_self n)
      intro c N fm d h ρ a w Q hr hact hall
      cases c with
      | skip => exact wp_skip (hall ρ w a hr hact (Ext.refl _ _ _) trivial)
      | region id ops draw =>
        cases draw with
        | false => exact wp_region_ok hg (cl2_ok hg hH hgo) hr hact hall
        | true => exact wp_draw_ok hg (cl2_ok hg hH hgo) hr hact hall
      | seq x y => exact wp_seq (seq_ok hgo hr hact hall (fun fm' d' h' ρ' a' w' q1 q2 _ q4 => hgo y N fm' d' h' ρ' a' w' Q q1 q2 q4))
      | cond c x y =>
        have hall' : (pickC (ro fm c) (ev H (Env.of P) n x N fm d h) (ev H (Env.of P) n y N fm d h)).All (Post ρ h w N Q) := hall
        cases hc : ro fm c with
        | none => rw [hc] at hall'; exact hall'.elim
        | some v =>
          rw [hc] at hall'
          obtain ⟨p1, _⟩ := ro_ok hact.fm hc
          cases v with
          | bool b =>
            cases b with
            | true => exact wp_cond_true p1 (hgo x N fm d h ρ a w Q hr hact hall')
            | false => exact wp_cond_false p1 (hgo y N fm d h ρ a w Q hr hact hall')
          | _ => exact hall'.elim
      | block id b =>
        refine wp_block (hgo b N fm d h ρ a w _ hr hact ((Res.All.bind hall).mono fun o ho => ?_))
        intro ρ' w' a' q1 q2 q3 q4
        obtain ⟨e, f, d', h'⟩ := o
        cases e with
        | norm => exact ho ρ' w' a' q1 q2 q3 q4
        | ret => exact ho ρ' w' a' q1 q2 q3 q4
        | pan v => exact ho ρ' w' a' q1 q2 q3 q4
        | exit i =>
          have ho' : (bif Nat.beq i id then Res.one (⟨.norm, f, d', h'⟩ : Out) else .one ⟨.exit i, f, d', h'⟩).All (Post ρ h w N Q) := ho
          show Exit.inBlock id Q (.exit i) a' w'
          cases hb : Nat.beq i id with
          | true =>
            rw [hb] at ho'
            have := beq_eq hb
            subst this
            have h1 : Q .normal a' w' := ho' ρ' w' a' q1 q2 q3 trivial
            simpa [Exit.inBlock] using h1
          | false =>
            rw [hb] at ho'
            have hne : i ≠ id := by rintro rfl; rw [Nat.beq_refl] at hb; cases hb
            have h1 : Q (.exit i) a' w' := ho' ρ' w' a' q1 q2 q3 trivial
            simpa [Exit.inBlock, hne] using h1
      | loop b => exact loop_ok (n := n + 1) (fun m hm => ih m hm) ⟨fm, d, h, ρ, hr, hact, hall⟩
      | exit id => exact wp_exit (hall ρ w a hr hact (Ext.refl _ _ _) trivial)
      | ret => exact wp_ret (hall ρ w a hr hact (Ext.refl _ _ _) trivial)
      | _ => exact hall.elim

/-- A closed run that the evaluator says is true. -/
def heap0 : Heap := ⟨.nil, 0⟩
theorem heap0_get (b : Nat) : heap0.m.get b = none := rfl
theorem rel0 (w : World) : Rel ⟨id, fun _ => 0, fun _ => 0⟩ heap0 w :=
  ⟨fun b x hb => (by rw [heap0_get] at hb; cases hb), fun b x hb => (by rw [heap0_get] at hb; cases hb), fun b b' x x' hb _ _ => (by rw [heap0_get] at hb; cases hb)⟩

theorem isTrue_all {R : CO → Prop} (hR : ∀ h, R (.ret (.bool true) h)) : ∀ {r : Res CO}, isTrue r = true → r.All R
  | .fail, hh => by cases hh
  | .one (.pan v h), hh => by cases hh
  | .one (.ret v h), hh => by
    cases v with
    | bool b =>
      have : b = true := hh
      subst this
      exact hR h
    | _ => cases hh
  | .br x y, hh => by
    simp only [isTrue, Bool.and_eq_true] at hh
    exact ⟨isTrue_all hR hh.1, isTrue_all hR hh.2⟩

theorem closed_true (hg : Good P) (hH : HookOk P H) (n f : Nat) (ht : isTrue (cl2 H (Env.of P) (ev H (Env.of P) n) f [] heap0) = true) (w : World) :
    Calls P f #[] w fun e w' => e = .returned (.bool true) ∧ RowKit.Below w.heap.size w w' := by
  have := cl2_ok hg hH (ev_ok hg hH n) f [] heap0 ⟨id, fun _ => 0, fun _ => 0⟩ w (fun e w' => e = .returned (.bool true) ∧ RowKit.Below w.heap.size w w') (rel0 w) trivial
    (isTrue_all (fun h ρ' w' q1 q2 _ => ⟨rfl, q2.below heap0_get⟩) ht)
  exact this

end Go.Ev
