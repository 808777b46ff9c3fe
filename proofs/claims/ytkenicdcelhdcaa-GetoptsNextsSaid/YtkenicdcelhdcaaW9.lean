/- getopts.All: what the call returns. -/
import Derived.Test.YtkenicdcelhdcaaW8
import Derived.Test.YtkenicdcelhdcaaM3
import Derived.Deep.LoopGhost
namespace Go.Proofs.Ytkenicdcelhdcaa
open Go.RowKit

theorem Try.info32 : (Try.prog.info? 32).map (fun i => (i.zero, i.size, i.bytes)) = some (some (.agg #[.string ⟨#[]⟩, .string ⟨#[]⟩, .int .i64 0, .string ⟨#[]⟩]), 4, 56) := by kernel_rfl

def optCells (l : List OptR) : List Value := l.flatMap fun x => [strV x.letter, strV x.arg, .int .i64 x.status, strV x.msg]

theorem optCells_len (l : List OptR) : (optCells l).length = l.length * 4 := by
  induction l with
  | nil => rfl
  | cons x r ih => simp [optCells] at ih ⊢; omega

def AllPost (w : World) (r : List OptR × Int × Int) (e : Ending) (w' : World) : Prop :=
  ∃ v, e = .returned (.tuple #[v, .int .i64 r.2.1, .int .i64 r.2.2]) ∧ w'.ownsRow w.heap.size 32 4 v r.1.length (optCells r.1) ∧ Below w.heap.size w w'

def ARel (spec : Bs) (args : List Bs) (w : World) (g : Nat) (lv : Value) (wr : World) : Prop :=
  ∃ (st : Int × Int) (acc : List OptR), g = mu args st ∧ inR args st.1 st.2 = true ∧ st.1 ≤ args.length + 1 ∧ wr.cell? ⟨w.heap.size, 0, none⟩ = some (.int .i64 st.1) ∧ wr.cell? ⟨w.heap.size, 1, none⟩ = some (.int .i64 st.2) ∧
    wr.frozen? ⟨w.heap.size, 0, none⟩ = false ∧ wr.frozen? ⟨w.heap.size, 1, none⟩ = false ∧ w.heap.size < wr.heap.size ∧ wr.ownsRow (w.heap.size + 1) 32 4 lv acc.length (optCells acc) ∧
    acc ++ (runS spec args st).1 = (runS spec args (1, 0)).1 ∧ (runS spec args st).2 = (runS spec args (1, 0)).2 ∧ acc.length + mu args st ≤ mu args (1, 0) ∧ Below w.heap.size w wr

theorem only_of_below {a w : World} (h : Below a.heap.size a w) (row : Option Nat) : a.grownBy w row := ⟨h.os, h.tape, h.output, h.size, fun i hi _ => h.block i hi⟩
theorem only_drewN {a w : World} {row : Option Nat} (h : a.grownBy w row) (n : Nat) : a.grownBy (w.drewN n) row := ⟨h.os, h.tape, h.output, h.size, h.block⟩
theorem only_alloc {a w : World} {row : Option Nat} (h : a.grownBy w row) (o : Obj) : a.grownBy (w.alloc o) row :=
  ⟨h.os, h.tape, h.output, by simp; have := h.size; omega, fun k hk hne => (Below.heap_alloc w o k (by have := h.size; omega)).trans (h.block k hk hne)⟩
theorem only_setCell {a w : World} {g : Nat} (h : a.grownBy w (some g)) (j : Nat) (u : Value) : a.grownBy (w.setCell ⟨g, j, none⟩ u) (some g) :=
  ⟨h.os, h.tape, h.output, by simpa [World.setCell] using h.size, fun k hk hne => (heap_setCell_other w ⟨g, j, none⟩ k u (fun e => hne (by simp [e]))).trans (h.block k hk hne)⟩

theorem owns_base {w : World} {b b' e size n : Nat} {v : Value} {xs : List Value} (h : w.ownsRow b e size v n xs) (hb : b' ≤ b) : w.ownsRow b' e size v n xs := by
  refine ⟨h.1, ?_⟩
  rcases h.2 with h2 | ⟨g, cap, cur, h1, h2, h3⟩
  · exact Or.inl h2
  · exact Or.inr ⟨g, cap, cur, h1, by omega, h3⟩

/-- A round of All writes the state's block and makes others: the list is kept. -/
theorem owns_round {wr w1 : World} {N e size n : Nat} {v : Value} {xs : List Value} (h : wr.ownsRow (N + 1) e size v n xs) (hb : Below wr.heap.size wr w1) (o1 o2 : Obj) (u0 u1 : Value) :
    ((((w1.setCell ⟨N, 0, none⟩ u0).setCell ⟨N, 1, none⟩ u1).alloc o1).alloc o2).ownsRow (N + 1) e size v n xs ∧ wr.grownBy ((((w1.setCell ⟨N, 0, none⟩ u0).setCell ⟨N, 1, none⟩ u1).alloc o1).alloc o2) (some N) := by
  have hg := only_alloc (only_alloc (only_setCell (only_setCell (only_of_below hb (some N)) 0 u0) 1 u1) o1) o2
  refine ⟨h.kept hg ?_, hg⟩
  cases hv : v.ownBlock with
  | none => exact Or.inl rfl
  | some g =>
    right
    have := (h.lt g hv).1
    intro e
    injection e with e
    omega

theorem below_round {wr w1 : World} {N : Nat} {w : World} (h : Below N w wr) (hb : Below wr.heap.size wr w1) (o1 o2 : Obj) (u0 u1 : Value) (hN : N ≤ wr.heap.size) :
    Below N w ((((w1.setCell ⟨N, 0, none⟩ u0).setCell ⟨N, 1, none⟩ u1).alloc o1).alloc o2) := by
  have h1 := h.trans (hb.mono hN)
  have h2 := (h1.setCell (p := ⟨N, 0, none⟩) (Nat.le_refl _) u0).setCell (p := ⟨N, 1, none⟩) (Nat.le_refl _) u1
  exact below_two h2 (by simp [World.setCell]; have := hb.size; omega) o1 o2

theorem keep2 {N : Nat} {wr w1 : World} {u0 u1 : Value} (hN : N < wr.heap.size) (hb : Below wr.heap.size wr w1) (c0 : wr.cell? ⟨N, 0, none⟩ = some u0) (c1 : wr.cell? ⟨N, 1, none⟩ = some u1)
    (f0 : wr.frozen? ⟨N, 0, none⟩ = false) (f1 : wr.frozen? ⟨N, 1, none⟩ = false) :
    w1.cell? ⟨N, 0, none⟩ = some u0 ∧ w1.cell? ⟨N, 1, none⟩ = some u1 ∧ w1.frozen? ⟨N, 0, none⟩ = false ∧ w1.frozen? ⟨N, 1, none⟩ = false ∧ N < w1.heap.size := by
  have hs := hb.size
  exact ⟨(hb.cell (p := ⟨N, 0, none⟩) hN).trans c0, (hb.cell (p := ⟨N, 1, none⟩) hN).trans c1, (hb.frozen (p := ⟨N, 0, none⟩) hN).trans f0, (hb.frozen (p := ⟨N, 1, none⟩) hN).trans f1, by omega⟩

theorem nextS_bound {spec : Bs} {args : List Bs} {ix off : Int} (hv : validS spec = 0) (hin : inR args ix off = true) : 1 ≤ (nextS spec args ix off).2.1.1 ∧ (nextS spec args ix off).2.1.1 ≤ ix + 2 := by
  obtain ⟨i1, i2, i3⟩ := inR_iff.1 hin
  rcases nextS_ways hv hin with ⟨h, _⟩ | ⟨h, _⟩ | ⟨at_, h, h1, h2, h3, h4, _⟩
  · rw [h]; simp only []; omega
  · rw [h]; simp only []; omega
  · rw [h]; simp only []
    rcases stepS_cases spec args (wordOf args ix) ix at_ with ⟨e, hne⟩ | e | ⟨e, hlt⟩ <;> rw [e] <;> simp only [] <;> omega

theorem all_done {w w' : World} {spec : Bs} {args : List Bs} {ix off a b : Int} {acc : List OptR} {v : Value} (hall : allS spec args = ((runS spec args (1, 0)).1, (runS spec args (1, 0)).2.1 - 1, 0))
    (hrun : acc ++ (runS spec args (ix, off)).1 = (runS spec args (1, 0)).1 ∧ (runS spec args (ix, off)).2 = (runS spec args (1, 0)).2) (hend : runS spec args (ix, off) = ([], (a, b)))
    (hown : w'.ownsRow (w.heap.size + 1) 32 4 v acc.length (optCells acc)) (hb : Below w.heap.size w w') :
    AllPost w (allS spec args) (.returned (.tuple #[v, .int .i64 (a - 1), .int .i64 0])) w' := by
  rw [hend] at hrun
  simp only [List.append_nil] at hrun
  rw [hall, ← hrun.1, ← hrun.2]
  exact ⟨v, rfl, owns_base hown (by omega), hb⟩

theorem optCells_snoc (acc : List OptR) (L G M : ByteArray) (st : Int) : optCells (acc ++ [⟨L.data.toList, G.data.toList, st, M.data.toList⟩]) = optCells acc ++ [.string L, .string G, .int .i64 st, .string M] := by
  simp [optCells, strV]

theorem st_cells {w1 : World} {N : Nat} {u0 u1 a b : Value} (hN : N < w1.heap.size) (k0 : w1.cell? ⟨N, 0, none⟩ = some u0) (k1 : w1.cell? ⟨N, 1, none⟩ = some u1) (k2 : w1.frozen? ⟨N, 0, none⟩ = false) (k3 : w1.frozen? ⟨N, 1, none⟩ = false) (o1 o2 o3 : Obj) :
    (((((w1.setCell ⟨N, 0, none⟩ a).setCell ⟨N, 1, none⟩ b).alloc o1).alloc o2).alloc o3).cell? ⟨N, 0, none⟩ = some a ∧ (((((w1.setCell ⟨N, 0, none⟩ a).setCell ⟨N, 1, none⟩ b).alloc o1).alloc o2).alloc o3).cell? ⟨N, 1, none⟩ = some b ∧
    (((((w1.setCell ⟨N, 0, none⟩ a).setCell ⟨N, 1, none⟩ b).alloc o1).alloc o2).alloc o3).frozen? ⟨N, 0, none⟩ = false ∧ (((((w1.setCell ⟨N, 0, none⟩ a).setCell ⟨N, 1, none⟩ b).alloc o1).alloc o2).alloc o3).frozen? ⟨N, 1, none⟩ = false := by
  have e01 : (⟨N, 1, none⟩ : Addr) ≠ ⟨N, 0, none⟩ := by intro h; injection h with _ h _; omega
  have e10 : (⟨N, 0, none⟩ : Addr) ≠ ⟨N, 1, none⟩ := fun h => e01 h.symm
  have c1' : (w1.setCell ⟨N, 0, none⟩ a).cell? ⟨N, 1, none⟩ = some u1 := (World.cell?_setCell_other _ _ _ _ e10).trans k1
  have d0 : ((w1.setCell ⟨N, 0, none⟩ a).setCell ⟨N, 1, none⟩ b).cell? ⟨N, 0, none⟩ = some a := (World.cell?_setCell_other _ _ _ _ e01).trans (World.cell?_setCell_same _ _ _ k0)
  have d1 : ((w1.setCell ⟨N, 0, none⟩ a).setCell ⟨N, 1, none⟩ b).cell? ⟨N, 1, none⟩ = some b := World.cell?_setCell_same _ _ _ c1'
  have hsz : N < ((w1.setCell ⟨N, 0, none⟩ a).setCell ⟨N, 1, none⟩ b).heap.size := by simpa [World.setCell] using hN
  have hf0 : ((w1.setCell ⟨N, 0, none⟩ a).setCell ⟨N, 1, none⟩ b).frozen? ⟨N, 0, none⟩ = false := by rw [World.frozen?_setCell, World.frozen?_setCell]; exact k2
  have hf1 : ((w1.setCell ⟨N, 0, none⟩ a).setCell ⟨N, 1, none⟩ b).frozen? ⟨N, 1, none⟩ = false := by rw [World.frozen?_setCell, World.frozen?_setCell]; exact k3
  generalize (w1.setCell ⟨N, 0, none⟩ a).setCell ⟨N, 1, none⟩ b = W at *
  have h2 := below_two (Below.refl W.heap.size W) (Nat.le_refl _) o1 o2
  have h3 := h2.alloc h2.size o3
  exact ⟨(h3.cell (p := ⟨N, 0, none⟩) hsz).trans d0, (h3.cell (p := ⟨N, 1, none⟩) hsz).trans d1, (h3.frozen (p := ⟨N, 0, none⟩) hsz).trans hf0, (h3.frozen (p := ⟨N, 1, none⟩) hsz).trans hf1⟩

theorem arel_next {spec : Bs} {args : List Bs} {w wr w1 w2 : World} {ix off a b st : Int} {acc : List OptR} {v v' : Value} {L G M : ByteArray} {o1 o2 o3 : Obj} (hv : validS spec = 0)
    (hin : inR args ix off = true) (hr : nextS spec args ix off = (⟨L.data.toList, G.data.toList, st, M.data.toList⟩, (a, b), 0)) (hst : st ≠ 1)
    (hrun : acc ++ (runS spec args (ix, off)).1 = (runS spec args (1, 0)).1 ∧ (runS spec args (ix, off)).2 = (runS spec args (1, 0)).2) (hacc : acc.length + mu args (ix, off) ≤ mu args (1, 0))
    (hN : w.heap.size < wr.heap.size) (c0 : wr.cell? ⟨w.heap.size, 0, none⟩ = some (.int .i64 ix)) (c1 : wr.cell? ⟨w.heap.size, 1, none⟩ = some (.int .i64 off))
    (f0 : wr.frozen? ⟨w.heap.size, 0, none⟩ = false) (f1 : wr.frozen? ⟨w.heap.size, 1, none⟩ = false)
    (hown : wr.ownsRow (w.heap.size + 1) 32 4 v acc.length (optCells acc)) (hbel : Below w.heap.size w wr) (hb : Below wr.heap.size wr w1)
    (hown2 : w2.ownsRow (w.heap.size + 1) 32 4 v' (acc.length + 1) (optCells acc ++ [.string L, .string G, .int .i64 st, .string M]))
    (hg : (((((w1.setCell ⟨w.heap.size, 0, none⟩ (.int .i64 a)).setCell ⟨w.heap.size, 1, none⟩ (.int .i64 b)).alloc o1).alloc o2).alloc o3).grownBy w2 v.ownBlock) :
    ARel spec args w (mu args (a, b)) v' w2 ∧ mu args (a, b) < mu args (ix, off) := by
  have hs : (nextS spec args ix off).1.status ≠ 1 := by rw [hr]; exact hst
  have hadv := nextS_adv hv hin hs
  have hstep := runS_step (st := (ix, off)) hv hin hs
  rw [hr] at hadv
  simp only [hr] at hstep
  simp only [] at hadv
  obtain ⟨a1, a2, _, a4⟩ := hadv
  obtain ⟨hk1, hk2⟩ := owns_round hown hb o1 o2 (.int .i64 a) (.int .i64 b)
  have hlt := hb.size
  have hfar : ∀ j, w2.cell? ⟨w.heap.size, j, none⟩ = (((((w1.setCell ⟨w.heap.size, 0, none⟩ (.int .i64 a)).setCell ⟨w.heap.size, 1, none⟩ (.int .i64 b)).alloc o1).alloc o2).alloc o3).cell? ⟨w.heap.size, j, none⟩ := by
    intro j
    refine World.cell?_of_block (hg.block w.heap.size (by simp [World.setCell]; omega) ?_)
    intro e
    have := (hown.lt w.heap.size e.symm).1
    omega
  have hfarf : ∀ j, w2.frozen? ⟨w.heap.size, j, none⟩ = (((((w1.setCell ⟨w.heap.size, 0, none⟩ (.int .i64 a)).setCell ⟨w.heap.size, 1, none⟩ (.int .i64 b)).alloc o1).alloc o2).alloc o3).frozen? ⟨w.heap.size, j, none⟩ := by
    intro j
    have hh := hg.block w.heap.size (by simp [World.setCell]; omega) (by
      intro e
      have := (hown.lt w.heap.size e.symm).1
      omega)
    simp only [World.frozen?, hh]
  obtain ⟨k0, k1, k2, k3, k4⟩ := keep2 hN hb c0 c1 f0 f1
  have hsc := st_cells (a := .int .i64 a) (b := .int .i64 b) k4 k0 k1 k2 k3 o1 o2 o3
  refine ⟨⟨(a, b), acc ++ [⟨L.data.toList, G.data.toList, st, M.data.toList⟩], rfl, a1, a4, ?_, ?_, ?_, ?_, ?_, ?_, ?_, ?_, ?_, ?_⟩, a2⟩
  · rw [hfar]; exact hsc.1
  · rw [hfar]; exact hsc.2.1
  · rw [hfarf]; exact hsc.2.2.1
  · rw [hfarf]; exact hsc.2.2.2
  · have := hg.size; simp [World.setCell] at this; omega
  · rw [optCells_snoc]; simpa using hown2
  · rw [← hrun.1, hstep]; simp
  · rw [← hrun.2, hstep]
  · simp; omega
  · have hb3 := below_round hbel hb o1 o2 (.int .i64 a) (.int .i64 b) (by omega)
    have hb4 := hb3.alloc (by simp [World.setCell]; omega) o3
    exact hb4.grown hg (by simp [World.setCell]; omega) (fun g hg' => by have := (hown.lt g hg').1; omega)

theorem four_new {W : World} {k : Nat} (hk : W.heap.size = k) (x0 x1 x2 x3 : Value) (t : TypeId) : ∀ j u, [x0, x1, x2, x3][j]? = some u → (W.alloc (.cells #[x0, x1, x2, x3] t)).cell? ((⟨k, 0, none⟩ : Addr).add j) = some u := by
  intro j u h
  subst hk
  have e := heap_alloc_new W (.cells #[x0, x1, x2, x3] t)
  have hj : j < 4 := by
    rcases Nat.lt_or_ge j 4 with h' | h'
    · exact h'
    · rw [List.getElem?_eq_none (by simpa using h')] at h; cases h
  have : (⟨W.heap.size, 0, none⟩ : Addr).add j = ⟨W.heap.size, j, none⟩ := by
    unfold Addr.add
    by_cases h0 : j = 0
    · simp [h0]
    · simp [h0]
  rw [this]
  unfold World.cell?
  simp only [e]
  simpa using h

theorem opt_bytes (x : OptR) : ∃ L G M : ByteArray, x = ⟨L.data.toList, G.data.toList, x.status, M.data.toList⟩ :=
  ⟨⟨x.letter.toArray⟩, ⟨x.arg.toArray⟩, ⟨x.msg.toArray⟩, by cases x; rfl⟩

set_option maxRecDepth 100000 in
set_option maxHeartbeats 1000000 in
theorem all_valid (spec : ByteArray) (ss : List ByteArray) (A : Option Addr) (n cap : Nat) (w : World) (hA : Strs w w.heap.size A n ss) (hn : n ≤ 100) (hz : ∀ s ∈ ss, s.size ≤ 1000) (hs : spec.size ≤ 100)
    (hv : validS spec.data.toList = 0) (hmu : mu (bytesOf' ss) (1, 0) ≤ 200000) :
    Calls Try.prog 15 #[.string spec, .slice A n cap] w (AllPost w (allS spec.data.toList (bytesOf' ss))) := by
  obtain ⟨i0, hi, hz0, hz1, hz2⟩ := info_parts Try.info32
  have hall := Lib.hid (allS_eq (args := bytesOf' ss) hv)
  have hal : (bytesOf' ss).length ≤ 100 := by rw [bytes_len, ← hA.1]; exact hn
  have hN := Lib.hid (fun W (hW : Below w.heap.size w W) (ix off : Int) (L G M : ByteArray) (st x y e : Int) (hr : nextS spec.data.toList (bytesOf' ss) ix off = (⟨L.data.toList, G.data.toList, st, M.data.toList⟩, (x, y), e)) => next_any2 spec ss A n cap ix off W ((hA.below hW).more hW.size) hn hz hs hr)
  clear hA hz
  generalize bytesOf' ss = args at *
  go_enter Try.func15, Try.ntmps15
  go_wp2
  go_loopg [7] (mu args (1, 0)) (fun g lv wr => ARel spec.data.toList args w g lv wr)
  case atStart => 
    refine ⟨(1, 0), [], rfl, inR_start _, by simp only []; omega, ?_, ?_, ?_, ?_, ?_, World.ownsRow_nil _ _ _ _, rfl, rfl, by simp, (Below.refl _ _).alloc (Nat.le_refl _) _⟩ <;> simp [go_sem]
  case round =>
    obtain ⟨st, acc, rfl, hin, hst, c0, c1, f0, f1, hsz, hown, hrun1, hrun2, hacc, hbel⟩ := hrel
    obtain ⟨ix, off⟩ := st
    simp only [] at hin hst c0 c1
    have Hrun := Lib.hid (And.intro hrun1 hrun2)
    have Hown := Lib.hid hown
    have Hbel := Lib.hid hbel
    have Hin := Lib.hid hin
    clear hrun1 hrun2 hown hbel hin
    have herr := nextS_err hv Hin.out
    by_cases hst1 : (nextS spec.data.toList args ix off).1.status = 1
    · have hend := Lib.hid (runS_end (spec := spec.data.toList) (args := args) (st := (ix, off)) hst1)
      generalize hr : nextS spec.data.toList args ix off = r at *
      obtain ⟨x, ⟨a, b⟩, e⟩ := r
      obtain ⟨L, G, M, hx⟩ := opt_bytes x
      simp only [] at herr hst1 hend
      subst herr
      rw [hst1] at hx
      have hNx := Lib.hid (hN.out wr Hbel.out ix off L G M 1 a b 0 (by rw [hr, hx]))
      have hab := nextS_bound hv Hin.out
      rw [hr] at hab
      simp only [] at hab
      have ha1 := hab.1
      have ha2 := hab.2
      clear hr hst1 hx hab
      have q1 : IntKind.i64.wrap (a - 1) = a - 1 := IntWalk.i64_in _ (by omega)
      go_wp2_with (go_at_call 13; refine (hNx.out).mono ?_; rintro e' w1 ⟨rfl, hb1⟩; have Hb1 := Lib.hid hb1; have HK := Lib.hid (keep2 hsz hb1 c0 c1 f0 f1); clear hb1 c0 c1 f0 f1; obtain ⟨c0, c1, f0, f1, hsz1⟩ := HK.out)
      go_quiet (fail)
      go_wp2
      go_ret3
      exact all_done hall.out Hrun.out hend.out (owns_round Hown.out Hb1.out _ _ _ _).1 (below_drewN (below_round Hbel.out Hb1.out _ _ _ _ (by omega)) _)
    · generalize hr : nextS spec.data.toList args ix off = r at *
      obtain ⟨x, ⟨a, b⟩, e⟩ := r
      obtain ⟨L, G, M, hx⟩ := opt_bytes x
      simp only [] at herr hst1
      subst herr
      generalize x.status = sv at *
      subst hx
      have hNx := Lib.hid (hN.out wr Hbel.out ix off L G M sv a b 0 hr)
      have HC := Lib.hid (And.intro c0 (And.intro c1 (And.intro f0 f1)))
      have Hr := Lib.hid hr
      have Hst := Lib.hid hst1
      have hsv : (sv == 1) = false := by simpa using hst1
      clear hr hst1
      go_wp2_with (first | (go_at_call 13; refine (hNx.out).mono ?_; rintro e' w1 ⟨rfl, hb1⟩; have Hb1 := Lib.hid hb1; have HK := Lib.hid (keep2 hsz hb1 c0 c1 f0 f1); clear hb1 c0 c1 f0 f1; obtain ⟨c0, c1, f0, f1, hsz1⟩ := HK.out) | (at_builtin; refine wpList_append_own _ rfl _ _ 38 rfl (w.heap.size + 1) 32 i0 _ 4 56 Try.underlying38 hi hz0 hz1 hz2 rfl (by decide) u7 _ _ rfl ((owns_round Hown.out Hb1.out _ _ _ _).1.alloc _) ⟨w1.heap.size + 1 + 1, 0, none⟩ 1 1 [.string L, .string G, .int .i64 sv, .string M] rfl rfl (four_new (by simp [World.setCell]) _ _ _ _ _) (by simp [Value.oneCell']) (by unfold maxLen; omega) (by omega) (by simp [World.setCell]; omega) ?_; intro v' w2 hown' hg _))
      obtain ⟨r1, r2⟩ := arel_next hv Hin.out Hr.out Hst.out Hrun.out hacc hsz HC.out.1 HC.out.2.1 HC.out.2.2.1 HC.out.2.2.2 Hown.out Hbel.out Hb1.out hown' hg
      have R1 := Lib.hid r1
      have R2 := Lib.hid r2
      clear r1 r2 hown' hg
      go_roundg (mu args (a, b))
      case measure => exact R2.out
      case rel => exact R1.out

set_option maxRecDepth 100000 in
set_option maxHeartbeats 1000000 in
theorem all_invalid (spec : ByteArray) (ss : List ByteArray) (A : Option Addr) (n cap : Nat) (w : World) (hA : Strs w w.heap.size A n ss) (hn : n ≤ 100) (hz : ∀ s ∈ ss, s.size ≤ 1000) (hs : spec.size ≤ 100)
    (hv : validS spec.data.toList ≠ 0) :
    Calls Try.prog 15 #[.string spec, .slice A n cap] w (AllPost w (allS spec.data.toList (bytesOf' ss))) := by
  have hall := Lib.hid (show allS spec.data.toList (bytesOf' ss) = ([], 0, validS spec.data.toList) by rw [allS, if_pos hv])
  have hN := Lib.hid (fun W (hW : Below w.heap.size w W) => next_any2 spec ss A n cap 1 0 W ((hA.below hW).more hW.size) hn hz hs (L := ⟨#[]⟩) (G := ⟨#[]⟩) (M := ⟨#[]⟩) (st := 0) (x := 0) (y := 0) (e := validS spec.data.toList) (by rw [nextS, if_pos hv]; rfl))
  have hvb : (validS spec.data.toList != 0) = true := by simpa using hv
  clear hA hz hv
  generalize validS spec.data.toList = ev at *
  go_enter Try.func15, Try.ntmps15
  go_wp2
  go_loopg [7] 0 (fun _ _ wr => wr.cell? ⟨w.heap.size, 0, none⟩ = some (.int .i64 1) ∧ wr.cell? ⟨w.heap.size, 1, none⟩ = some (.int .i64 0) ∧ w.heap.size < wr.heap.size ∧ Hid (Below w.heap.size w wr))
  case atStart =>
    refine ⟨?_, ?_, ?_, (Below.refl _ _).alloc (Nat.le_refl _) _⟩ <;> simp [go_sem]
  case round =>
    obtain ⟨c0, c1, hsz, Hbel⟩ := hrel
    go_wp2_with (go_at_call 13; refine (hN.out _ Hbel.out).mono ?_; rintro e' w1 ⟨rfl, hb1⟩; have Hb1 := Lib.hid hb1; have hsz1 := hb1.size; clear hb1)
    go_ret3
    rw [hall.out]
    exact ⟨_, rfl, World.ownsRow_nil _ _ _ _, below_two (Hbel.out.trans (Hb1.out.mono (by omega))) (by omega) _ _⟩

theorem all_any (spec : ByteArray) (ss : List ByteArray) (A : Option Addr) (n cap : Nat) (w : World) (hA : Strs w w.heap.size A n ss) (hn : n ≤ 100) (hz : ∀ s ∈ ss, s.size ≤ 1000) (hs : spec.size ≤ 100)
    (hmu : mu (bytesOf' ss) (1, 0) ≤ 200000) : Calls Try.prog 15 #[.string spec, .slice A n cap] w (AllPost w (allS spec.data.toList (bytesOf' ss))) := by
  by_cases hv : validS spec.data.toList = 0
  · exact all_valid spec ss A n cap w hA hn hz hs hv hmu
  · exact all_invalid spec ss A n cap w hA hn hz hs hv

end Go.Proofs.Ytkenicdcelhdcaa
