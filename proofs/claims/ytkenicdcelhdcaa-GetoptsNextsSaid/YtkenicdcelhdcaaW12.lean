/- GetoptsSteps: the walk of the law. -/
import Derived.Test.YtkenicdcelhdcaaW11
import Derived.Test.YtkenicdcelhdcaaM4
namespace Go.Proofs.Ytkenicdcelhdcaa
open Go.RowKit

theorem owns_form {w : World} {B n : Nat} {v : Value} {xs : List Value} (h : w.ownsRow B 32 4 v n xs) :
    ∃ V cap, v = .slice V n cap ∧ (0 < n → ∃ g, V = some ⟨g, 0, none⟩ ∧ g < w.heap.size ∧ B ≤ g ∧ ∀ j, j < n * 4 → w.cell? ⟨g, j, none⟩ = xs[j]?) := by
  rcases h.2 with ⟨hv, h0⟩ | ⟨g, cap, cur, hv, _⟩
  · exact ⟨none, 0, by rw [hv, h0], fun h => by omega⟩
  · subst hv
    exact ⟨_, cap, rfl, fun _ => ⟨g, rfl, (h.lt g rfl).2, (h.lt g rfl).1, fun j hj => h.cellAt j hj⟩⟩

theorem optCells_at (L : List OptR) : ∀ (k : Nat) (hk : k < L.length), (optCells L)[k * 4]? = some (strV L[k].letter) ∧ (optCells L)[k * 4 + 1]? = some (strV L[k].arg) ∧ (optCells L)[k * 4 + 2]? = some (.int .i64 L[k].status) ∧ (optCells L)[k * 4 + 3]? = some (strV L[k].msg) := by
  induction L with
  | nil => intro k hk; simp at hk
  | cons x r ih =>
    intro k hk
    have e : optCells (x :: r) = [strV x.letter, strV x.arg, .int .i64 x.status, strV x.msg] ++ optCells r := by simp [optCells]
    cases k with
    | zero => rw [e]; simp
    | succ k =>
      have := ih k (by simpa using hk)
      have e4 : ∀ j, (optCells (x :: r))[(k + 1) * 4 + j]? = (optCells r)[k * 4 + j]? := by
        intro j
        rw [e, List.getElem?_append_right (by simp; omega)]
        congr 1
        simp
        omega
      have e0 := e4 0
      simp only [Nat.add_zero] at e0
      rw [e0, e4, e4, e4]
      simpa using this

def SRel (spec : Bs) (args : List Bs) (w1 : World) (L : List OptR) (E : Int × Int) (i : Value) (wr : World) : Prop :=
  ∃ (k : Nat) (st : Int × Int), k ≤ L.length ∧ i = .int .i64 k ∧ inR args st.1 st.2 = true ∧ st.1 ≤ args.length + 1 ∧ runS spec args st = (L.drop k, E) ∧
    wr.cell? ⟨w1.heap.size, 0, none⟩ = some (.int .i64 st.1) ∧ wr.cell? ⟨w1.heap.size, 1, none⟩ = some (.int .i64 st.2) ∧
    wr.frozen? ⟨w1.heap.size, 0, none⟩ = false ∧ wr.frozen? ⟨w1.heap.size, 1, none⟩ = false ∧ w1.heap.size < wr.heap.size ∧ Below w1.heap.size w1 wr

theorem srel_next {spec : Bs} {args : List Bs} {w1 w2 : World} {L : List OptR} {E : Int × Int} {k nq : Nat} {a b ix off : Int} {o1 o2 : Obj} (hk : k < L.length) (hadv : inR args a b = true ∧ a ≤ args.length + 1 ∧ runS spec args (a, b) = (L.drop (k + 1), E))
    (hK : w2.cell? ⟨w1.heap.size, 0, none⟩ = some (.int .i64 ix) ∧ w2.cell? ⟨w1.heap.size, 1, none⟩ = some (.int .i64 off) ∧ w2.frozen? ⟨w1.heap.size, 0, none⟩ = false ∧ w2.frozen? ⟨w1.heap.size, 1, none⟩ = false ∧ w1.heap.size < w2.heap.size)
    (hB : Below w1.heap.size w1 w2) :
    SRel spec args w1 L E (.int .i64 ((k : Int) + 1)) (((((w2.alloc o1).alloc o2).drewN nq).setCell ⟨w1.heap.size, 0, none⟩ (.int .i64 a)).setCell ⟨w1.heap.size, 1, none⟩ (.int .i64 b)) ∧
      L.length - (intOf (.int .i64 ((k : Int) + 1))).toNat < L.length - (intOf (.int .i64 (k : Int))).toNat := by
  obtain ⟨c0, c1, f0, f1, hsz⟩ := hK
  refine ⟨⟨k + 1, (a, b), hk, by go_num, hadv.1, hadv.2.1, hadv.2.2, ?_⟩, by simp [intOf]; omega⟩
  have hB2 := below_drewN (below_two (Below.refl w2.heap.size w2) (Nat.le_refl _) o1 o2) nq
  have d0 := (hB2.cell (p := ⟨w1.heap.size, 0, none⟩) hsz).trans c0
  have d1 := (hB2.cell (p := ⟨w1.heap.size, 1, none⟩) hsz).trans c1
  have g0 := (hB2.frozen (p := ⟨w1.heap.size, 0, none⟩) hsz).trans f0
  have g1 := (hB2.frozen (p := ⟨w1.heap.size, 1, none⟩) hsz).trans f1
  have hz := hB2.size
  have hB3 := hB.trans (hB2.mono (Nat.le_of_lt hsz))
  generalize (((w2.alloc o1).alloc o2).drewN nq) = W at *
  have e01 : (⟨w1.heap.size, 1, none⟩ : Addr) ≠ ⟨w1.heap.size, 0, none⟩ := by intro h; injection h with _ h _; omega
  have c1' : (W.setCell ⟨w1.heap.size, 0, none⟩ (.int .i64 a)).cell? ⟨w1.heap.size, 1, none⟩ = some (.int .i64 off) := (World.cell?_setCell_other _ _ _ _ (fun h => e01 h.symm)).trans d1
  refine ⟨(World.cell?_setCell_other _ _ _ _ e01).trans (World.cell?_setCell_same _ _ _ d0), World.cell?_setCell_same _ _ _ c1', ?_, ?_, ?_, ?_⟩
  · rw [World.frozen?_setCell, World.frozen?_setCell]; exact g0
  · rw [World.frozen?_setCell, World.frozen?_setCell]; exact g1
  · simp [World.setCell]; omega
  · exact (hB3.setCell (p := ⟨w1.heap.size, 0, none⟩) (Nat.le_refl _) _).setCell (p := ⟨w1.heap.size, 1, none⟩) (Nat.le_refl _) _

set_option maxRecDepth 100000 in
set_option maxHeartbeats 2000000 in
theorem law_steps_valid (spec : ByteArray) (ss : List ByteArray) (A : Option Addr) (n cap : Nat) (w : World) (hA : Strs w w.heap.size A n ss) (hs : spec.size ≤ 40) (hsh : shB ss = true) (hv : validS spec.data.toList = 0) :
    Calls Try.prog 6 #[.string spec, .slice A n cap] w fun e w' => e = .returned (.bool true) ∧ Below w.heap.size w w' := by
  have hsh' := shB_true hsh
  have hn : n ≤ 12 := by rw [hA.1]; exact hsh'.1
  have hz : ∀ s ∈ ss, s.size ≤ 40 := hsh'.2
  have hz1 : ∀ s ∈ ss, s.size ≤ 1000 := fun s h => by have := hz s h; omega
  have hmu : mu (bytesOf' ss) (1, 0) ≤ 492 := by
    have h1 := weight_le (bytesOf' ss) 40 (by
      intro a ha
      simp only [bytesOf', List.mem_map] at ha
      obtain ⟨s, hs, rfl⟩ := ha
      rw [← Lib.size_eq]; exact hz s hs)
    rw [bytes_len, ← hA.1] at h1
    have h2 : mu (bytesOf' ss) (1, 0) = weight (bytesOf' ss) := by simp [mu]
    have h3 : n * (40 + 1) ≤ 12 * 41 := Nat.mul_le_mul hn (Nat.le_refl _)
    omega
  have hS := Lib.hid (small_any spec ss A n cap w hA (by unfold maxLen; omega) (fun s h => by have := hz s h; unfold maxLen; omega) (by unfold maxLen; omega))
  rw [show smB spec ss = true by simp [smB, hs, hsh]] at hS
  have hAll := Lib.hid (all_any spec ss A n cap w hA (by omega) hz1 (by omega) (by omega))
  have hlen := runS_len (args := bytesOf' ss) hv _ (1, 0) (inR_start _) (Nat.le_refl _)
  have hN := Lib.hid (fun W (hW : Below w.heap.size w W) (ix off : Int) (L G M : ByteArray) (st x y e : Int) (hr : nextS spec.data.toList (bytesOf' ss) ix off = (⟨L.data.toList, G.data.toList, st, M.data.toList⟩, (x, y), e)) => next_any2 spec ss A n cap ix off W ((hA.below hW).more hW.size) (by omega) hz1 (by omega) hr)
  rw [allS_eq hv] at hAll
  have hal : n = (bytesOf' ss).length := by rw [bytes_len]; exact hA.1
  have Hal := Lib.hid hal
  generalize hLE : runS spec.data.toList (bytesOf' ss) (1, 0) = LE at *
  obtain ⟨L, E⟩ := LE
  have HLE := Lib.hid hLE
  simp only [] at hAll hlen
  have hL500 : L.length ≤ 500 := by omega
  clear hA hz hz1 hsh hsh' hmu hlen hLE hal
  generalize bytesOf' ss = args at *
  go_enter Try.func6, Try.ntmps6
  go_wp2_with (go_at_call 12; refine (hS.out).mono ?_; rintro e w' ⟨rfl, rfl⟩)
  refine (hAll.out).mono ?_
  rintro e w1 ⟨v, rfl, hown, hb1⟩
  simp only [] at hown
  obtain ⟨V, cap', hvv, hV⟩ := owns_form hown
  rw [hvv]
  have HV := Lib.hid hV
  have Hb1 := Lib.hid hb1
  clear hvv hown hb1 hV
  simp only []
  go_wp2_with fail
  obtain ⟨E1, E2⟩ := E
  simp only [] at *
  go_loopw [9] (fun i wr => SRel spec.data.toList args w1 L (E1, E2) i wr) (fun i _ => L.length - (intOf i).toNat)
  case atStart =>
    refine ⟨0, (1, 0), Nat.zero_le _, rfl, inR_start _, by simp only []; omega, by rw [HLE.out]; rfl, ?_, ?_, ?_, ?_, ?_, (Below.refl _ _).alloc (Nat.le_refl _) _⟩ <;> simp [go_sem]
  case round =>
    obtain ⟨k, st, hk, rfl, hin, hst, hrun, c0, c1, f0, f1, hsz, hbel⟩ := hrel
    obtain ⟨ix, off⟩ := st
    simp only [] at hin hst c0 c1
    have Hbw := Lib.hid (Hb1.out.trans (hbel.mono Hb1.out.size))
    have Hbel := Lib.hid hbel
    have Hin := Lib.hid hin
    have Hrun := Lib.hid hrun
    clear hrun hbel hin
    have herr := nextS_err hv Hin.out
    by_cases hkl : k < L.length
    · obtain ⟨hm1, hm2, hm3⟩ := run_mid (st := (ix, off)) hv Hin.out Hrun.out hkl
      obtain ⟨a1, a2, a3, a4⟩ := nextS_adv hv Hin.out hm2
      simp only [] at hm1 hm2 hm3
      generalize hr : nextS spec.data.toList args ix off = r at *
      obtain ⟨x, ⟨a, b⟩, e⟩ := r
      obtain ⟨Lb, G, M, hx⟩ := opt_bytes x
      simp only [] at herr hm1 hm2 hm3 a1 a2 a3 a4
      subst herr
      generalize x.status = sv at *
      have hcs := optCells_at L k hkl
      rw [← hm1, hx] at hcs
      obtain ⟨g, hVe, hg, hgb, hgc⟩ := HV.out (by omega)
      have k0 := (hgc (k * 4) (by omega)).trans hcs.1
      have k1 := (hgc (k * 4 + 1) (by omega)).trans hcs.2.1
      have k2 := (hgc (k * 4 + 2) (by omega)).trans hcs.2.2.1
      have k3 := (hgc (k * 4 + 3) (by omega)).trans hcs.2.2.2
      have Hadv := Lib.hid (And.intro a1 (And.intro a4 hm3))
      have hNx := Lib.hid (hN.out wr Hbw.out ix off Lb G M sv a b 0 (by rw [hr, hx]))
      have hsv : (sv == 1) = false := by simpa using hm2
      have hai : decide (a < ix) = false := by simp; omega
      have p1 : (k : Int) < (L.length : Int) := by omega
      have p2 : (0 : Int) ≤ (k : Int) := by omega
      rw [hVe]
      clear hgc hcs hm1 hm2 hm3 hr hx a1 a2 a4 hVe
      rcases a3 with a3 | ⟨a3, a3'⟩
      · have hae : (a == ix) = false := by rw [beq_eq_false_iff_ne]; omega
        go_wp2_with (go_at_call 13; refine (hNx.out).mono ?_; rintro e' w2 ⟨rfl, hb2⟩; have Hb2 := Lib.hid hb2; have HK := Lib.hid (keep2 hsz hb2 c0 c1 f0 f1); have HB := Lib.hid (Hbel.out.trans (hb2.mono (Nat.le_of_lt hsz))); clear hb2 c0 c1 f0 f1; obtain ⟨c0, c1, f0, f1, hsz1⟩ := HK.out; have k0 : w2.cell? ⟨g, k * 4, none⟩ = some (.string Lb) := (HB.out.cell (p := ⟨g, k * 4, none⟩) hg).trans k0; have k1 : w2.cell? ⟨g, k * 4 + 1, none⟩ = some (.string G) := (HB.out.cell (p := ⟨g, k * 4 + 1, none⟩) hg).trans k1; have k2 : w2.cell? ⟨g, k * 4 + 2, none⟩ = some (.int .i64 sv) := (HB.out.cell (p := ⟨g, k * 4 + 2, none⟩) hg).trans k2; have k3 : w2.cell? ⟨g, k * 4 + 3, none⟩ = some (.string M) := (HB.out.cell (p := ⟨g, k * 4 + 3, none⟩) hg).trans k3; have hg2 : g < w2.heap.size := by omega)
        go_quiet (fail)
        go_wp2
        exact srel_next hkl Hadv.out HK.out HB.out
      · have hbo : decide (b ≤ off) = false := by simp; omega
        subst a3
        clear hai
        go_wp2_with (go_at_call 13; refine (hNx.out).mono ?_; rintro e' w2 ⟨rfl, hb2⟩; have Hb2 := Lib.hid hb2; have HK := Lib.hid (keep2 hsz hb2 c0 c1 f0 f1); have HB := Lib.hid (Hbel.out.trans (hb2.mono (Nat.le_of_lt hsz))); clear hb2 c0 c1 f0 f1; obtain ⟨c0, c1, f0, f1, hsz1⟩ := HK.out; have k0 : w2.cell? ⟨g, k * 4, none⟩ = some (.string Lb) := (HB.out.cell (p := ⟨g, k * 4, none⟩) hg).trans k0; have k1 : w2.cell? ⟨g, k * 4 + 1, none⟩ = some (.string G) := (HB.out.cell (p := ⟨g, k * 4 + 1, none⟩) hg).trans k1; have k2 : w2.cell? ⟨g, k * 4 + 2, none⟩ = some (.int .i64 sv) := (HB.out.cell (p := ⟨g, k * 4 + 2, none⟩) hg).trans k2; have k3 : w2.cell? ⟨g, k * 4 + 3, none⟩ = some (.string M) := (HB.out.cell (p := ⟨g, k * 4 + 3, none⟩) hg).trans k3; have hg2 : g < w2.heap.size := by omega)
        go_quiet (fail)
        go_wp2
        exact srel_next hkl Hadv.out HK.out HB.out
    · obtain ⟨hm1, hm2, hm3, hm4⟩ := run_end (st := (ix, off)) hv Hin.out (by rw [Hrun.out, List.drop_of_length_le (by omega)]) hst
      simp only [] at hm1 hm2 hm3 hm4
      have hNx := Lib.hid (hN.out wr Hbw.out ix off ⟨#[63]⟩ ⟨#[]⟩ ⟨#[]⟩ 1 E1 E2 0 (Prod.ext hm1 (Prod.ext hm2 herr)))
      have hE : E1 - 1 ≤ (n : Int) := by have := Hal.out; omega
      clear hm1 hm2 herr
      go_wp2_with (first | (go_at_call 13; refine (hNx.out).mono ?_; rintro e' w2 ⟨rfl, hb2⟩; have Hb2 := Lib.hid hb2; clear hb2) | (go_at_call 9; refine (awake_any _).mono ?_; rintro e' w3 ⟨rfl, hb3⟩; have Hb3 := Lib.hid hb3; clear hb3))
      go_ret
      have h2 := Hbw.out.trans (Hb2.out.mono Hbw.out.size)
      have h3 := below_two h2 h2.size
      exact ⟨rfl, (h3 _ _).trans (Hb3.out.mono (h3 _ _).size)⟩

end Go.Proofs.Ytkenicdcelhdcaa
