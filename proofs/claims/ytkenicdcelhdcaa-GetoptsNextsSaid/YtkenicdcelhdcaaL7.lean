/- GetoptsNexts: for every input the law returns true and its arguments read as before (no condition). -/
import Derived.Test.YtkenicdcelhdcaaL2
import Derived.Test.YtkenicdcelhdcaaR4
import Derived.Test.YtkenicdcelhdcaaW14
import Derived.Lib.SmallJoins
namespace Go.Proofs.Ytkenicdcelhdcaa
open Go.ChangeShapes Go.WideShapes Go.ChangeAt Go.RowKit
open Go.ChangeMaps (open_string shut_string)

theorem six_keep2 {w2 w3 : World} {x0 x1 x2 x3 y0 y1 : Value} (hb : Below ((w2.alloc (.cells #[x0, x1, x2, x3] 32)).alloc (.cells #[y0, y1] 29)).heap.size ((w2.alloc (.cells #[x0, x1, x2, x3] 32)).alloc (.cells #[y0, y1] 29)) w3) :
    w2.heap.size + 1 < w3.heap.size ∧ w3.cell? ⟨w2.heap.size, 0, none⟩ = some x0 ∧ w3.cell? ⟨w2.heap.size, 1, none⟩ = some x1 ∧ w3.cell? ⟨w2.heap.size, 2, none⟩ = some x2 ∧ w3.cell? ⟨w2.heap.size, 3, none⟩ = some x3 ∧
      w3.cell? ⟨w2.heap.size + 1, 0, none⟩ = some y0 ∧ w3.cell? ⟨w2.heap.size + 1, 1, none⟩ = some y1 := by
  have hs := hb.size
  have k : ∀ b j, b < w2.heap.size + 2 → w3.cell? ⟨b, j, none⟩ = ((w2.alloc (.cells #[x0, x1, x2, x3] 32)).alloc (.cells #[y0, y1] 29)).cell? ⟨b, j, none⟩ := fun b j h => hb.cell (p := ⟨b, j, none⟩) (by simp; omega)
  refine ⟨by simp at hs; omega, ?_, ?_, ?_, ?_, ?_, ?_⟩ <;> rw [k _ _ (by omega)] <;> simp [go_sem]

theorem two_keep {w w1 : World} {x0 x1 : Value} (hb : Below (w.alloc (.cells #[x0, x1] 29)).heap.size (w.alloc (.cells #[x0, x1] 29)) w1) :
    w.heap.size < w1.heap.size ∧ w1.cell? ⟨w.heap.size, 0, none⟩ = some x0 ∧ w1.cell? ⟨w.heap.size, 1, none⟩ = some x1 := by
  have hs := hb.size
  have k : ∀ b j, b < w.heap.size + 1 → w1.cell? ⟨b, j, none⟩ = (w.alloc (.cells #[x0, x1] 29)).cell? ⟨b, j, none⟩ := fun b j h => hb.cell (p := ⟨b, j, none⟩) (by simp; omega)
  refine ⟨by simp at hs; omega, ?_, ?_⟩ <;> rw [k _ _ (by omega)] <;> simp [go_sem]

set_option maxRecDepth 100000 in
set_option maxHeartbeats 2000000 in
theorem law_nexts_small (spec : ByteArray) (ss : List ByteArray) (A : Option Addr) (n cap : Nat) (ix off : Int) (w : World) (hA : Strs w w.heap.size A n ss) (hs : spec.size ≤ 40) (hsh : shB ss = true) :
    Calls Try.prog 4 #[.string spec, .slice A n cap, .agg #[.int .i64 ix, .int .i64 off]] w fun e w' => e = .returned (.bool true) ∧ Below w.heap.size w w' := by
  have hsh' := shB_true hsh
  have hn : n ≤ 12 := by rw [hA.1]; exact hsh'.1
  have hz : ∀ s ∈ ss, s.size ≤ 40 := hsh'.2
  have hz1 : ∀ s ∈ ss, s.size ≤ 1000 := fun s h => by have := hz s h; omega
  have hS := Lib.hid (fun W (hW : Below w.heap.size w W) => small_any spec ss A n cap W ((hA.below hW).more hW.size) (by unfold maxLen; omega) (fun s h => by have := hz s h; unfold maxLen; omega) (by unfold maxLen; omega))
  rw [show smB spec ss = true by simp [smB, hs, hsh]] at hS
  generalize hr : nextS spec.data.toList (bytesOf' ss) ix off = r
  obtain ⟨x, ⟨a, b⟩, e⟩ := r
  obtain ⟨L, G, M, hx⟩ := opt_bytes x
  generalize x.status = sv at *
  subst hx
  have hN := Lib.hid (fun W (hW : Below w.heap.size w W) => next_any2 spec ss A n cap ix off W ((hA.below hW).more hW.size) (by omega) hz1 (by omega) hr)
  have hR := Lib.hid (fun W (hW : Below w.heap.size w W) => ref_any2 spec ss A n cap ix off W ((hA.below hW).more hW.size) (by omega) hz1 (by omega) hr)
  clear hA hz hz1 hsh hsh' hr
  have hb0 : Hid (∀ o, Below w.heap.size w (w.alloc o)) := fun o => (Below.refl _ _).alloc (Nat.le_refl _) _
  go_enter Try.func4, Try.ntmps4
  go_wp2_with (go_at_call 12; refine (hS.out _ (hb0.out _)).mono ?_; rintro e w' ⟨rfl, rfl⟩)
  refine (hN.out _ (hb0.out _)).mono ?_
  rintro e' w1 ⟨rfl, hb1⟩
  obtain ⟨z1, c0, c1⟩ := two_keep hb1
  have B1 : Below w.heap.size w w1 := (hb0.out _).trans (hb1.mono (hb0.out _).size)
  have HB1 := Lib.hid B1
  have HB2 := Lib.hid (fun o1 o2 => below_two B1 B1.size o1 o2)
  clear hb1 B1
  go_wp2_with fail
  refine (hR.out _ (HB2.out _ _)).mono ?_
  rintro e' w2 ⟨rfl, hb2⟩
  obtain ⟨z2, d0, d1, d2, d3, e0, e1⟩ := six_keep2 hb2
  have B2 : Below w.heap.size w w2 := (HB2.out _ _).trans (hb2.mono (HB2.out _ _).size)
  have Hb2 := Lib.hid B2
  have z3 : w1.heap.size < w2.heap.size := by omega
  clear hb2 B2
  go_wp2_with (go_at_call 9; refine (awake_any _).mono ?_; rintro e' w4 ⟨rfl, hb4⟩; have Hb4 := Lib.hid hb4; clear hb4)
  go_ret
  have h2 := below_two Hb2.out Hb2.out.size
  exact ⟨rfl, (h2 _ _).trans (Hb4.out.mono (h2 _ _).size)⟩

set_option maxRecDepth 100000 in
set_option maxHeartbeats 1000000 in
theorem law_nexts (spec : ByteArray) (ss : List ByteArray) (A : Option Addr) (n cap : Nat) (ix off : Int) (w : World) (hA : Strs w w.heap.size A n ss) (hn : n ≤ maxLen) (hz : ∀ s ∈ ss, s.size ≤ maxLen) (hs : spec.size ≤ maxLen) :
    Calls Try.prog 4 #[.string spec, .slice A n cap, .agg #[.int .i64 ix, .int .i64 off]] w fun e w' => e = .returned (.bool true) ∧ Below w.heap.size w w' := by
  by_cases hsm : smB spec ss = true
  · have h := hsm
    simp only [smB, Bool.and_eq_true, decide_eq_true_eq] at h
    exact law_nexts_small spec ss A n cap ix off w hA h.1 h.2
  · have hS := Lib.hid (fun W (hW : Below w.heap.size w W) => small_any spec ss A n cap W ((hA.below hW).more hW.size) hn hz hs)
    rw [show smB spec ss = false by simpa using hsm] at hS
    have hb0 : Hid (∀ o, Below w.heap.size w (w.alloc o)) := fun o => (Below.refl _ _).alloc (Nat.le_refl _) _
    clear hA hn hz hs hsm
    go_enter Try.func4, Try.ntmps4
    go_wp2_with (first | (go_at_call 12; refine (hS.out _ (hb0.out _)).mono ?_; rintro e w' ⟨rfl, rfl⟩) | (go_at_call 9; refine (awake_any _).mono ?_; rintro e' w3 ⟨rfl, hb3⟩; have Hb3 := Lib.hid hb3; clear hb3))
    go_ret
    exact ⟨rfl, (hb0.out _).trans (Hb3.out.mono (hb0.out _).size)⟩

set_option maxRecDepth 100000 in
theorem lifted_nexts (os : Os) (started : os.Started) (H : Type) (enc : TypeId × Value → H) :
    ReturnsInHanded {} Try.checked os 4 .any (Rows.getoptsNextsSpec.pre6 enc Try.prog Try.f4 Rows.getoptsNextsRow.domain false) (Rows.getoptsNextsSpec.post enc Try.prog Try.f4 false true false false) := by
  refine returnsInHanded_of_change (C := Try.checked) own started (by kernel_rfl) Try.func4
    (ChangeSpec.witness6 (enc := enc) (C := Try.checked) false ⟨#[], #[.string ByteArray.empty, .slice none 0 0, .agg #[.int .i64 0, .int .i64 0]], []⟩ 8 (by kernel_rfl) (by kernel_rfl) (by kernel_rfl) (by kernel_rfl)) ?_
  intro W base args ds gs before hval0 hW hcnd _
  have hval : ∀ (j : Nat) t v, Try.f4.params[j]? = some t → args[j]? = some v → Value.okWide Try.prog W .any base t v := hval0
  have hW' := hW
  obtain ⟨p, q, hA0, hV, rfl, hfz, hnd⟩ := hW
  have hA : DataW.TrodAll enc Try.prog W 0 (fun _ => true) true Try.f4.params.toList args.toList ds p := hA0
  have hAk := hA
  rw [Try.params4] at hA hval
  obtain ⟨v0, vs0, d0, ds0, p0, q0, hargs, rfl, rfl, h0, r0⟩ := trodAll_cons hA
  obtain ⟨v1, vs1, d1, ds1, p1, q1, rfl, rfl, rfl, h1, r1⟩ := trodAll_cons r0
  obtain ⟨v2, vs2, d2, ds2, p2, q2, rfl, rfl, rfl, h2, r2⟩ := trodAll_cons r1
  obtain ⟨rfl, rfl, rfl⟩ := trodAll_nil r2
  obtain rfl : args = #[v0, v1, v2] := by cases args; simp_all
  obtain ⟨rfl, rfl⟩ := trodVars_none hV
  have hlt : ∀ x ∈ p0 ++ (p1 ++ (p2 ++ [])), x.block < W.heap.size := fun x hx => hW'.lt x (by simpa using hx)
  obtain ⟨a0, rfl, rfl, rfl, w0⟩ := open_string Try.underlying9 (hval 0 9 v0 rfl rfl) h0
  obtain ⟨A, n, cap, ss, rfl, hS, hn, hz⟩ := open_args (hval 1 27 v1 rfl rfl) h1
  obtain ⟨c0, c1, y0, y1, m, rfl, hd2, hp2, hy0, hy1⟩ := Joins.open_agg2 Try.underlying29 (by kernel_rfl) (by kernel_rfl) (hval 2 29 v2 rfl rfl) h2
  obtain ⟨ix, e0, _, _⟩ := DataW.trod_int Try.underlying3 hy0
  obtain ⟨off, e1, _, _⟩ := DataW.trod_int Try.underlying3 hy1
  simp at e0 e1
  subst e0 e1
  clear hA0 hval0
  refine (law_nexts a0 ss A n cap ix off W hS hn hz w0).mono fun e W' ⟨he, hg⟩ => ?_
  subst he
  exact ⟨_, rfl, post_of_below (pv := []) hW' (fun _ _ _ => (trodAll_cons_mk (shut_bool Try.underlying4 _) trodAll_mk0))
    (fun sp hsp => trodAll_stays Try.laidOut hg (by rw [Try.params4]; decide +kernel) hAk hlt sp (fun x hx => hsp x (by simpa using hx))) (fun _ _ => rfl) (by simp) hg (ok_one (by kernel_rfl) rfl (okWide_bool_mk Try.underlying4 _))⟩

theorem getoptsNexts_holds : Rows.GetoptsNextsSaid :=
  OpenClaim.holds_of_wide 4 Try.f4 rfl rfl rfl rfl rfl rfl rfl ⟨rfl, rfl, rfl, rfl, rfl⟩ rfl rfl rfl rfl rfl (by kernel_rfl) Try.func4 (by kernel_rfl)
    (of_decide_eq_true (by kernel_rfl)) (by unfold Func.isWrapper; first | (rw [if_pos (by decide +kernel)]; kernel_rfl) | (rw [if_neg (by decide +kernel)]; exact ⟨rfl, rfl⟩))
    (fun os started H enc _ => lifted_nexts os started H enc)

end Go.Proofs.Ytkenicdcelhdcaa
