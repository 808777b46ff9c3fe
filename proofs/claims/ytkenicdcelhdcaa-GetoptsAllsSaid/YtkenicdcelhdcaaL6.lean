/- GetoptsAlls: for every input the law returns true and its arguments read as before (no condition). -/
import Derived.Test.YtkenicdcelhdcaaL2
import Derived.Test.YtkenicdcelhdcaaR5
import Derived.Test.YtkenicdcelhdcaaW14
namespace Go.Proofs.Ytkenicdcelhdcaa
open Go.ChangeShapes Go.WideShapes Go.ChangeAt Go.RowKit
open Go.ChangeMaps (open_string shut_string)

set_option maxRecDepth 100000 in
set_option maxHeartbeats 2000000 in
theorem law_alls_small (spec : ByteArray) (ss : List ByteArray) (A : Option Addr) (n cap : Nat) (w : World) (hA : Strs w w.heap.size A n ss) (hs : spec.size ≤ 40) (hsh : shB ss = true) :
    Calls Try.prog 5 #[.string spec, .slice A n cap] w fun e w' => e = .returned (.bool true) ∧ Below w.heap.size w w' := by
  have hsh' := shB_true hsh
  have hn : n ≤ 12 := by rw [hA.1]; exact hsh'.1
  have hz : ∀ s ∈ ss, s.size ≤ 40 := hsh'.2
  have hz1 : ∀ s ∈ ss, s.size ≤ 1000 := fun s h => by have := hz s h; omega
  have hmu := mu_small (ss := ss) (by rw [← hA.1]; omega) hz
  have hS := Lib.hid (small_any spec ss A n cap w hA (by unfold maxLen; omega) (fun s h => by have := hz s h; unfold maxLen; omega) (by unfold maxLen; omega))
  rw [show smB spec ss = true by simp [smB, hs, hsh]] at hS
  have hAll := Lib.hid (all_any spec ss A n cap w hA (by omega) hz1 (by omega) (by omega))
  have hRef := Lib.hid (fun W (hW : Below w.heap.size w W) => ref_all_any spec ss A n cap W ((hA.below hW).more hW.size) (by omega) hz1 (by omega))
  have hlen : (allS spec.data.toList (bytesOf' ss)).1.length ≤ 100000 := by
    by_cases hv : validS spec.data.toList = 0
    · rw [allS_eq hv]
      have h := runS_len (args := bytesOf' ss) hv _ (1, 0) (inR_start _) (Nat.le_refl _)
      simp only [] at h ⊢
      omega
    · rw [allS, if_pos hv]; simp
  clear hA hz hz1 hsh hsh' hmu
  generalize allS spec.data.toList (bytesOf' ss) = r at *
  obtain ⟨l, m, e0⟩ := r
  simp only [] at hlen
  go_enter Try.func5, Try.ntmps5
  go_wp2_with (go_at_call 12; refine (hS.out).mono ?_; rintro e w' ⟨rfl, rfl⟩)
  refine (hAll.out).mono ?_
  rintro e w1 ⟨v1, rfl, hown1, hb1⟩
  obtain ⟨V1, cap1, hv1, hV1⟩ := owns_opts hown1
  rw [hv1]
  have Hb1 := Lib.hid hb1
  have HV1 := Lib.hid hV1
  clear hv1 hown1 hb1 hV1
  simp only []
  go_wp2_with fail
  refine (hRef.out _ Hb1.out).mono ?_
  rintro e w2 ⟨v2, rfl, hown2, hb2⟩
  obtain ⟨V2, cap2, hv2, hV2⟩ := owns_opts hown2
  rw [hv2]
  simp only []
  have hSame := Lib.hid (same_any l V1 V2 cap1 cap2 w2 (HV1.out.later hb2) hV2 hlen)
  have HB := Lib.hid (Hb1.out.trans (hb2.mono Hb1.out.size))
  clear hv2 hown2 hb2 hV2
  go_wp2_with (first | (go_at_call 17; refine (hSame.out).mono ?_; rintro e w3 ⟨rfl, hb3⟩; have Hb3 := Lib.hid hb3; clear hb3) | (go_at_call 9; refine (awake_any _).mono ?_; rintro e' w4 ⟨rfl, hb4⟩; have Hb4 := Lib.hid hb4; clear hb4))
  go_ret
  have h2 := HB.out.trans (Hb3.out.mono HB.out.size)
  exact ⟨rfl, h2.trans (Hb4.out.mono h2.size)⟩

set_option maxRecDepth 100000 in
set_option maxHeartbeats 1000000 in
theorem law_alls (spec : ByteArray) (ss : List ByteArray) (A : Option Addr) (n cap : Nat) (w : World) (hA : Strs w w.heap.size A n ss) (hn : n ≤ maxLen) (hz : ∀ s ∈ ss, s.size ≤ maxLen) (hs : spec.size ≤ maxLen) :
    Calls Try.prog 5 #[.string spec, .slice A n cap] w fun e w' => e = .returned (.bool true) ∧ Below w.heap.size w w' := by
  by_cases hsm : smB spec ss = true
  · have h := hsm
    simp only [smB, Bool.and_eq_true, decide_eq_true_eq] at h
    exact law_alls_small spec ss A n cap w hA h.1 h.2
  · have hS := Lib.hid (small_any spec ss A n cap w hA hn hz hs)
    rw [show smB spec ss = false by simpa using hsm] at hS
    clear hA hn hz hs hsm
    go_enter Try.func5, Try.ntmps5
    go_wp2_with (first | (go_at_call 12; refine (hS.out).mono ?_; rintro e w' ⟨rfl, rfl⟩) | (go_at_call 9; refine (awake_any _).mono ?_; rintro e' w3 ⟨rfl, hb3⟩; have Hb3 := Lib.hid hb3; clear hb3))
    go_ret
    exact ⟨rfl, Hb3.out⟩

set_option maxRecDepth 100000 in
theorem lifted_alls (os : Os) (started : os.Started) (H : Type) (enc : TypeId × Value → H) :
    ReturnsInHanded {} Try.checked os 5 .any (Rows.getoptsAllsSpec.pre6 enc Try.prog Try.f5 Rows.getoptsAllsRow.domain false) (Rows.getoptsAllsSpec.post enc Try.prog Try.f5 false true false false) := by
  refine returnsInHanded_of_change (C := Try.checked) own started (by kernel_rfl) Try.func5
    (ChangeSpec.witness6 (enc := enc) (C := Try.checked) false ⟨#[], #[.string ByteArray.empty, .slice none 0 0], []⟩ 8 (by kernel_rfl) (by kernel_rfl) (by kernel_rfl) (by kernel_rfl)) ?_
  intro W base args ds gs before hval0 hW hcnd _
  have hval : ∀ (j : Nat) t v, Try.f5.params[j]? = some t → args[j]? = some v → Value.okWide Try.prog W .any base t v := hval0
  have hW' := hW
  obtain ⟨p, q, hA0, hV, rfl, hfz, hnd⟩ := hW
  have hA : DataW.TrodAll enc Try.prog W 0 (fun _ => true) true Try.f5.params.toList args.toList ds p := hA0
  have hAk := hA
  rw [Try.params5] at hA hval
  obtain ⟨v0, vs0, d0, ds0, p0, q0, hargs, rfl, rfl, h0, r0⟩ := trodAll_cons hA
  obtain ⟨v1, vs1, d1, ds1, p1, q1, rfl, rfl, rfl, h1, r1⟩ := trodAll_cons r0
  obtain ⟨rfl, rfl, rfl⟩ := trodAll_nil r1
  obtain rfl : args = #[v0, v1] := by cases args; simp_all
  obtain ⟨rfl, rfl⟩ := trodVars_none hV
  have hlt : ∀ x ∈ p0 ++ (p1 ++ []), x.block < W.heap.size := fun x hx => hW'.lt x (by simpa using hx)
  obtain ⟨a0, rfl, rfl, rfl, w0⟩ := open_string Try.underlying9 (hval 0 9 v0 rfl rfl) h0
  obtain ⟨A, n, cap, ss, rfl, hS, hn, hz⟩ := open_args (hval 1 27 v1 rfl rfl) h1
  clear hA0 hval0
  refine (law_alls a0 ss A n cap W hS hn hz w0).mono fun e W' ⟨he, hg⟩ => ?_
  subst he
  exact ⟨_, rfl, post_of_below (pv := []) hW' (fun _ _ _ => (trodAll_cons_mk (shut_bool Try.underlying4 _) trodAll_mk0))
    (fun sp hsp => trodAll_stays Try.laidOut hg (by rw [Try.params5]; decide +kernel) hAk hlt sp (fun x hx => hsp x (by simpa using hx))) (fun _ _ => rfl) (by simp) hg (ok_one (by kernel_rfl) rfl (okWide_bool_mk Try.underlying4 _))⟩

theorem getoptsAlls_holds : Rows.GetoptsAllsSaid :=
  OpenClaim.holds_of_wide 5 Try.f5 rfl rfl rfl rfl rfl rfl rfl ⟨rfl, rfl, rfl, rfl, rfl⟩ rfl rfl rfl rfl rfl (by kernel_rfl) Try.func5 (by kernel_rfl)
    (of_decide_eq_true (by kernel_rfl)) (by unfold Func.isWrapper; first | (rw [if_pos (by decide +kernel)]; kernel_rfl) | (rw [if_neg (by decide +kernel)]; exact ⟨rfl, rfl⟩))
    (fun os started H enc _ => lifted_alls os started H enc)

end Go.Proofs.Ytkenicdcelhdcaa
