/- GetoptsSilent: for every specification and arguments the law returns true and its arguments read as before (no condition). -/
import Derived.Test.YtkenicdcelhdcaaL2
import Derived.Test.YtkenicdcelhdcaaW14
namespace Go.Proofs.Ytkenicdcelhdcaa
open Go.ChangeShapes Go.WideShapes Go.ChangeAt Go.RowKit
open Go.ChangeMaps (open_string shut_string)

set_option maxRecDepth 100000 in
set_option maxHeartbeats 1000000 in
theorem law_silent (spec : ByteArray) (ss : List ByteArray) (A : Option Addr) (n cap : Nat) (w : World) (hA : Strs w w.heap.size A n ss) (hn : n ≤ maxLen) (hz : ∀ s ∈ ss, s.size ≤ maxLen) (hs : spec.size ≤ maxLen) :
    Calls Try.prog 8 #[.string spec, .slice A n cap] w fun e w' => e = .returned (.bool true) ∧ Below w.heap.size w w' := by
  by_cases hsm : smB spec ss = true
  · have h := hsm
    simp only [smB, Bool.and_eq_true, decide_eq_true_eq] at h
    by_cases hcol : colon spec = true
    · have hS := Lib.hid (small_any spec ss A n cap w hA hn hz hs)
      rw [hsm] at hS
      have h1 := colon_pos hcol
      have h58 : ((spec[0].toNat : Int) == 58) = true := by rw [colon_at h1]; exact hcol
      unfold maxLen at hs
      clear hA hn hz hsm h hcol
      go_enter Try.func8, Try.ntmps8
      go_wp2_with (first | (go_at_call 12; refine (hS.out).mono ?_; rintro e w' ⟨rfl, rfl⟩) | (go_at_call 9; refine (awake_any _).mono ?_; rintro e' w3 ⟨rfl, hb3⟩; have Hb3 := Lib.hid hb3; clear hb3))
      go_ret
      exact ⟨rfl, Hb3.out⟩
    · exact law_silent_small spec ss A n cap w hA h.1 h.2 (by simpa using hcol)
  · have hS := Lib.hid (small_any spec ss A n cap w hA hn hz hs)
    rw [show smB spec ss = false by simpa using hsm] at hS
    clear hA hn hz hs hsm
    go_enter Try.func8, Try.ntmps8
    go_wp2_with (first | (go_at_call 12; refine (hS.out).mono ?_; rintro e w' ⟨rfl, rfl⟩) | (go_at_call 9; refine (awake_any _).mono ?_; rintro e' w3 ⟨rfl, hb3⟩; have Hb3 := Lib.hid hb3; clear hb3))
    go_ret
    exact ⟨rfl, Hb3.out⟩

set_option maxRecDepth 100000 in
theorem lifted_silent (os : Os) (started : os.Started) (H : Type) (enc : TypeId × Value → H) :
    ReturnsInHanded {} Try.checked os 8 .any (Rows.getoptsSilentSpec.pre6 enc Try.prog Try.f8 Rows.getoptsSilentRow.domain false) (Rows.getoptsSilentSpec.post enc Try.prog Try.f8 false true false false) := by
  refine returnsInHanded_of_change (C := Try.checked) own started (by kernel_rfl) Try.func8
    (ChangeSpec.witness6 (enc := enc) (C := Try.checked) false ⟨#[], #[.string ByteArray.empty, .slice none 0 0], []⟩ 8 (by kernel_rfl) (by kernel_rfl) (by kernel_rfl) (by kernel_rfl)) ?_
  intro W base args ds gs before hval0 hW hcnd _
  have hval : ∀ (j : Nat) t v, Try.f8.params[j]? = some t → args[j]? = some v → Value.okWide Try.prog W .any base t v := hval0
  have hW' := hW
  obtain ⟨p, q, hA0, hV, rfl, hfz, hnd⟩ := hW
  have hA : DataW.TrodAll enc Try.prog W 0 (fun _ => true) true Try.f8.params.toList args.toList ds p := hA0
  have hAk := hA
  rw [Try.params8] at hA hval
  obtain ⟨v0, vs0, d0, ds0, p0, q0, hargs, rfl, rfl, h0, r0⟩ := trodAll_cons hA
  obtain ⟨v1, vs1, d1, ds1, p1, q1, rfl, rfl, rfl, h1, r1⟩ := trodAll_cons r0
  obtain ⟨rfl, rfl, rfl⟩ := trodAll_nil r1
  obtain rfl : args = #[v0, v1] := by cases args; simp_all
  obtain ⟨rfl, rfl⟩ := trodVars_none hV
  have hlt : ∀ x ∈ p0 ++ (p1 ++ []), x.block < W.heap.size := fun x hx => hW'.lt x (by simpa using hx)
  obtain ⟨a0, rfl, rfl, rfl, w0⟩ := open_string Try.underlying9 (hval 0 9 v0 rfl rfl) h0
  obtain ⟨A, n, cap, ss, rfl, hS, hn, hz⟩ := open_args (hval 1 27 v1 rfl rfl) h1
  clear hA0 hval0
  refine (law_silent a0 ss A n cap W hS hn hz w0).mono fun e W' ⟨he, hg⟩ => ?_
  subst he
  exact ⟨_, rfl, post_of_below (pv := []) hW' (fun _ _ _ => (trodAll_cons_mk (shut_bool Try.underlying4 _) trodAll_mk0))
    (fun sp hsp => trodAll_stays Try.laidOut hg (by rw [Try.params8]; decide +kernel) hAk hlt sp (fun x hx => hsp x (by simpa using hx))) (fun _ _ => rfl) (by simp) hg (ok_one (by kernel_rfl) rfl (okWide_bool_mk Try.underlying4 _))⟩

theorem getoptsSilent_holds : Rows.GetoptsSilentSaid :=
  OpenClaim.holds_of_wide 8 Try.f8 rfl rfl rfl rfl rfl rfl rfl ⟨rfl, rfl, rfl, rfl, rfl⟩ rfl rfl rfl rfl rfl (by kernel_rfl) Try.func8 (by kernel_rfl)
    (of_decide_eq_true (by kernel_rfl)) (by unfold Func.isWrapper; first | (rw [if_pos (by decide +kernel)]; kernel_rfl) | (rw [if_neg (by decide +kernel)]; exact ⟨rfl, rfl⟩))
    (fun os started H enc _ => lifted_silent os started H enc)

end Go.Proofs.Ytkenicdcelhdcaa
