/- GetoptsOperands: for every specification and arguments the law returns true and its arguments read as before (no condition). -/
import Derived.Test.YtkenicdcelhdcaaL2
import Derived.Test.YtkenicdcelhdcaaW15
namespace Go.Proofs.Ytkenicdcelhdcaa
open Go.ChangeShapes Go.WideShapes Go.ChangeAt Go.RowKit Go.WideMaps Go.WideElems
open Go.ChangeMaps (open_string shut_string)

theorem nil_cap {H : Type} {enc : TypeId × Value → H} {W : World} {n cap : Nat} {d : DataW H} {p : List MemPlace} (h : DataW.Trod enc Try.prog W 0 (fun _ => true) true 27 (.slice none n cap) d p) : cap = 0 := by
  obtain ⟨fuel, hf⟩ := h
  have hc9 : Try.prog.cellsOf 9 = 1 := by kernel_rfl
  rcases open_strings Try.underlying27 Try.underlying9 hc9 hf with ⟨hcs, hx⟩ | ⟨a, len', cap', ss, hcs, _⟩
  · simp [Value.cells] at hcs
    exact hcs.2
  · simp [Value.cells] at hcs

set_option maxRecDepth 100000 in
set_option maxHeartbeats 1000000 in
theorem law_operands (spec : ByteArray) (ss ms : List ByteArray) (A A' : Option Addr) (n cap n' cap' : Nat) (w : World) (hA : Strs w w.heap.size A n ss) (hA' : Strs w w.heap.size A' n' ms) (hn : n ≤ maxLen) (hn' : n' ≤ maxLen)
    (hz : ∀ s ∈ ss, s.size ≤ maxLen) (hz' : ∀ s ∈ ms, s.size ≤ maxLen) (hs : spec.size ≤ maxLen) (hnil : A = none → cap = 0) (hnil' : A' = none → cap' = 0) :
    Calls Try.prog 7 #[.string spec, .slice A n cap, .slice A' n' cap'] w fun e w' => e = .returned (.bool true) ∧ Below w.heap.size w w' := by
  have hS := Lib.hid (small_any spec ss A n cap w hA hn hz hs)
  have hS2 := Lib.hid (short_any ms A' n' cap' w hA' hn' hz')
  by_cases hsm : smB spec ss = true
  · have h := hsm
    simp only [smB, Bool.and_eq_true, decide_eq_true_eq] at h
    by_cases hms : shB ms = true
    · exact law_operands_small spec ss ms A A' n cap n' cap' w hA hA' h.1 h.2 hms hnil hnil'
    · rw [hsm] at hS
      rw [show shB ms = false by simpa using hms] at hS2
      clear hA hA' hn hn' hz hz' hs hsm hms h hnil hnil'
      go_enter Try.func7, Try.ntmps7
      go_wp2_with (first | (go_at_call 12; refine (hS.out).mono ?_; rintro e w' ⟨rfl, rfl⟩) | (go_at_call 18; refine (hS2.out).mono ?_; rintro e w' ⟨rfl, rfl⟩) | (go_at_call 9; refine (awake_any _).mono ?_; rintro e' w3 ⟨rfl, hb3⟩; have Hb3 := Lib.hid hb3; clear hb3))
      go_ret
      exact ⟨rfl, Hb3.out⟩
  · rw [show smB spec ss = false by simpa using hsm] at hS
    clear hA hA' hn hn' hz hz' hs hsm hnil hnil' hS2
    go_enter Try.func7, Try.ntmps7
    go_wp2_with (first | (go_at_call 12; refine (hS.out).mono ?_; rintro e w' ⟨rfl, rfl⟩) | (go_at_call 9; refine (awake_any _).mono ?_; rintro e' w3 ⟨rfl, hb3⟩; have Hb3 := Lib.hid hb3; clear hb3))
    go_ret
    exact ⟨rfl, Hb3.out⟩

set_option maxRecDepth 100000 in
theorem lifted_operands (os : Os) (started : os.Started) (H : Type) (enc : TypeId × Value → H) :
    ReturnsInHanded {} Try.checked os 7 .any (Rows.getoptsOperandsSpec.pre6 enc Try.prog Try.f7 Rows.getoptsOperandsRow.domain false) (Rows.getoptsOperandsSpec.post enc Try.prog Try.f7 false true false false) := by
  refine returnsInHanded_of_change (C := Try.checked) own started (by kernel_rfl) Try.func7
    (ChangeSpec.witness6 (enc := enc) (C := Try.checked) false ⟨#[], #[.string ByteArray.empty, .slice none 0 0, .slice none 0 0], []⟩ 8 (by kernel_rfl) (by kernel_rfl) (by kernel_rfl) (by kernel_rfl)) ?_
  intro W base args ds gs before hval0 hW hcnd _
  have hval : ∀ (j : Nat) t v, Try.f7.params[j]? = some t → args[j]? = some v → Value.okWide Try.prog W .any base t v := hval0
  have hW' := hW
  obtain ⟨p, q, hA0, hV, rfl, hfz, hnd⟩ := hW
  have hA : DataW.TrodAll enc Try.prog W 0 (fun _ => true) true Try.f7.params.toList args.toList ds p := hA0
  have hAk := hA
  rw [Try.params7] at hA hval
  obtain ⟨v0, vs0, d0, ds0, p0, q0, hargs, rfl, rfl, h0, r0⟩ := trodAll_cons hA
  obtain ⟨v1, vs1, d1, ds1, p1, q1, rfl, rfl, rfl, h1, r1⟩ := trodAll_cons r0
  obtain ⟨v2, vs2, d2, ds2, p2, q2, rfl, rfl, rfl, h2, r2⟩ := trodAll_cons r1
  obtain ⟨rfl, rfl, rfl⟩ := trodAll_nil r2
  obtain rfl : args = #[v0, v1, v2] := by cases args; simp_all
  obtain ⟨rfl, rfl⟩ := trodVars_none hV
  have hlt : ∀ x ∈ p0 ++ (p1 ++ (p2 ++ [])), x.block < W.heap.size := fun x hx => hW'.lt x (by simpa using hx)
  obtain ⟨a0, rfl, rfl, rfl, w0⟩ := open_string Try.underlying9 (hval 0 9 v0 rfl rfl) h0
  obtain ⟨A, n, cap, ss, rfl, hS, hn, hz⟩ := open_args (hval 1 27 v1 rfl rfl) h1
  obtain ⟨A', n', cap', ms, rfl, hS', hn', hz'⟩ := open_args (hval 2 27 v2 rfl rfl) h2
  clear hA0 hval0
  refine (law_operands a0 ss ms A A' n cap n' cap' W hS hS' hn hn' hz hz' w0 (fun h => by subst h; exact nil_cap h1) (fun h => by subst h; exact nil_cap h2)).mono fun e W' ⟨he, hg⟩ => ?_
  subst he
  exact ⟨_, rfl, post_of_below (pv := []) hW' (fun _ _ _ => (trodAll_cons_mk (shut_bool Try.underlying4 _) trodAll_mk0))
    (fun sp hsp => trodAll_stays Try.laidOut hg (by rw [Try.params7]; decide +kernel) hAk hlt sp (fun x hx => hsp x (by simpa using hx))) (fun _ _ => rfl) (by simp) hg (ok_one (by kernel_rfl) rfl (okWide_bool_mk Try.underlying4 _))⟩

theorem getoptsOperands_holds : Rows.GetoptsOperandsSaid :=
  OpenClaim.holds_of_wide 7 Try.f7 rfl rfl rfl rfl rfl rfl rfl ⟨rfl, rfl, rfl, rfl, rfl⟩ rfl rfl rfl rfl rfl (by kernel_rfl) Try.func7 (by kernel_rfl)
    (of_decide_eq_true (by kernel_rfl)) (by unfold Func.isWrapper; first | (rw [if_pos (by decide +kernel)]; kernel_rfl) | (rw [if_neg (by decide +kernel)]; exact ⟨rfl, rfl⟩))
    (fun os started H enc _ => lifted_operands os started H enc)

end Go.Proofs.Ytkenicdcelhdcaa
