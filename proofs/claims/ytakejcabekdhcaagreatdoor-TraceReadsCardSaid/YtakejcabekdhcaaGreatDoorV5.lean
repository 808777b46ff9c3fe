/- TraceReads: the law returns true. -/
import Derived.Test.YtakejcabekdhcaaGreatDoorV4
import Derived.Test.YtakejcabekdhcaaGreatDoorH4
namespace Go.Proofs.YtakejcabekdhcaaGreatDoor
open Go.RowKit

theorem few_true {es : List Evn} (h : fewB es = true) : es.length ≤ 60 ∧ ∀ e ∈ es, e.text.size ≤ 200 := by
  unfold fewB at h
  simp only [Bool.and_eq_true, decide_eq_true_eq, List.all_eq_true] at h
  exact h

set_option maxHeartbeats 2000000 in
set_option maxRecDepth 100000 in
theorem law_reads (es : List Evn) (A : Option Addr) (n cap : Nat) (pid : Int) (w : World) (hA : Evs w w.heap.size A n es) (hn : n ≤ maxLen) (hz : ∀ e ∈ es, e.text.size ≤ maxLen) (hi : ∀ e ∈ es, inI64 e.pid ∧ inI64 e.n) :
    Calls Tryz.prog 4 #[.slice A n cap, .int .i64 pid] w fun e w' => e = .returned (.bool true) ∧ Below w.heap.size w w' := by
  obtain rfl := hA.1
  have HF := Lib.hid (few_any es A es.length cap w hA hn hz)
  have HE := Lib.hid (fun W => example_any W)
  have HA := Lib.hid hA
  have HI := Lib.hid hi
  clear hA hz hi hn
  cases hf : fewB es with
  | false =>
    rw [hf] at HF
    clear hf
    go_enter Tryz.func4, Tryz.ntmps4
    go_wp2_with fail
    refine HF.out.mono ?_
    rintro e w1 ⟨rfl, hb1⟩
    have Hb1 := Lib.hid hb1
    clear hb1
    go_wp2_with fail
    refine (HE.out _).mono ?_
    rintro e w2 ⟨rfl, hb2⟩
    have Hb2 := Lib.hid hb2
    clear hb2
    go_wp2_with fail
    go_ret
    exact ⟨rfl, Hb1.out.trans (Hb2.out.mono Hb1.out.size)⟩
  | true =>
    rw [hf] at HF
    obtain ⟨h60, hz⟩ := few_true hf
    clear hf
    go_enter Tryz.func4, Tryz.ntmps4
    go_wp2_with fail
    refine HF.out.mono ?_
    rintro e w1 ⟨rfl, hb1⟩
    have HB1 := Lib.hid hb1
    have HA1 := Lib.hid (HA.out.later hb1)
    clear hb1
    go_wp2_with fail
    refine (commands_any es A es.length cap w1 HA1.out h60).mono ?_
    rintro e w2 ⟨v1, rfl, hown1, hb2⟩
    obtain ⟨V1, c1, hv1, hS1, _⟩ := owns_strs hown1
    subst hv1
    have HB2 := Lib.hid (HB1.out.trans (hb2.mono HB1.out.size))
    have HA2 := Lib.hid (HA1.out.later hb2)
    have HS1 := Lib.hid hS1
    clear hown1 hb2 hS1
    go_wp2_with fail
    refine (refCommands_any es A es.length cap w2 HA2.out h60).mono ?_
    rintro e w3 ⟨v2, rfl, hown2, hb3⟩
    obtain ⟨V2, c2, hv2, hS2, _⟩ := owns_strs hown2
    subst hv2
    have HB3 := Lib.hid (HB2.out.trans (hb3.mono HB2.out.size))
    have HA3 := Lib.hid (HA2.out.later hb3)
    have HS1' := Lib.hid (show Strs w3 w3.heap.size V1 (cmdsTo es es.length).length (cmdsTo es es.length) from ⟨rfl, fun h0 => by
      obtain ⟨b, off, e, hb, hc⟩ := (HS1.out.below hb3).2 h0
      exact ⟨b, off, e, Nat.lt_of_lt_of_le hb hb3.size, hc⟩⟩)
    have HS2 := Lib.hid hS2
    have hcl := cmdsTo_length es es.length
    clear hown2 hb3 hS2
    generalize cmdsTo es es.length = cs at *
    go_wp2_with fail
    refine (texts_any cs V1 V2 c1 c2 w3 HS1'.out HS2.out (by omega)).mono ?_
    rintro e w4 ⟨rfl, hb4⟩
    have HB4 := Lib.hid (HB3.out.trans (hb4.mono HB3.out.size))
    have HA4 := Lib.hid (HA3.out.later hb4)
    clear hb4
    go_wp2_with fail
    refine (output_any es A es.length cap pid w4 HA4.out h60 hz).mono ?_
    rintro e w5 ⟨rfl, hb5⟩
    have HB5 := Lib.hid (HB4.out.trans (hb5.mono HB4.out.size))
    have HA5 := Lib.hid (HA4.out.later hb5)
    clear hb5
    go_wp2_with fail
    refine (refOutput_any es A es.length cap pid w5 HA5.out h60 hz).mono ?_
    rintro e w6 ⟨rfl, hb6⟩
    have HB6 := Lib.hid (HB5.out.trans (hb6.mono HB5.out.size))
    have HA6 := Lib.hid (HA5.out.later hb6)
    clear hb6
    generalize (⟨(outTo es pid es.length).toArray⟩ : ByteArray) = r at *
    go_wp2_with fail
    refine (check_any es A es.length cap w6 HA6.out h60 HI.out).mono ?_
    rintro e w7 ⟨rfl, hb7⟩
    have HB7 := Lib.hid (HB6.out.trans (hb7.mono HB6.out.size))
    have HA7 := Lib.hid (HA6.out.later hb7)
    clear hb7
    go_wp2_with fail
    refine (refCheck_any es A es.length cap w7 HA7.out h60).mono ?_
    rintro e w8 ⟨rfl, hb8⟩
    have HB8 := Lib.hid (HB7.out.trans (hb8.mono HB7.out.size))
    clear hb8
    generalize checkF es [2] [] = ck at *
    go_wp2_with fail
    refine (HE.out _).mono ?_
    rintro e w9 ⟨rfl, hb9⟩
    have HB9 := Lib.hid (HB8.out.trans (hb9.mono HB8.out.size))
    clear hb9
    go_wp2_with fail
    go_ret
    exact ⟨rfl, HB9.out⟩

end Go.Proofs.YtakejcabekdhcaaGreatDoor
