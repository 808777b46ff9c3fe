/- GetoptsSilent: the walk of the law. -/
import Derived.Test.YtkenicdcelhdcaaW13
namespace Go.Proofs.Ytkenicdcelhdcaa
open Go.RowKit

theorem colonL_of (s : ByteArray) : colonL s.data.toList = colon s := rfl

theorem mu_small {ss : List ByteArray} (hn : ss.length ≤ 30) (hz : ∀ s ∈ ss, s.size ≤ 40) : mu (bytesOf' ss) (1, 0) ≤ 1230 := by
  have h1 := weight_le (bytesOf' ss) 40 (by
    intro a ha
    simp only [bytesOf', List.mem_map] at ha
    obtain ⟨s, hs, rfl⟩ := ha
    rw [← Lib.size_eq]; exact hz s hs)
  rw [bytes_len] at h1
  have h2 : mu (bytesOf' ss) (1, 0) = weight (bytesOf' ss) := by simp [mu]
  have h3 : ss.length * (40 + 1) ≤ 30 * 41 := Nat.mul_le_mul hn (Nat.le_refl _)
  omega

theorem all_len {spec : Bs} {args : List Bs} (n : Nat) (h : mu args (1, 0) ≤ n) : (allS spec args).1.length ≤ n := by
  by_cases hv : validS spec = 0
  · rw [allS_eq hv]
    have := runS_len (args := args) hv _ (1, 0) (inR_start _) (Nat.le_refl _)
    simp only []
    omega
  · rw [allS, if_pos hv]; simp

/-- The two lists of the law. -/
theorem all_sil {spec : Bs} (h : colonL spec = false) (args : List Bs) : (allS spec args).2 = (allS (58 :: spec) args).2 ∧ (allS spec args).1.length = (allS (58 :: spec) args).1.length ∧
    ∀ k (h1 : k < (allS spec args).1.length) (h2 : k < (allS (58 :: spec) args).1.length), Sil (allS spec args).1[k] (allS (58 :: spec) args).1[k] := by
  by_cases hv : validS spec = 0
  · have hv2 : validS (58 :: spec) = 0 := by rw [valid_colon h]; exact hv
    obtain ⟨h1, h2, h3⟩ := run_sil h (args := args) hv _ (1, 0) (inR_start _) (Nat.le_refl _)
    rw [allS_eq hv, allS_eq hv2]
    exact ⟨by simp only []; rw [h1], h2, h3⟩
  · have hv2 : validS (58 :: spec) ≠ 0 := by rw [valid_colon h]; exact hv
    rw [allS, if_pos hv, allS, if_pos hv2]
    exact ⟨by rw [valid_colon h], rfl, fun k h1 => by simp at h1⟩

set_option maxRecDepth 100000 in
set_option maxHeartbeats 2000000 in
theorem law_silent_small (spec : ByteArray) (ss : List ByteArray) (A : Option Addr) (n cap : Nat) (w : World) (hA : Strs w w.heap.size A n ss) (hs : spec.size ≤ 40) (hsh : shB ss = true) (hcol : colon spec = false) :
    Calls Try.prog 8 #[.string spec, .slice A n cap] w fun e w' => e = .returned (.bool true) ∧ Below w.heap.size w w' := by
  have hsh' := shB_true hsh
  have hn : n ≤ 12 := by rw [hA.1]; exact hsh'.1
  have hz : ∀ s ∈ ss, s.size ≤ 40 := hsh'.2
  have hz1 : ∀ s ∈ ss, s.size ≤ 1000 := fun s h => by have := hz s h; omega
  have hmu := mu_small (ss := ss) (by have := hsh'.1; omega) hz
  have hS := Lib.hid (small_any spec ss A n cap w hA (by unfold maxLen; omega) (fun s h => by have := hz s h; unfold maxLen; omega) (by unfold maxLen; omega))
  rw [show smB spec ss = true by simp [smB, hs, hsh]] at hS
  have hAll := Lib.hid (all_any spec ss A n cap w hA (by omega) hz1 (by omega) (by omega))
  have hAll2 := Lib.hid (fun W (hW : Below w.heap.size w W) => all_any (⟨#[58]⟩ ++ spec) ss A n cap W ((hA.below hW).more hW.size) (by omega) hz1 (by rw [Lib.size_eq, Joins.data_append]; simp; rw [Lib.size_eq] at hs; simp at hs; omega) (by omega))
  have e58 : ((⟨#[58]⟩ : ByteArray) ++ spec).data.toList = 58 :: spec.data.toList := by rw [Joins.data_append]; rfl
  rw [e58] at hAll2
  have hsil := all_sil (spec := spec.data.toList) (by rw [colonL_of]; exact hcol) (bytesOf' ss)
  have hlen := all_len (spec := spec.data.toList) (args := bytesOf' ss) 1230 hmu
  have hcases : (∃ _ : 1 ≤ spec.size, ((spec[0].toNat : Int) == 58) = false) ∨ ¬ 1 ≤ spec.size := by
    by_cases h1 : 1 ≤ spec.size
    · exact Or.inl ⟨h1, by rw [colon_at h1]; exact hcol⟩
    · exact Or.inr h1
  clear hA hz hz1 hsh hsh' hmu e58 hcol
  generalize allS spec.data.toList (bytesOf' ss) = r1 at *
  generalize allS (58 :: spec.data.toList) (bytesOf' ss) = r2 at *
  obtain ⟨l, k1, e1⟩ := r1
  obtain ⟨m, k2, e2⟩ := r2
  simp only [Prod.mk.injEq] at hsil hlen
  obtain ⟨⟨rfl, rfl⟩, hlm, hsil⟩ := hsil
  have Hsil := Lib.hid hsil
  have Hlm := Lib.hid hlm
  clear hsil hlm
  rcases hcases with ⟨h1, h58⟩ | h1
  all_goals
    go_enter Try.func8, Try.ntmps8
    go_wp2_with (go_at_call 12; refine (hS.out).mono ?_; rintro e w' ⟨rfl, rfl⟩)
    refine (hAll.out).mono ?_
    rintro e w1 ⟨v1, rfl, hown1, hb1⟩
    obtain ⟨V1, cap1, hv1, hV1⟩ := owns_opts hown1
    rw [hv1]
    have Hb1 := Lib.hid hb1
    have HV1 := Lib.hid hV1
    clear hv1 hown1 hb1 hV1
    simp only []
    go_wp2_with fail
    refine (hAll2.out _ Hb1.out).mono ?_
    rintro e w2 ⟨v2, rfl, hown2, hb2⟩
    obtain ⟨V2, cap2, hv2, hV2⟩ := owns_opts hown2
    rw [hv2]
    simp only []
    rw [← Hlm.out]
    have HV1' := Lib.hid (HV1.out.later hb2)
    have HV2 := Lib.hid hV2
    have HB := Lib.hid (Hb1.out.trans (hb2.mono Hb1.out.size))
    clear hv2 hown2 hb2 hV2
    go_wp2_with fail
    go_loopw [11] (fun i wr => ∃ k : Nat, k ≤ l.length ∧ i = .int .i64 k ∧ Hid (Below w2.heap.size w2 wr)) (fun i _ => l.length - (intOf i).toNat)
    case atStart => exact ⟨0, Nat.zero_le _, rfl, Below.refl _ _⟩
    case round =>
      obtain ⟨k, hk, rfl, Hb⟩ := hrel
      by_cases hkl : k < l.length
      · have hkm : k < m.length := by have := Hlm.out; omega
        obtain ⟨s1, s2, s3⟩ := Hsil.out k hkl hkm
        obtain ⟨L1, G1, M1, hx1⟩ := opt_bytes l[k]
        obtain ⟨L2, G2, M2, hx2⟩ := opt_bytes m[k]
        have hM2 : M2 = ⟨#[]⟩ := by
          rw [hx2] at s1
          exact Go.WideShapes.bytes_inj s1
        subst hM2
        have p1 : (k : Int) < (l.length : Int) := by omega
        have p2 : (0 : Int) ≤ (k : Int) := by omega
        rcases s3 with ⟨t1, t2⟩ | ⟨t1, t2, t3⟩
        · rw [t1] at hx1
          have hx2' : m[k] = ⟨L1.data.toList, G1.data.toList, 0, (⟨#[]⟩ : ByteArray).data.toList⟩ := by rw [← t2, hx1]; rw [← t2, hx1] at s1; simp only [] at s1; rw [s1]
          have hx1' : l[k] = ⟨L1.data.toList, G1.data.toList, 0, (⟨#[]⟩ : ByteArray).data.toList⟩ := by rw [t2]; exact hx2'
          obtain ⟨g, hV, hg, a0, a1, a2, a3⟩ := (HV1'.out.later Hb.out).at_ hkl hx1'
          obtain ⟨g', hV', hg', b0, b1, b2, b3⟩ := (HV2.out.later Hb.out).at_ hkm hx2'
          clear hx1 hx2 hx1' hx2' s1 s2 t1 t2
          rw [hV, hV']
          clear hV hV'
          go_wp2
          go_quiet (fail)
          go_wp2
          exact ⟨⟨k + 1, by omega, by go_num, below_drewN Hb.out _⟩, by simp [intOf]; omega⟩
        · have t4 : m[k].status = 2 := by rw [← s2]; exact t1
          rw [t1] at hx1
          rw [t4] at hx2
          obtain ⟨g, hV, hg, a0, a1, a2, a3⟩ := (HV1'.out.later Hb.out).at_ hkl hx1
          obtain ⟨g', hV', hg', b0, b1, b2, b3⟩ := (HV2.out.later Hb.out).at_ hkm hx2
          have hM1 : M1.toList.isEmpty = false := by
            rw [hx1] at t2
            simp only [] at t2
            rw [Lib.toList_data]
            cases h : M1.data.toList with
            | nil => exact absurd h t2
            | cons _ _ => rfl
          have hG2 : G2.size = 1 := by
            rw [hx2] at t3
            rw [Lib.size_eq]; exact t3
          clear hx1 hx2 s1 s2 t1 t2 t3 t4
          rw [hV, hV']
          clear hV hV'
          go_wp2
          go_quiet (fail)
          go_wp2
          exact ⟨⟨k + 1, by omega, by go_num, below_drewN Hb.out _⟩, by simp [intOf]; omega⟩
      · go_wp2_with (go_at_call 9; refine (awake_any _).mono ?_; rintro e' w3 ⟨rfl, hb3⟩; have Hb3 := Lib.hid hb3; clear hb3)
        go_ret
        have h2 := HB.out.trans (Hb.out.mono HB.out.size)
        exact ⟨rfl, h2.trans (Hb3.out.mono h2.size)⟩

end Go.Proofs.Ytkenicdcelhdcaa
