/- jobshellref16.Next: the steps, part 3 of 4: what the call returns. -/
import Derived.Test.YtkenicdcelhdcaaR1
namespace Go.Proofs.Ytkenicdcelhdcaa
open Go.RowKit

set_option maxRecDepth 100000 in
set_option maxHeartbeats 2000000 in
theorem ref_later_alone_end (spec : ByteArray) (ss : List ByteArray) (A : Option Addr) (n cap : Nat) (w : World) (hA : Strs w w.heap.size A n ss) (hn : n ≤ 100) (hz : ∀ s ∈ ss, s.size ≤ 1000) (hs : spec.size ≤ 100)
    (hv : validS spec.data.toList = 0) (Lp : List (UInt8 × Bool)) (hLp : ps (body spec.data.toList) = some Lp) (k : Nat) (hkn : k < n) (at_ : Nat) (hat1 : 1 ≤ at_) (hatl : at_ < ((bytesOf' ss).getD k []).length)
    (hf : find Lp (((bytesOf' ss).getD k []).getD at_ 0) = some false) (hre : ((bytesOf' ss).getD k []).drop (at_ + 1) = []) (r : OptR × (Int × Int) × Int) (hr : nextS spec.data.toList (bytesOf' ss) ((k : Int) + 1) (at_ : Int) = r) :
    Calls Try.prog 14 #[.string spec, .slice A n cap, .agg #[.int .i64 ((k : Int) + 1), .int .i64 (at_ : Int)]] w fun e w' =>
      e = .returned (.tuple #[optV r.1, stV r.2.1, .int .i64 r.2.2]) ∧ Below w.heap.size w w' := by
  have hkl : k < ss.length := by have := hA.1; omega
  obtain ⟨b0, off0, rfl, hb0, hc0⟩ := hA.2 (by omega)
  have hcell := hc0 k hkl
  have hwd : wordOf (bytesOf' ss) ((k : Int) + 1) = ss[k].data.toList := by
    rw [wordOf, if_pos (by rw [bytes_len, ← hA.1]; omega), show ((k : Int) + 1 - 1).toNat = k by omega, bytes_get ss k hkl]
  have hwz := hz _ (List.getElem_mem hkl)
  rw [bytes_get ss k hkl] at hatl hf hre
  have hat : at_ < ss[k].size := by rw [Lib.size_eq]; omega
  obtain ⟨c, hl1, hc, hlc⟩ := letter_facts ss[k] at_ hat
  rw [hc] at hf
  have hrest : (ss[k].extract (at_ + 1) ss[k].size).data.toList = ss[k].data.toList.drop (at_ + 1) := Lib.extract_to_end _ _
  have hcat : ss[k][at_] = c := by
    rw [List.getD_eq_getElem?_getD, List.getElem?_eq_getElem (by rw [← Lib.size_eq]; exact hat)] at hc
    exact hc
  have hlen : (n : Int) = ((bytesOf' ss).length : Int) := by rw [bytes_len, ← hA.1]
  have hkl' : k < (bytesOf' ss).length := by rw [bytes_len]; exact hkl
  have hfc := hf
  rw [← hc] at hf
  have Hfin : Hid (r = (⟨(ss[k].extract at_ (at_ + 1)).data.toList, (⟨#[]⟩ : ByteArray).data.toList, 0, (⟨#[]⟩ : ByteArray).data.toList⟩, (((k : Int) + 1 + 1), 0), 0)) := by
    show _ = _
    rw [← hr, next_later_eq hv hkl' (bytes_get ss k hkl) hat1 hatl, sv_alone hLp hf, hlc]
    simp only [hc]
    simp [hre]
  clear hf hkl'
  have hR := Lib.hid (fun W => refValid_any spec W hs)
  rw [hv] at hR
  have hF := Lib.hid (fun W => find_any spec c Lp W hs hLp)
  rw [hfc] at hF
  rw [← hcat] at hF
  have hwsz : ss[k].size ≤ 1000 := hwz
  have Hl1 := Lib.hid hl1
  have ho0 : ((at_ : Int) == 0) = false := by rw [beq_eq_false_iff_ne]; omega
  have ho5 : decide ((at_ : Int) < 0) = false := decide_eq_false (by omega)
  have ho6 : decide (0 < at_) = true := decide_eq_true (by omega)
  have ho7 : decide (n < k + 1) = false := decide_eq_false (by omega)
  have ho1 : decide ((0 : Int) < (at_ : Int)) = true := by simp; omega
  have ho2 : decide ((n : Int) < (k : Int) + 1) = false := by simp; omega
  have ho3 : decide ((ss[k].size : Int) ≤ (at_ : Int)) = false := by simp; omega
  have ho4 : decide (ss[k].size ≤ at_) = false := by simp; omega
  have q1 : (0 : Int) ≤ (at_ : Int) := by omega
  have q2 : (at_ : Int) < (ss[k].size : Int) := by omega
  have hr1 : ¬ at_ + 1 < ss[k].size := by
    rw [Lib.size_eq]; intro h
    have := congrArg List.length hre
    simp only [List.length_drop, List.length_nil] at this
    omega
  have hcolc : (∃ _ : 1 ≤ spec.size, ((spec[0].toNat : Int) == 58) = colon spec) ∨ (¬ 1 ≤ spec.size ∧ colon spec = false) := by
    by_cases h1 : 1 ≤ spec.size
    · exact Or.inl ⟨h1, colon_at h1⟩
    · refine Or.inr ⟨h1, ?_⟩
      cases hc : colon spec with
      | false => rfl
      | true => exact absurd (colon_pos hc) h1
  clear hr hlc hrest hfc hre hwd hc hlen hv hLp hz hA hc0 hwz hl1 hatl  
  generalize ss[k] = word at *
  clear hkl hcat
  have p1 : (0 : Int) ≤ (k : Int) := by omega
  have p2 : (k : Int) < (n : Int) := by omega
  have p3 : decide ((k : Int) + 1 < 1) = false := by simp; omega
  have q9 : IntKind.i64.wrap (k : Int) = (k : Int) := IntWalk.i64_in _ (by omega)
  rcases hcolc with ⟨h1c, hcc⟩ | ⟨h1c, hcc⟩
  all_goals
    generalize colon spec = colb at *
    go_enter Try.func14, Try.ntmps14
    go_wp2_with (go_at_call 11; refine (hR.out _).mono ?_; rintro e w1 ⟨rfl, hb1⟩; have Hb1 := Lib.hid (below3 hb1); have HF1 := Lib.hid ((Fr.start w _ _ _ _ _ _ _ _).later hb1); obtain ⟨c0, c1, d0, d1, d2, d3, e0, e1, f1, g0, g1, g2, g3, h0, h1, sz⟩ := HF1.out; have hcl := (Hb1.out.cell (p := ⟨b0, off0 + k, none⟩) hb0).trans hcell; clear hb1)
    go_quiet (fail)
    clear q9
    have HFq := Lib.hid (HF1.out.later (below_drewN (Below.refl _ _) nq))
    have Hbq := Lib.hid (below_drewN Hb1.out nq)
    clear c0 c1 d0 d1 d2 d3 e0 e1 f1 g0 g1 g2 g3 h0 h1 sz hcl HF1 Hb1
    generalize w1.drewN nq = wq at *
    obtain ⟨c0, c1, d0, d1, d2, d3, e0, e1, f1, g0, g1, g2, g3, h0, h1, sz⟩ := HFq.out
    have hcl := (Hbq.out.cell (p := ⟨b0, off0 + k, none⟩) hb0).trans hcell
    have l0 : w.heap.size < wq.heap.size := by omega
    have l1 : w.heap.size + 1 < wq.heap.size := by omega
    have lb : b0 < wq.heap.size := by omega
    go_wp2_with (go_at_call 24; refine (hF.out _).mono ?_; rintro e w2 ⟨rfl, hb2⟩; have Hb2 := Lib.hid (ref_b2 Hbq.out hb2 Hbq.out.size); have HF2 := Lib.hid (HFq.out.later (ref_b1 hb2)); have HX := Lib.hid (ref_x hb2); clear c0 c1 d0 d1 d2 d3 e0 e1 f1 g0 g1 g2 g3 h0 h1 hcl; obtain ⟨c0, c1, d0, d1, d2, d3, e0, e1, f1, g0, g1, g2, g3, h0, h1, sz2⟩ := HF2.out; obtain ⟨x0, x1, y0, y1, szx⟩ := HX.out; clear hb2)
    go_region
    go_wp2
    refine bodyPost_ret (v := .tuple #[.agg #[.string (word.extract at_ (at_ + 1)), .string (⟨#[]⟩ : ByteArray), .int .i64 0, .string (⟨#[]⟩ : ByteArray)], .agg #[.int .i64 ((k : Int) + 1 + 1), .int .i64 0], .int .i64 0]) (by simp [results, Try.results14, go_sem, d0, d1, d2, d3, e0, e1]) rfl ⟨fin3_eq Hfin.out, ?_⟩
    exact (below_set6 Hb2.out _ _ _ _ _ _).drew

set_option maxRecDepth 100000 in
set_option maxHeartbeats 2000000 in
theorem ref_later_alone_mid (spec : ByteArray) (ss : List ByteArray) (A : Option Addr) (n cap : Nat) (w : World) (hA : Strs w w.heap.size A n ss) (hn : n ≤ 100) (hz : ∀ s ∈ ss, s.size ≤ 1000) (hs : spec.size ≤ 100)
    (hv : validS spec.data.toList = 0) (Lp : List (UInt8 × Bool)) (hLp : ps (body spec.data.toList) = some Lp) (k : Nat) (hkn : k < n) (at_ : Nat) (hat1 : 1 ≤ at_) (hatl : at_ < ((bytesOf' ss).getD k []).length)
    (hf : find Lp (((bytesOf' ss).getD k []).getD at_ 0) = some false) (hre : ((bytesOf' ss).getD k []).drop (at_ + 1) ≠ []) (r : OptR × (Int × Int) × Int) (hr : nextS spec.data.toList (bytesOf' ss) ((k : Int) + 1) (at_ : Int) = r) :
    Calls Try.prog 14 #[.string spec, .slice A n cap, .agg #[.int .i64 ((k : Int) + 1), .int .i64 (at_ : Int)]] w fun e w' =>
      e = .returned (.tuple #[optV r.1, stV r.2.1, .int .i64 r.2.2]) ∧ Below w.heap.size w w' := by
  have hkl : k < ss.length := by have := hA.1; omega
  obtain ⟨b0, off0, rfl, hb0, hc0⟩ := hA.2 (by omega)
  have hcell := hc0 k hkl
  have hwd : wordOf (bytesOf' ss) ((k : Int) + 1) = ss[k].data.toList := by
    rw [wordOf, if_pos (by rw [bytes_len, ← hA.1]; omega), show ((k : Int) + 1 - 1).toNat = k by omega, bytes_get ss k hkl]
  have hwz := hz _ (List.getElem_mem hkl)
  rw [bytes_get ss k hkl] at hatl hf hre
  have hat : at_ < ss[k].size := by rw [Lib.size_eq]; omega
  obtain ⟨c, hl1, hc, hlc⟩ := letter_facts ss[k] at_ hat
  rw [hc] at hf
  have hrest : (ss[k].extract (at_ + 1) ss[k].size).data.toList = ss[k].data.toList.drop (at_ + 1) := Lib.extract_to_end _ _
  have hcat : ss[k][at_] = c := by
    rw [List.getD_eq_getElem?_getD, List.getElem?_eq_getElem (by rw [← Lib.size_eq]; exact hat)] at hc
    exact hc
  have hlen : (n : Int) = ((bytesOf' ss).length : Int) := by rw [bytes_len, ← hA.1]
  have hkl' : k < (bytesOf' ss).length := by rw [bytes_len]; exact hkl
  have hfc := hf
  rw [← hc] at hf
  have Hfin : Hid (r = (⟨(ss[k].extract at_ (at_ + 1)).data.toList, (⟨#[]⟩ : ByteArray).data.toList, 0, (⟨#[]⟩ : ByteArray).data.toList⟩, (((k : Int) + 1), ((at_ : Int) + 1)), 0)) := by
    show _ = _
    rw [← hr, next_later_eq hv hkl' (bytes_get ss k hkl) hat1 hatl, sv_alone hLp hf, hlc]
    simp only [hc]
    simp [hre]
  clear hf hkl'
  have hR := Lib.hid (fun W => refValid_any spec W hs)
  rw [hv] at hR
  have hF := Lib.hid (fun W => find_any spec c Lp W hs hLp)
  rw [hfc] at hF
  rw [← hcat] at hF
  have hwsz : ss[k].size ≤ 1000 := hwz
  have Hl1 := Lib.hid hl1
  have ho0 : ((at_ : Int) == 0) = false := by rw [beq_eq_false_iff_ne]; omega
  have ho5 : decide ((at_ : Int) < 0) = false := decide_eq_false (by omega)
  have ho6 : decide (0 < at_) = true := decide_eq_true (by omega)
  have ho7 : decide (n < k + 1) = false := decide_eq_false (by omega)
  have ho1 : decide ((0 : Int) < (at_ : Int)) = true := by simp; omega
  have ho2 : decide ((n : Int) < (k : Int) + 1) = false := by simp; omega
  have ho3 : decide ((ss[k].size : Int) ≤ (at_ : Int)) = false := by simp; omega
  have ho4 : decide (ss[k].size ≤ at_) = false := by simp; omega
  have q1 : (0 : Int) ≤ (at_ : Int) := by omega
  have q2 : (at_ : Int) < (ss[k].size : Int) := by omega
  have hr1 : at_ + 1 < ss[k].size := by
    rw [Lib.size_eq]
    rcases Nat.lt_or_ge (at_ + 1) ss[k].data.toList.length with h | h
    · exact h
    · exact absurd (List.drop_of_length_le h) hre
  have hcolc : (∃ _ : 1 ≤ spec.size, ((spec[0].toNat : Int) == 58) = colon spec) ∨ (¬ 1 ≤ spec.size ∧ colon spec = false) := by
    by_cases h1 : 1 ≤ spec.size
    · exact Or.inl ⟨h1, colon_at h1⟩
    · refine Or.inr ⟨h1, ?_⟩
      cases hc : colon spec with
      | false => rfl
      | true => exact absurd (colon_pos hc) h1
  clear hr hlc hrest hfc hre hwd hc hlen hv hLp hz hA hc0 hwz hl1 hatl  
  generalize ss[k] = word at *
  clear hkl hcat
  have p1 : (0 : Int) ≤ (k : Int) := by omega
  have p2 : (k : Int) < (n : Int) := by omega
  have p3 : decide ((k : Int) + 1 < 1) = false := by simp; omega
  have q9 : IntKind.i64.wrap (k : Int) = (k : Int) := IntWalk.i64_in _ (by omega)
  rcases hcolc with ⟨h1c, hcc⟩ | ⟨h1c, hcc⟩
  all_goals
    generalize colon spec = colb at *
    go_enter Try.func14, Try.ntmps14
    go_wp2_with (go_at_call 11; refine (hR.out _).mono ?_; rintro e w1 ⟨rfl, hb1⟩; have Hb1 := Lib.hid (below3 hb1); have HF1 := Lib.hid ((Fr.start w _ _ _ _ _ _ _ _).later hb1); obtain ⟨c0, c1, d0, d1, d2, d3, e0, e1, f1, g0, g1, g2, g3, h0, h1, sz⟩ := HF1.out; have hcl := (Hb1.out.cell (p := ⟨b0, off0 + k, none⟩) hb0).trans hcell; clear hb1)
    go_quiet (fail)
    clear q9
    have HFq := Lib.hid (HF1.out.later (below_drewN (Below.refl _ _) nq))
    have Hbq := Lib.hid (below_drewN Hb1.out nq)
    clear c0 c1 d0 d1 d2 d3 e0 e1 f1 g0 g1 g2 g3 h0 h1 sz hcl HF1 Hb1
    generalize w1.drewN nq = wq at *
    obtain ⟨c0, c1, d0, d1, d2, d3, e0, e1, f1, g0, g1, g2, g3, h0, h1, sz⟩ := HFq.out
    have hcl := (Hbq.out.cell (p := ⟨b0, off0 + k, none⟩) hb0).trans hcell
    have l0 : w.heap.size < wq.heap.size := by omega
    have l1 : w.heap.size + 1 < wq.heap.size := by omega
    have lb : b0 < wq.heap.size := by omega
    go_wp2_with (go_at_call 24; refine (hF.out _).mono ?_; rintro e w2 ⟨rfl, hb2⟩; have Hb2 := Lib.hid (ref_b2 Hbq.out hb2 Hbq.out.size); have HF2 := Lib.hid (HFq.out.later (ref_b1 hb2)); have HX := Lib.hid (ref_x hb2); clear c0 c1 d0 d1 d2 d3 e0 e1 f1 g0 g1 g2 g3 h0 h1 hcl; obtain ⟨c0, c1, d0, d1, d2, d3, e0, e1, f1, g0, g1, g2, g3, h0, h1, sz2⟩ := HF2.out; obtain ⟨x0, x1, y0, y1, szx⟩ := HX.out; clear hb2)
    go_region
    go_wp2
    refine bodyPost_ret (v := .tuple #[.agg #[.string (word.extract at_ (at_ + 1)), .string (⟨#[]⟩ : ByteArray), .int .i64 0, .string (⟨#[]⟩ : ByteArray)], .agg #[.int .i64 ((k : Int) + 1), .int .i64 ((at_ : Int) + 1)], .int .i64 0]) (by simp [results, Try.results14, go_sem, d0, d1, d2, d3, e0, e1]) rfl ⟨fin3_eq Hfin.out, ?_⟩
    exact (below_set6 (below_x Hb2.out Hbq.out.size _ _) _ _ _ _ _ _).drew

set_option maxRecDepth 100000 in
set_option maxHeartbeats 2000000 in
theorem ref_later_attached_mid (spec : ByteArray) (ss : List ByteArray) (A : Option Addr) (n cap : Nat) (w : World) (hA : Strs w w.heap.size A n ss) (hn : n ≤ 100) (hz : ∀ s ∈ ss, s.size ≤ 1000) (hs : spec.size ≤ 100)
    (hv : validS spec.data.toList = 0) (Lp : List (UInt8 × Bool)) (hLp : ps (body spec.data.toList) = some Lp) (k : Nat) (hkn : k < n) (at_ : Nat) (hat1 : 1 ≤ at_) (hatl : at_ < ((bytesOf' ss).getD k []).length)
    (hf : find Lp (((bytesOf' ss).getD k []).getD at_ 0) = some true) (hre : ((bytesOf' ss).getD k []).drop (at_ + 1) ≠ []) (r : OptR × (Int × Int) × Int) (hr : nextS spec.data.toList (bytesOf' ss) ((k : Int) + 1) (at_ : Int) = r) :
    Calls Try.prog 14 #[.string spec, .slice A n cap, .agg #[.int .i64 ((k : Int) + 1), .int .i64 (at_ : Int)]] w fun e w' =>
      e = .returned (.tuple #[optV r.1, stV r.2.1, .int .i64 r.2.2]) ∧ Below w.heap.size w w' := by
  have hkl : k < ss.length := by have := hA.1; omega
  obtain ⟨b0, off0, rfl, hb0, hc0⟩ := hA.2 (by omega)
  have hcell := hc0 k hkl
  have hwd : wordOf (bytesOf' ss) ((k : Int) + 1) = ss[k].data.toList := by
    rw [wordOf, if_pos (by rw [bytes_len, ← hA.1]; omega), show ((k : Int) + 1 - 1).toNat = k by omega, bytes_get ss k hkl]
  have hwz := hz _ (List.getElem_mem hkl)
  rw [bytes_get ss k hkl] at hatl hf hre
  have hat : at_ < ss[k].size := by rw [Lib.size_eq]; omega
  obtain ⟨c, hl1, hc, hlc⟩ := letter_facts ss[k] at_ hat
  rw [hc] at hf
  have hrest : (ss[k].extract (at_ + 1) ss[k].size).data.toList = ss[k].data.toList.drop (at_ + 1) := Lib.extract_to_end _ _
  have hcat : ss[k][at_] = c := by
    rw [List.getD_eq_getElem?_getD, List.getElem?_eq_getElem (by rw [← Lib.size_eq]; exact hat)] at hc
    exact hc
  have hlen : (n : Int) = ((bytesOf' ss).length : Int) := by rw [bytes_len, ← hA.1]
  have hkl' : k < (bytesOf' ss).length := by rw [bytes_len]; exact hkl
  have hfc := hf
  rw [← hc] at hf
  have Hfin : Hid (r = (⟨(ss[k].extract at_ (at_ + 1)).data.toList, (ss[k].extract (at_ + 1) ss[k].size).data.toList, 0, (⟨#[]⟩ : ByteArray).data.toList⟩, (((k : Int) + 1 + 1), 0), 0)) := by
    show _ = _
    rw [← hr, next_later_eq hv hkl' (bytes_get ss k hkl) hat1 hatl, sv_attached hLp hf hre, hlc, hrest]
    simp only [hc]
  clear hf hkl'
  have hR := Lib.hid (fun W => refValid_any spec W hs)
  rw [hv] at hR
  have hF := Lib.hid (fun W => find_any spec c Lp W hs hLp)
  rw [hfc] at hF
  rw [← hcat] at hF
  have hwsz : ss[k].size ≤ 1000 := hwz
  have Hl1 := Lib.hid hl1
  have ho0 : ((at_ : Int) == 0) = false := by rw [beq_eq_false_iff_ne]; omega
  have ho5 : decide ((at_ : Int) < 0) = false := decide_eq_false (by omega)
  have ho6 : decide (0 < at_) = true := decide_eq_true (by omega)
  have ho7 : decide (n < k + 1) = false := decide_eq_false (by omega)
  have ho1 : decide ((0 : Int) < (at_ : Int)) = true := by simp; omega
  have ho2 : decide ((n : Int) < (k : Int) + 1) = false := by simp; omega
  have ho3 : decide ((ss[k].size : Int) ≤ (at_ : Int)) = false := by simp; omega
  have ho4 : decide (ss[k].size ≤ at_) = false := by simp; omega
  have q1 : (0 : Int) ≤ (at_ : Int) := by omega
  have q2 : (at_ : Int) < (ss[k].size : Int) := by omega
  have hr1 : at_ + 1 < ss[k].size := by
    rw [Lib.size_eq]
    rcases Nat.lt_or_ge (at_ + 1) ss[k].data.toList.length with h | h
    · exact h
    · exact absurd (List.drop_of_length_le h) hre
  have hcolc : (∃ _ : 1 ≤ spec.size, ((spec[0].toNat : Int) == 58) = colon spec) ∨ (¬ 1 ≤ spec.size ∧ colon spec = false) := by
    by_cases h1 : 1 ≤ spec.size
    · exact Or.inl ⟨h1, colon_at h1⟩
    · refine Or.inr ⟨h1, ?_⟩
      cases hc : colon spec with
      | false => rfl
      | true => exact absurd (colon_pos hc) h1
  clear hr hlc hrest hfc hre hwd hc hlen hv hLp hz hA hc0 hwz hl1 hatl  
  generalize ss[k] = word at *
  clear hkl hcat
  have p1 : (0 : Int) ≤ (k : Int) := by omega
  have p2 : (k : Int) < (n : Int) := by omega
  have p3 : decide ((k : Int) + 1 < 1) = false := by simp; omega
  have q9 : IntKind.i64.wrap (k : Int) = (k : Int) := IntWalk.i64_in _ (by omega)
  rcases hcolc with ⟨h1c, hcc⟩ | ⟨h1c, hcc⟩
  all_goals
    generalize colon spec = colb at *
    go_enter Try.func14, Try.ntmps14
    go_wp2_with (go_at_call 11; refine (hR.out _).mono ?_; rintro e w1 ⟨rfl, hb1⟩; have Hb1 := Lib.hid (below3 hb1); have HF1 := Lib.hid ((Fr.start w _ _ _ _ _ _ _ _).later hb1); obtain ⟨c0, c1, d0, d1, d2, d3, e0, e1, f1, g0, g1, g2, g3, h0, h1, sz⟩ := HF1.out; have hcl := (Hb1.out.cell (p := ⟨b0, off0 + k, none⟩) hb0).trans hcell; clear hb1)
    go_quiet (fail)
    clear q9
    have HFq := Lib.hid (HF1.out.later (below_drewN (Below.refl _ _) nq))
    have Hbq := Lib.hid (below_drewN Hb1.out nq)
    clear c0 c1 d0 d1 d2 d3 e0 e1 f1 g0 g1 g2 g3 h0 h1 sz hcl HF1 Hb1
    generalize w1.drewN nq = wq at *
    obtain ⟨c0, c1, d0, d1, d2, d3, e0, e1, f1, g0, g1, g2, g3, h0, h1, sz⟩ := HFq.out
    have hcl := (Hbq.out.cell (p := ⟨b0, off0 + k, none⟩) hb0).trans hcell
    have l0 : w.heap.size < wq.heap.size := by omega
    have l1 : w.heap.size + 1 < wq.heap.size := by omega
    have lb : b0 < wq.heap.size := by omega
    go_wp2_with (go_at_call 24; refine (hF.out _).mono ?_; rintro e w2 ⟨rfl, hb2⟩; have Hb2 := Lib.hid (ref_b2 Hbq.out hb2 Hbq.out.size); have HF2 := Lib.hid (HFq.out.later (ref_b1 hb2)); have HX := Lib.hid (ref_x hb2); clear c0 c1 d0 d1 d2 d3 e0 e1 f1 g0 g1 g2 g3 h0 h1 hcl; obtain ⟨c0, c1, d0, d1, d2, d3, e0, e1, f1, g0, g1, g2, g3, h0, h1, sz2⟩ := HF2.out; obtain ⟨x0, x1, y0, y1, szx⟩ := HX.out; clear hb2)
    go_region
    go_wp2
    refine bodyPost_ret (v := .tuple #[.agg #[.string (word.extract at_ (at_ + 1)), .string (word.extract (at_ + 1) word.size), .int .i64 0, .string (⟨#[]⟩ : ByteArray)], .agg #[.int .i64 ((k : Int) + 1 + 1), .int .i64 0], .int .i64 0]) (by simp [results, Try.results14, go_sem, d0, d1, d2, d3, e0, e1]) rfl ⟨fin3_eq Hfin.out, ?_⟩
    exact (below_set6 Hb2.out _ _ _ _ _ _).drew

set_option maxRecDepth 100000 in
set_option maxHeartbeats 2000000 in
theorem ref_later_separate_end (spec : ByteArray) (ss : List ByteArray) (A : Option Addr) (n cap : Nat) (w : World) (hA : Strs w w.heap.size A n ss) (hn : n ≤ 100) (hz : ∀ s ∈ ss, s.size ≤ 1000) (hs : spec.size ≤ 100)
    (hv : validS spec.data.toList = 0) (Lp : List (UInt8 × Bool)) (hLp : ps (body spec.data.toList) = some Lp) (k : Nat) (_hkn : k < n) (at_ : Nat) (hat1 : 1 ≤ at_) (hatl : at_ < ((bytesOf' ss).getD k []).length)
    (hf : find Lp (((bytesOf' ss).getD k []).getD at_ 0) = some true) (hre : ((bytesOf' ss).getD k []).drop (at_ + 1) = []) (hix : k + 1 < n) (r : OptR × (Int × Int) × Int) (hr : nextS spec.data.toList (bytesOf' ss) ((k : Int) + 1) (at_ : Int) = r) :
    Calls Try.prog 14 #[.string spec, .slice A n cap, .agg #[.int .i64 ((k : Int) + 1), .int .i64 (at_ : Int)]] w fun e w' =>
      e = .returned (.tuple #[optV r.1, stV r.2.1, .int .i64 r.2.2]) ∧ Below w.heap.size w w' := by
  have hkl : k < ss.length := by have := hA.1; omega
  obtain ⟨b0, off0, rfl, hb0, hc0⟩ := hA.2 (by omega)
  have hcell := hc0 k hkl
  have hwd : wordOf (bytesOf' ss) ((k : Int) + 1) = ss[k].data.toList := by
    rw [wordOf, if_pos (by rw [bytes_len, ← hA.1]; omega), show ((k : Int) + 1 - 1).toNat = k by omega, bytes_get ss k hkl]
  have hwz := hz _ (List.getElem_mem hkl)
  rw [bytes_get ss k hkl] at hatl hf hre
  have hat : at_ < ss[k].size := by rw [Lib.size_eq]; omega
  obtain ⟨c, hl1, hc, hlc⟩ := letter_facts ss[k] at_ hat
  rw [hc] at hf
  have hrest : (ss[k].extract (at_ + 1) ss[k].size).data.toList = ss[k].data.toList.drop (at_ + 1) := Lib.extract_to_end _ _
  have hcat : ss[k][at_] = c := by
    rw [List.getD_eq_getElem?_getD, List.getElem?_eq_getElem (by rw [← Lib.size_eq]; exact hat)] at hc
    exact hc
  have hlen : (n : Int) = ((bytesOf' ss).length : Int) := by rw [bytes_len, ← hA.1]
  have hixl : k + 1 < ss.length := by have := hA.1; omega
  have hcell2 := hc0 (k + 1) hixl
  have hg2 := bytes_get ss (k + 1) hixl
  have hkl' : k < (bytesOf' ss).length := by rw [bytes_len]; exact hkl
  have hfc := hf
  rw [← hc] at hf
  have Hfin : Hid (r = (⟨(ss[k].extract at_ (at_ + 1)).data.toList, ss[k + 1].data.toList, 0, (⟨#[]⟩ : ByteArray).data.toList⟩, (((k : Int) + 1 + 2), 0), 0)) := by
    show _ = _
    rw [← hr, next_later_eq hv hkl' (bytes_get ss k hkl) hat1 hatl, sv_separate hLp hf hre (by omega), hlc]
    simp only [hc, show ((k : Int) + 1).toNat = k + 1 by omega, hg2]
  clear hf hkl'
  have hR := Lib.hid (fun W => refValid_any spec W hs)
  rw [hv] at hR
  have hF := Lib.hid (fun W => find_any spec c Lp W hs hLp)
  rw [hfc] at hF
  rw [← hcat] at hF
  have hwsz : ss[k].size ≤ 1000 := hwz
  have Hl1 := Lib.hid hl1
  have ho0 : ((at_ : Int) == 0) = false := by rw [beq_eq_false_iff_ne]; omega
  have ho5 : decide ((at_ : Int) < 0) = false := decide_eq_false (by omega)
  have ho6 : decide (0 < at_) = true := decide_eq_true (by omega)
  have ho7 : decide (n < k + 1) = false := decide_eq_false (by omega)
  have ho1 : decide ((0 : Int) < (at_ : Int)) = true := by simp; omega
  have ho2 : decide ((n : Int) < (k : Int) + 1) = false := by simp; omega
  have ho3 : decide ((ss[k].size : Int) ≤ (at_ : Int)) = false := by simp; omega
  have ho4 : decide (ss[k].size ≤ at_) = false := by simp; omega
  have q1 : (0 : Int) ≤ (at_ : Int) := by omega
  have q2 : (at_ : Int) < (ss[k].size : Int) := by omega
  have hr1 : ¬ at_ + 1 < ss[k].size := by
    rw [Lib.size_eq]; intro h
    have := congrArg List.length hre
    simp only [List.length_drop, List.length_nil] at this
    omega
  have hcolc : (∃ _ : 1 ≤ spec.size, ((spec[0].toNat : Int) == 58) = colon spec) ∨ (¬ 1 ≤ spec.size ∧ colon spec = false) := by
    by_cases h1 : 1 ≤ spec.size
    · exact Or.inl ⟨h1, colon_at h1⟩
    · refine Or.inr ⟨h1, ?_⟩
      cases hc : colon spec with
      | false => rfl
      | true => exact absurd (colon_pos hc) h1
  clear hr hlc hrest hfc hre hwd hc hlen hv hLp hz hA hc0 hwz hl1 hatl  hg2
  generalize ss[k] = word at *
  generalize ss[k + 1] = word2 at *
  clear hixl
  clear hkl hcat
  have p1 : (0 : Int) ≤ (k : Int) := by omega
  have p2 : (k : Int) < (n : Int) := by omega
  have p3 : decide ((k : Int) + 1 < 1) = false := by simp; omega
  have q9 : IntKind.i64.wrap (k : Int) = (k : Int) := IntWalk.i64_in _ (by omega)
  rcases hcolc with ⟨h1c, hcc⟩ | ⟨h1c, hcc⟩
  all_goals
    generalize colon spec = colb at *
    go_enter Try.func14, Try.ntmps14
    go_wp2_with (go_at_call 11; refine (hR.out _).mono ?_; rintro e w1 ⟨rfl, hb1⟩; have Hb1 := Lib.hid (below3 hb1); have HF1 := Lib.hid ((Fr.start w _ _ _ _ _ _ _ _).later hb1); obtain ⟨c0, c1, d0, d1, d2, d3, e0, e1, f1, g0, g1, g2, g3, h0, h1, sz⟩ := HF1.out; have hcl := (Hb1.out.cell (p := ⟨b0, off0 + k, none⟩) hb0).trans hcell; clear hb1)
    go_quiet (fail)
    clear q9
    have HFq := Lib.hid (HF1.out.later (below_drewN (Below.refl _ _) nq))
    have Hbq := Lib.hid (below_drewN Hb1.out nq)
    clear c0 c1 d0 d1 d2 d3 e0 e1 f1 g0 g1 g2 g3 h0 h1 sz hcl HF1 Hb1
    generalize w1.drewN nq = wq at *
    obtain ⟨c0, c1, d0, d1, d2, d3, e0, e1, f1, g0, g1, g2, g3, h0, h1, sz⟩ := HFq.out
    have hcl := (Hbq.out.cell (p := ⟨b0, off0 + k, none⟩) hb0).trans hcell
    have l0 : w.heap.size < wq.heap.size := by omega
    have l1 : w.heap.size + 1 < wq.heap.size := by omega
    have lb : b0 < wq.heap.size := by omega
    go_wp2_with (go_at_call 24; refine (hF.out _).mono ?_; rintro e w2 ⟨rfl, hb2⟩; have Hb2 := Lib.hid (ref_b2 Hbq.out hb2 Hbq.out.size); have HF2 := Lib.hid (HFq.out.later (ref_b1 hb2)); have HX := Lib.hid (ref_x hb2); clear c0 c1 d0 d1 d2 d3 e0 e1 f1 g0 g1 g2 g3 h0 h1 hcl; obtain ⟨c0, c1, d0, d1, d2, d3, e0, e1, f1, g0, g1, g2, g3, h0, h1, sz2⟩ := HF2.out; obtain ⟨x0, x1, y0, y1, szx⟩ := HX.out; have hcl2 := (Hb2.out.cell (p := ⟨b0, off0 + (k + 1), none⟩) hb0).trans hcell2; clear hb2)
    go_region
    go_wp2
    refine bodyPost_ret (v := .tuple #[.agg #[.string (word.extract at_ (at_ + 1)), .string word2, .int .i64 0, .string (⟨#[]⟩ : ByteArray)], .agg #[.int .i64 ((k : Int) + 1 + 2), .int .i64 0], .int .i64 0]) (by simp [results, Try.results14, go_sem, d0, d1, d2, d3, e0, e1]) rfl ⟨fin3_eq Hfin.out, ?_⟩
    exact (below_set6 Hb2.out _ _ _ _ _ _).drew

set_option maxRecDepth 100000 in
set_option maxHeartbeats 2000000 in
theorem ref_later_missing_end_silent (spec : ByteArray) (ss : List ByteArray) (A : Option Addr) (n cap : Nat) (w : World) (hA : Strs w w.heap.size A n ss) (hn : n ≤ 100) (hz : ∀ s ∈ ss, s.size ≤ 1000) (hs : spec.size ≤ 100)
    (hv : validS spec.data.toList = 0) (Lp : List (UInt8 × Bool)) (hLp : ps (body spec.data.toList) = some Lp) (k : Nat) (hkn : k < n) (at_ : Nat) (hat1 : 1 ≤ at_) (hatl : at_ < ((bytesOf' ss).getD k []).length)
    (hf : find Lp (((bytesOf' ss).getD k []).getD at_ 0) = some true) (hre : ((bytesOf' ss).getD k []).drop (at_ + 1) = []) (hix : ¬ k + 1 < n) (hcol : colon spec = true) (r : OptR × (Int × Int) × Int) (hr : nextS spec.data.toList (bytesOf' ss) ((k : Int) + 1) (at_ : Int) = r) :
    Calls Try.prog 14 #[.string spec, .slice A n cap, .agg #[.int .i64 ((k : Int) + 1), .int .i64 (at_ : Int)]] w fun e w' =>
      e = .returned (.tuple #[optV r.1, stV r.2.1, .int .i64 r.2.2]) ∧ Below w.heap.size w w' := by
  have hkl : k < ss.length := by have := hA.1; omega
  obtain ⟨b0, off0, rfl, hb0, hc0⟩ := hA.2 (by omega)
  have hcell := hc0 k hkl
  have hwd : wordOf (bytesOf' ss) ((k : Int) + 1) = ss[k].data.toList := by
    rw [wordOf, if_pos (by rw [bytes_len, ← hA.1]; omega), show ((k : Int) + 1 - 1).toNat = k by omega, bytes_get ss k hkl]
  have hwz := hz _ (List.getElem_mem hkl)
  rw [bytes_get ss k hkl] at hatl hf hre
  have hat : at_ < ss[k].size := by rw [Lib.size_eq]; omega
  obtain ⟨c, hl1, hc, hlc⟩ := letter_facts ss[k] at_ hat
  rw [hc] at hf
  have hrest : (ss[k].extract (at_ + 1) ss[k].size).data.toList = ss[k].data.toList.drop (at_ + 1) := Lib.extract_to_end _ _
  have hcat : ss[k][at_] = c := by
    rw [List.getD_eq_getElem?_getD, List.getElem?_eq_getElem (by rw [← Lib.size_eq]; exact hat)] at hc
    exact hc
  have hlen : (n : Int) = ((bytesOf' ss).length : Int) := by rw [bytes_len, ← hA.1]
  have hkl' : k < (bytesOf' ss).length := by rw [bytes_len]; exact hkl
  have hfc := hf
  rw [← hc] at hf
  have Hfin : Hid (r = (⟨(⟨#[58]⟩ : ByteArray).data.toList, (ss[k].extract at_ (at_ + 1)).data.toList, 2, (⟨#[]⟩ : ByteArray).data.toList⟩, (((k : Int) + 1 + 1), 0), 0)) := by
    show _ = _
    rw [← hr, next_later_eq hv hkl' (bytes_get ss k hkl) hat1 hatl, sv_missing hLp hf hre (by omega), hlc]
    simp only [hc]
    simp [show colonL spec.data.toList = true from hcol]
  clear hf hkl'
  have hR := Lib.hid (fun W => refValid_any spec W hs)
  rw [hv] at hR
  have hF := Lib.hid (fun W => find_any spec c Lp W hs hLp)
  rw [hfc] at hF
  rw [← hcat] at hF
  have hwsz : ss[k].size ≤ 1000 := hwz
  have Hl1 := Lib.hid hl1
  have ho0 : ((at_ : Int) == 0) = false := by rw [beq_eq_false_iff_ne]; omega
  have ho5 : decide ((at_ : Int) < 0) = false := decide_eq_false (by omega)
  have ho6 : decide (0 < at_) = true := decide_eq_true (by omega)
  have ho7 : decide (n < k + 1) = false := decide_eq_false (by omega)
  have ho1 : decide ((0 : Int) < (at_ : Int)) = true := by simp; omega
  have ho2 : decide ((n : Int) < (k : Int) + 1) = false := by simp; omega
  have ho3 : decide ((ss[k].size : Int) ≤ (at_ : Int)) = false := by simp; omega
  have ho4 : decide (ss[k].size ≤ at_) = false := by simp; omega
  have q1 : (0 : Int) ≤ (at_ : Int) := by omega
  have q2 : (at_ : Int) < (ss[k].size : Int) := by omega
  have hr1 : ¬ at_ + 1 < ss[k].size := by
    rw [Lib.size_eq]; intro h
    have := congrArg List.length hre
    simp only [List.length_drop, List.length_nil] at this
    omega
  have h1c := colon_pos hcol
  have hcc : ((spec[0].toNat : Int) == 58) = true := by rw [colon_at h1c]; exact hcol
  clear hr hlc hrest hfc hre hwd hc hlen hv hLp hz hA hc0 hwz hl1 hatl hcol 
  generalize ss[k] = word at *
  clear hkl hcat
  have p1 : (0 : Int) ≤ (k : Int) := by omega
  have p2 : (k : Int) < (n : Int) := by omega
  have p3 : decide ((k : Int) + 1 < 1) = false := by simp; omega
  have q9 : IntKind.i64.wrap (k : Int) = (k : Int) := IntWalk.i64_in _ (by omega)
  all_goals
    go_enter Try.func14, Try.ntmps14
    go_wp2_with (go_at_call 11; refine (hR.out _).mono ?_; rintro e w1 ⟨rfl, hb1⟩; have Hb1 := Lib.hid (below3 hb1); have HF1 := Lib.hid ((Fr.start w _ _ _ _ _ _ _ _).later hb1); obtain ⟨c0, c1, d0, d1, d2, d3, e0, e1, f1, g0, g1, g2, g3, h0, h1, sz⟩ := HF1.out; have hcl := (Hb1.out.cell (p := ⟨b0, off0 + k, none⟩) hb0).trans hcell; clear hb1)
    go_quiet (fail)
    clear q9
    have HFq := Lib.hid (HF1.out.later (below_drewN (Below.refl _ _) nq))
    have Hbq := Lib.hid (below_drewN Hb1.out nq)
    clear c0 c1 d0 d1 d2 d3 e0 e1 f1 g0 g1 g2 g3 h0 h1 sz hcl HF1 Hb1
    generalize w1.drewN nq = wq at *
    obtain ⟨c0, c1, d0, d1, d2, d3, e0, e1, f1, g0, g1, g2, g3, h0, h1, sz⟩ := HFq.out
    have hcl := (Hbq.out.cell (p := ⟨b0, off0 + k, none⟩) hb0).trans hcell
    have l0 : w.heap.size < wq.heap.size := by omega
    have l1 : w.heap.size + 1 < wq.heap.size := by omega
    have lb : b0 < wq.heap.size := by omega
    go_wp2_with (go_at_call 24; refine (hF.out _).mono ?_; rintro e w2 ⟨rfl, hb2⟩; have Hb2 := Lib.hid (ref_b2 Hbq.out hb2 Hbq.out.size); have HF2 := Lib.hid (HFq.out.later (ref_b1 hb2)); have HX := Lib.hid (ref_x hb2); clear c0 c1 d0 d1 d2 d3 e0 e1 f1 g0 g1 g2 g3 h0 h1 hcl; obtain ⟨c0, c1, d0, d1, d2, d3, e0, e1, f1, g0, g1, g2, g3, h0, h1, sz2⟩ := HF2.out; obtain ⟨x0, x1, y0, y1, szx⟩ := HX.out; clear hb2)
    go_region
    go_wp2
    refine bodyPost_ret (v := .tuple #[.agg #[.string (⟨#[58]⟩ : ByteArray), .string (word.extract at_ (at_ + 1)), .int .i64 2, .string (⟨#[]⟩ : ByteArray)], .agg #[.int .i64 ((k : Int) + 1 + 1), .int .i64 0], .int .i64 0]) (by simp [results, Try.results14, go_sem, d0, d1, d2, d3, e0, e1]) rfl ⟨fin3_eq Hfin.out, ?_⟩
    exact (below_set6 Hb2.out _ _ _ _ _ _).drew

end Go.Proofs.Ytkenicdcelhdcaa
