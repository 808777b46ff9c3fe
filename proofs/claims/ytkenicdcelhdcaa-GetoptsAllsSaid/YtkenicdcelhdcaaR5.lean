/- jobshellref16.All: what the call returns. -/
import Derived.Test.YtkenicdcelhdcaaR4
namespace Go.Proofs.Ytkenicdcelhdcaa
open Go.RowKit

/-- The reference's bound on the rounds, after k arguments. -/
def mst (ss : List ByteArray) (k : Nat) : Nat := ss.length + 1 + ((ss.take k).map fun s => s.size).sum

theorem mst_succ (ss : List ByteArray) (k : Nat) (hk : k < ss.length) : mst ss (k + 1) = mst ss k + ss[k].size := by
  unfold mst
  rw [List.take_succ_eq_append_getElem hk, List.map_append, List.sum_append]
  simp only [List.map_cons, List.map_nil, List.sum_cons, List.sum_nil]
  omega

theorem mst_all (ss : List ByteArray) : mst ss ss.length = mu (bytesOf' ss) (1, 0) + 1 := by
  unfold mst mu weight
  rw [List.take_length, show ((1 : Int) - 1).toNat = 0 from rfl, List.drop_zero]
  simp only [bytesOf', List.map_map, Int.toNat_zero, Nat.sub_zero]
  have : ∀ l : List ByteArray, (l.map ((fun a : Bs => a.length + 1) ∘ fun s => s.data.toList)).sum = l.length + (l.map fun s => s.size).sum := by
    intro l
    induction l with
    | nil => rfl
    | cons s r ih => simp only [List.map_cons, List.sum_cons, List.length_cons, ih, Function.comp]; rw [Lib.size_eq]; omega
  rw [this]; omega

theorem mst_le (ss : List ByteArray) (hn : ss.length ≤ 100) (hz : ∀ s ∈ ss, s.size ≤ 1000) (k : Nat) : mst ss k ≤ 200000 := by
  unfold mst
  have : ∀ l : List ByteArray, (∀ s ∈ l, s.size ≤ 1000) → (l.map fun s => s.size).sum ≤ l.length * 1000 := by
    intro l hl
    induction l with
    | nil => simp
    | cons s r ih =>
      have h1 := hl s (by simp)
      have h2 := ih fun x hx => hl x (by simp [hx])
      simp; omega
  have h := this (ss.take k) fun s hs => hz s (List.mem_of_mem_take hs)
  have hl : (ss.take k).length ≤ ss.length := by simp; omega
  omega

def MRel (ss : List ByteArray) (m i : Value) : Prop := ∃ k : Nat, k ≤ ss.length ∧ i = .int .i64 k ∧ m = .int .i64 (mst ss k : Nat)

def RRel (spec : Bs) (args : List Bs) (w : World) (g : Nat) (lv iv : Value) (wr : World) : Prop :=
  ARel spec args w g lv wr ∧ ∃ k : Nat, iv = .int .i64 k ∧ k + g ≤ mu args (1, 0)

theorem allpost_lift {w w1 w' : World} {r : List OptR × Int × Int} {e : Ending} (h : AllPost w1 r e w') (hb : Below w.heap.size w w1) : AllPost w r e w' := by
  obtain ⟨v, he, ho, hb'⟩ := h
  exact ⟨v, he, owns_base ho hb.size, hb.trans (hb'.mono hb.size)⟩

set_option maxRecDepth 100000 in
set_option maxHeartbeats 2000000 in
theorem ref_all_valid (spec : ByteArray) (ss : List ByteArray) (A : Option Addr) (n cap : Nat) (w : World) (hA : Strs w w.heap.size A n ss) (hn : n ≤ 100) (hz : ∀ s ∈ ss, s.size ≤ 1000) (hs : spec.size ≤ 100)
    (hv : validS spec.data.toList = 0) :
    Calls Try.prog 16 #[.string spec, .slice A n cap] w (AllPost w (allS spec.data.toList (bytesOf' ss))) := by
  obtain ⟨i0, hi, hz0, hz1, hz2⟩ := info_parts Try.info32
  have hall := Lib.hid (allS_eq (args := bytesOf' ss) hv)
  have hal : (bytesOf' ss).length ≤ 100 := by rw [bytes_len, ← hA.1]; exact hn
  have Hnl := Lib.hid hA.1
  have hml := Lib.hid (mst_le ss (by rw [← hA.1]; exact hn) hz)
  have hR := Lib.hid (fun W => refValid_any spec W hs)
  rw [hv] at hR
  have hN := Lib.hid (fun W0 (hW0 : Below w.heap.size w W0) W (hW : Below W0.heap.size W0 W) (ix off : Int) (L G M : ByteArray) (st x y e : Int) (hr : nextS spec.data.toList (bytesOf' ss) ix off = (⟨L.data.toList, G.data.toList, st, M.data.toList⟩, (x, y), e)) =>
    ref_any2 spec ss A n cap ix off W (((hA.below hW0).more hW0.size).below hW |>.more hW.size) hn hz hs hr)
  have hC := Lib.hid (fun W (hW : Below w.heap.size w W) => ((hA.below hW).more hW.size))
  have Hm0 := Lib.hid (show mst ss 0 = n + 1 by simp [mst, hA.1])
  clear hA hz
  go_enter Try.func16, Try.ntmps16
  go_wp2_with (go_at_call 11; refine (hR.out _).mono ?_; rintro e w1 ⟨rfl, hb1⟩; have Hb1 := Lib.hid hb1; clear hb1)
  go_loop [8, 9] (fun m i => MRel ss m i) (fun _ i => n - (intOf i).toNat)
  case atStart => exact ⟨0, Nat.zero_le _, rfl, by rw [Hm0.out]; go_num⟩
  case round =>
    obtain ⟨k, hk, rfl, rfl⟩ := hrel
    have hmk := hml.out k
    by_cases hlt : k < n
    · have hkl : k < ss.length := by rw [← Hnl.out]; exact hlt
      have hS := hC.out w1 Hb1.out
      obtain ⟨b0, off0, rfl, hb0, hc0⟩ := hS.2 (by omega)
      have hcell := hc0 k hkl
      have HS := Lib.hid (mst_succ ss k hkl)
      have hmk1 := hml.out (k + 1)
      have hsz : ss[k].size ≤ 200000 := by rw [HS.out] at hmk1; omega
      clear hS hc0 hmk1
      generalize ss[k] = s at *
      generalize mst ss k = mk at *
      go_wp2
      go_round
      case rel => exact ⟨k + 1, hkl, by go_num, by rw [HS.out]; go_num⟩
      case measure => simp [intOf]; omega
    · have hkn : k = ss.length := by have := Hnl.out; omega
      have Hmm := Lib.hid (show mst ss k = mu (bytesOf' ss) (1, 0) + 1 by rw [hkn]; exact mst_all ss)
      rw [Hmm.out] at hmk
      rw [Hmm.out]
      have hkn2 : n ≤ k := by omega
      clear hkn Hmm hk
      generalize hargs : bytesOf' ss = args at *
      clear hargs hC Hm0 hml
      go_wp2
      go_loopg [10, 12] (mu args (1, 0)) (fun g lv iv wr => RRel spec.data.toList args w1 g lv iv wr)
      case atStart =>
        refine ⟨⟨(1, 0), [], rfl, inR_start _, by simp only []; omega, ?_, ?_, ?_, ?_, ?_, World.ownsRow_nil _ _ _ _, rfl, rfl, by simp, (Below.refl _ _).alloc (Nat.le_refl _) _⟩, 0, rfl, by simp⟩ <;> simp [go_sem]
      case round =>
        obtain ⟨⟨st, acc, rfl, hin, hst, c0, c1, f0, f1, hsz, hown, hrun1, hrun2, hacc, hbel⟩, j, rfl, hj⟩ := hrel
        obtain ⟨ix, off⟩ := st
        simp only [] at hin hst c0 c1
        have Hrun := Lib.hid (And.intro hrun1 hrun2)
        have Hown := Lib.hid hown
        have Hbel := Lib.hid hbel
        have Hin := Lib.hid hin
        clear hrun1 hrun2 hown hbel hin
        have herr := nextS_err hv Hin.out
        have hjm : j < mu args (1, 0) + 1 := by omega
        by_cases hst1 : (nextS spec.data.toList args ix off).1.status = 1
        · have hend := Lib.hid (runS_end (spec := spec.data.toList) (args := args) (st := (ix, off)) hst1)
          generalize hr : nextS spec.data.toList args ix off = r at *
          obtain ⟨x, ⟨a, b⟩, e⟩ := r
          obtain ⟨L, G, M, hx⟩ := opt_bytes x
          simp only [] at herr hst1 hend
          subst herr
          rw [hst1] at hx
          have hNx := Lib.hid (hN.out w1 Hb1.out wr Hbel.out ix off L G M 1 a b 0 (by rw [hr, hx]))
          have hab := nextS_bound hv Hin.out
          rw [hr] at hab
          simp only [] at hab
          have ha1 := hab.1
          have ha2 := hab.2
          clear hr hst1 hx hab
          have q1 : IntKind.i64.wrap (a - 1) = a - 1 := IntWalk.i64_in _ (by omega)
          go_wp2_with (go_at_call 14; refine (hNx.out).mono ?_; rintro e' w2 ⟨rfl, hb2⟩; have Hb2 := Lib.hid hb2; have HK := Lib.hid (keep2 hsz hb2 c0 c1 f0 f1); clear hb2 c0 c1 f0 f1; obtain ⟨c0, c1, f0, f1, hsz1⟩ := HK.out)
          go_quiet (fail)
          go_wp2
          go_ret3
          exact allpost_lift (all_done hall.out Hrun.out hend.out (owns_round Hown.out Hb2.out _ _ _ _).1 (below_drewN (below_round Hbel.out Hb2.out _ _ _ _ (by omega)) _)) Hb1.out
        · generalize hr : nextS spec.data.toList args ix off = r at *
          obtain ⟨x, ⟨a, b⟩, e⟩ := r
          obtain ⟨L, G, M, hx⟩ := opt_bytes x
          simp only [] at herr hst1
          subst herr
          generalize x.status = sv at *
          subst hx
          have hNx := Lib.hid (hN.out w1 Hb1.out wr Hbel.out ix off L G M sv a b 0 hr)
          have HC := Lib.hid (And.intro c0 (And.intro c1 (And.intro f0 f1)))
          have Hr := Lib.hid hr
          have Hst := Lib.hid hst1
          have hsv : (sv == 1) = false := by simpa using hst1
          clear hr hst1
          go_wp2_with (first | (go_at_call 14; refine (hNx.out).mono ?_; rintro e' w2 ⟨rfl, hb2⟩; have Hb2 := Lib.hid hb2; have HK := Lib.hid (keep2 hsz hb2 c0 c1 f0 f1); clear hb2 c0 c1 f0 f1; obtain ⟨c0, c1, f0, f1, hsz1⟩ := HK.out) | (at_builtin; refine wpList_append_own _ rfl _ _ 38 rfl (w1.heap.size + 1) 32 i0 _ 4 56 Try.underlying38 hi hz0 hz1 hz2 rfl (by decide) u10 _ _ rfl ((owns_round Hown.out Hb2.out _ _ _ _).1.alloc _) ⟨w2.heap.size + 1 + 1, 0, none⟩ 1 1 [.string L, .string G, .int .i64 sv, .string M] rfl rfl (four_new (by simp [World.setCell]) _ _ _ _ _) (by simp [Value.oneCell']) (by unfold maxLen; omega) (by omega) (by simp [World.setCell]; omega) ?_; intro v' w3 hown' hg _))
          obtain ⟨r1, r2⟩ := arel_next hv Hin.out Hr.out Hst.out Hrun.out hacc hsz HC.out.1 HC.out.2.1 HC.out.2.2.1 HC.out.2.2.2 Hown.out Hbel.out Hb2.out hown' hg
          have R1 := Lib.hid r1
          have R2 := Lib.hid r2
          clear r1 r2 hown' hg
          go_wp2
          go_roundg (mu args (a, b))
          case measure => exact R2.out
          case rel => exact ⟨R1.out, j + 1, by go_num, by have := R2.out; omega⟩

set_option maxRecDepth 100000 in
set_option maxHeartbeats 1000000 in
theorem ref_all_invalid (spec : ByteArray) (ss : List ByteArray) (A : Option Addr) (n cap : Nat) (w : World) (hs : spec.size ≤ 100)
    (hv : validS spec.data.toList ≠ 0) :
    Calls Try.prog 16 #[.string spec, .slice A n cap] w (AllPost w (allS spec.data.toList (bytesOf' ss))) := by
  have hall := Lib.hid (show allS spec.data.toList (bytesOf' ss) = ([], 0, validS spec.data.toList) by rw [allS, if_pos hv])
  have hR := Lib.hid (fun W => refValid_any spec W hs)
  have hvb : (validS spec.data.toList != 0) = true := by simpa using hv
  clear hv
  generalize validS spec.data.toList = ev at *
  go_enter Try.func16, Try.ntmps16
  go_wp2_with (go_at_call 11; refine (hR.out _).mono ?_; rintro e w1 ⟨rfl, hb1⟩; have Hb1 := Lib.hid hb1; clear hb1)
  go_ret3
  rw [hall.out]
  exact ⟨_, rfl, World.ownsRow_nil _ _ _ _, Hb1.out⟩

theorem ref_all_any (spec : ByteArray) (ss : List ByteArray) (A : Option Addr) (n cap : Nat) (w : World) (hA : Strs w w.heap.size A n ss) (hn : n ≤ 100) (hz : ∀ s ∈ ss, s.size ≤ 1000) (hs : spec.size ≤ 100) :
    Calls Try.prog 16 #[.string spec, .slice A n cap] w (AllPost w (allS spec.data.toList (bytesOf' ss))) := by
  by_cases hv : validS spec.data.toList = 0
  · exact ref_all_valid spec ss A n cap w hA hn hz hs hv
  · exact ref_all_invalid spec ss A n cap w hs hv

end Go.Proofs.Ytkenicdcelhdcaa
