/- trace.Line: what the call returns. -/
import Derived.Test.YtakejcabekdhcaaGreatDoorW2
namespace Go.Proofs.YtakejcabekdhcaaGreatDoor
open Go.RowKit

/-- The slice value '.slice A n c' holds the strings ss, below block B. -/
def Strs (w : World) (B : Nat) (A : Option Addr) (n : Nat) (ss : List ByteArray) : Prop :=
  n = ss.length ∧ (0 < ss.length → ∃ b off, A = some ⟨b, off, none⟩ ∧ b < B ∧ ∀ k (hk : k < ss.length), w.cell? ⟨b, off + k, none⟩ = some (.string ss[k]))
theorem Strs.keep {w w' : World} {B n : Nat} {A : Option Addr} {ss : List ByteArray} (h : Strs w B A n ss) (hk : ∀ p : Addr, p.block < B → w'.cell? p = w.cell? p) : Strs w' B A n ss :=
  ⟨h.1, fun h0 => by
    obtain ⟨b, off, e, hb, hc⟩ := h.2 h0
    exact ⟨b, off, e, hb, fun k hk' => (hk _ hb).trans (hc k hk')⟩⟩
theorem Strs.below {w w' : World} {B n : Nat} {A : Option Addr} {ss : List ByteArray} (h : Strs w B A n ss) (hb : Below B w w') : Strs w' B A n ss := h.keep fun _ hp => hb.cell hp

def bytesOf (ss : List ByteArray) : List Bs := ss.map (·.data.toList)

theorem ownsRow_below {w w' : World} {B e : Nat} {v : Value} {n : Nat} {xs : List Value} (h : w.ownsRow B e 1 v n xs) (hb : Below w.heap.size w w') : w'.ownsRow B e 1 v n xs := by
  obtain ⟨h1, h2⟩ := h
  refine ⟨h1, ?_⟩
  rcases h2 with h2 | ⟨g, cap, cur, r1, r2, r3, r4⟩
  · exact Or.inl h2
  · exact Or.inr ⟨g, cap, cur, r1, r2, (hb.block g (Array.getElem?_eq_some_iff.1 r3).1).trans r3, r4⟩
theorem BuilderAt_below {w w' : World} {T e B b : Nat} {p : Value} {bs : List Value} (h : Lib.BuilderAt T e B b p bs w) (hb : Below w.heap.size w w') : Lib.BuilderAt T e B b p bs w' := by
  obtain ⟨h1, v, h2, h3, h4⟩ := h
  exact ⟨h1, v, (hb.block b (Array.getElem?_eq_some_iff.1 h2).1).trans h2, ownsRow_below h3 hb, h4⟩
theorem IsBuilder_below {w w' : World} {T e B b : Nat} {bs : List Value} (h : Lib.IsBuilder T e B b bs w) (hb : Below w.heap.size w w') : Lib.IsBuilder T e B b bs w' :=
  h.imp (fun x => BuilderAt_below x hb) (fun x => BuilderAt_below x hb)

/-- The line, up to field k. -/
def lineTo (fs : List Bs) (k : Nat) : Bs := 43 :: (fs.take k).flatMap fun f => 32 :: quoteS f
theorem lineTo_succ (fs : List Bs) (k : Nat) (h : k < fs.length) : lineTo fs (k + 1) = lineTo fs k ++ [32] ++ quoteS fs[k] := by
  unfold lineTo
  rw [List.take_succ_eq_append_getElem h, List.flatMap_append]
  simp
theorem lineTo_all (fs : List Bs) (k : Nat) (h : ¬ k < fs.length) : lineTo fs k = lineS fs := by
  unfold lineTo lineS
  rw [List.take_of_length_le (by omega)]
theorem lineTo_length (fs : List Bs) (hz : ∀ f ∈ fs, f.length ≤ 1000) : ∀ k, (lineTo fs k).length ≤ 1 + 5000 * k := by
  intro k
  induction k with
  | zero => simp [lineTo]
  | succ k ih =>
    by_cases h : k < fs.length
    · rw [lineTo_succ fs k h]
      have h1 := quoteS_length fs[k]
      have h2 := hz fs[k] (List.getElem_mem h)
      simp only [List.length_append, List.length_cons, List.length_nil]
      omega
    · have : lineTo fs (k + 1) = lineTo fs k := by rw [lineTo_all _ _ h, lineTo_all _ _ (by omega)]
      rw [this]; omega

theorem ReplOk.later {s : ByteArray} {w w' : World} (h : ReplOk s w) (hb : Below w.heap.size w w') : ReplOk s w' := fun W hW => h W (hb.trans (hW.mono hb.size))
theorem cells_space (l : Bs) : Lib.byteCells l ++ [Value.int .u8 32] = Lib.byteCells (l ++ [32]) := by rw [Lib.byteCells_append]; rfl
theorem quoteB_size (s : ByteArray) (h : s.size ≤ 1000) : (quoteB s).size ≤ 4002 := by
  have := quoteS_length s.data.toList
  rw [len_data] at this
  show (quoteS s.data.toList).toArray.size ≤ 4002
  simp
  omega
theorem cells_quote (ss : List ByteArray) (k : Nat) (h : k < ss.length) : Lib.byteCells (lineTo (bytesOf ss) k ++ [32]) ++ Lib.strCells (quoteB ss[k]) = Lib.byteCells (lineTo (bytesOf ss) (k + 1)) := by
  have h' : k < (bytesOf ss).length := by unfold bytesOf; rw [List.length_map]; exact h
  rw [lineTo_succ _ _ h', Lib.strCells_eq, Lib.byteCells_append (_ ++ _)]
  congr 2
  simp [quoteB, bytesOf]

/-- What Line carries from round to round. -/
def LRel (ss : List ByteArray) (w : World) (i : Value) (wr : World) : Prop :=
  ∃ k : Nat, i = .int .i64 k ∧ k ≤ ss.length ∧ Lib.IsBuilder 44 5 w.heap.size w.heap.size (Lib.byteCells (lineTo (bytesOf ss) k)) wr ∧ Below w.heap.size w wr ∧ w.heap.size < wr.heap.size

set_option maxHeartbeats 4000000 in
set_option maxRecDepth 1000000 in
theorem line_any (ss : List ByteArray) (A : Option Addr) (n cap : Nat) (w : World) (hA : Strs w w.heap.size A n ss) (hn : n ≤ 100) (hz : ∀ s ∈ ss, s.size ≤ 1000) (hR : ∀ s ∈ ss, ReplOk s w) :
    Calls Tryz.prog 6 #[.slice A n cap] w fun e w' => e = .returned (.string ⟨(lineS (bytesOf ss)).toArray⟩) ∧ Below w.heap.size w w' := by
  obtain rfl := hA.1
  have HA := Lib.hid hA
  have HR := Lib.hid hR
  have hzz := Lib.hid (show ∀ f ∈ bytesOf ss, f.length ≤ 1000 from fun f hf => by
    obtain ⟨s, hs, rfl⟩ := List.mem_map.1 hf
    rw [len_data]
    exact hz s hs)
  clear hA hR
  go_enter Tryz.func6, Tryz.ntmps6
  go_wp2_with (go_at_call 18; refine (Tryz.Builder_WriteByte w.heap.size w.heap.size [] 43 _ (Lib.fresh_isBuilder 44 5 w) (by simp) (by simp)).mono ?_; rintro e w1 ⟨rfl, hB1, hb1⟩; have HB1 := Lib.hid hB1; have Hb1 := Lib.hid hb1; clear hB1 hb1)
  go_loopw [9] (fun i wr => LRel ss w i wr) (fun i wr => ss.length - (Lib.intOf i).toNat)
  case atStart =>
    have hb0 : Below w.heap.size w w1 := ((Below.refl _ w).alloc (Nat.le_refl _) _).trans Hb1.out
    have hs1 := Hb1.out.size
    refine ⟨0, rfl, Nat.zero_le _, Or.inr HB1.out, hb0, ?_⟩
    have := Lib.BuilderAt.lt HB1.out
    exact this
  case round =>
    obtain ⟨k, rfl, hk, hI, hbw, hsz⟩ := hrel
    have hlt := lineTo_length (bytesOf ss) hzz.out k
    by_cases hkn : k < ss.length
    · obtain ⟨b, off, rfl, hb, hc⟩ := HA.out.2 (by omega)
      have hcell : wr.cell? ⟨b, off + k, none⟩ = some (.string ss[k]) := by rw [hbw.cell (p := ⟨b, off + k, none⟩) hb]; exact hc k hkn
      have hsk : ss[k].size ≤ 1000 := hz _ (List.getElem_mem hkn)
      have hqs := quoteB_size _ hsk
      have HRk := Lib.hid (HR.out _ (List.getElem_mem hkn))
      have HI := Lib.hid hI
      have Hbw := Lib.hid hbw
      have Hcq := Lib.hid (cells_quote ss k hkn)
      clear hI hbw hc
      generalize ss[k] = f at *
      go_wp2_with (first
        | (go_at_call 18; refine (Tryz.Builder_WriteByte w.heap.size w.heap.size _ 32 wr HI.out (by rw [Lib.byteCells_length]; omega) (by omega)).mono ?_; rintro e w2 ⟨rfl, hB2, hb2⟩; have HB2 := Lib.hid hB2; have Hb2 := Lib.hid hb2; clear hB2 hb2)
        | (go_at_call 20; refine (quote_any f w2 hsk (HRk.out.later (Hbw.out.trans Hb2.out))).mono ?_; rintro e w3 ⟨rfl, hb3⟩; have Hb3 := Lib.hid hb3; clear hb3)
        | (go_at_call 19; refine (Tryz.Builder_WriteString w.heap.size w.heap.size _ (quoteB f) w3 (Or.inr (BuilderAt_below HB2.out Hb3.out)) (by rw [cells_space, Lib.byteCells_length, List.length_append]; simp only [List.length_cons, List.length_nil]; omega) (by have := Hb2.out.size; have := Hb3.out.size; omega)).mono ?_; rintro e w4 ⟨rfl, hB4, hb4⟩; have HB4 := Lib.hid hB4; have Hb4 := Lib.hid hb4; clear hB4 hb4))
      go_roundw
      case rel =>
        have h2 := Hb2.out.size
        have h3 := Hb3.out.size
        have h4 := Hb4.out.size
        refine ⟨k + 1, by simp, by omega, Or.inr ?_, ((Hbw.out.trans Hb2.out).trans (Hb3.out.mono (by omega))).trans Hb4.out, by omega⟩
        have := HB4.out
        rw [cells_space, Hcq.out] at this
        exact this
      case measure => simp [Lib.intOf]; omega
    · have hke : k = ss.length := by omega
      have HI := Lib.hid hI
      have Hbw := Lib.hid hbw
      have Hall := Lib.hid (lineTo_all (bytesOf ss) k (by unfold bytesOf; rw [List.length_map]; omega))
      clear hI hbw
      subst hke
      go_wp2_with (go_at_call 21; refine (Tryz.Builder_String_any w.heap.size w.heap.size _ wr HI.out (by omega)).mono ?_; rintro e w2 ⟨rfl, hb2⟩; have Hb2 := Lib.hid hb2; clear hb2)
      go_ret
      rw [Hall.out]
      exact ⟨rfl, Hbw.out.trans Hb2.out⟩

end Go.Proofs.YtakejcabekdhcaaGreatDoor
