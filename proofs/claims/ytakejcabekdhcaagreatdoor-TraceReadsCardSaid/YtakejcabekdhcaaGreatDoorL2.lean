/- TraceReads: for every list of events and every process the law returns true and its arguments read as before (the two listed tables hold what the program's text lays: tied). -/
import Derived.Test.YtakejcabekdhcaaGreatDoorL0
import Derived.Test.YtakejcabekdhcaaGreatDoorV5
import Derived.Test.YtakejcabekdhcaaGreatDoorCards
import Derived.Test.YtakejcabekdhcaaGreatDoorTie
import Derived.Lay
import Derived.MakeChecks
import Derived.Deep.Slices
namespace Go.Proofs.YtakejcabekdhcaaGreatDoor
open Go.ChangeShapes Go.WideShapes Go.ChangeAt Go.RowKit Go.Deep

theorem cells39 : Tryz.prog.cellsOf 39 = 5 := by kernel_rfl
theorem cells3 : Tryz.prog.cellsOf 3 = 1 := by kernel_rfl
theorem cells9 : Tryz.prog.cellsOf 9 = 1 := by kernel_rfl
theorem addr_add (b off k : Nat) : (⟨b, off, none⟩ : Addr).add k = ⟨b, off + k, none⟩ := by
  unfold Addr.add
  by_cases h0 : k = 0
  · simp [h0]
  · simp [h0]
theorem wf_in {n : Int} (h : (Lit.int .i64 n).wf = true) : inI64 n := by
  simp [Lit.wf, IntKind.min, IntKind.max, IntKind.bits, IntKind.signed] at h
  unfold inI64
  omega

set_option maxRecDepth 1000000 in
theorem open_ev {H : Type} {enc : TypeId × Value → H} {W : World} {n : Nat} {cs : List Value} {x : DataW H × List MemPlace} (hl : cs.length = 5) (h : DataW.trod enc Tryz.prog W 0 (fun _ => true) true n 39 cs = some x) :
    ∃ e : Evn, cs = [.int .i64 e.pid, .int .i64 e.kind, .int .i64 e.pos, .int .i64 e.n, .string e.text] ∧ e.text.size ≤ maxLen ∧ inI64 e.pid ∧ inI64 e.n := by
  obtain ⟨xs, k, hk, hxy, _, hxl, hf⟩ := DataW.trod_struct Tryz.underlying39 h
  have hx5 : xs.length = 5 := hxl
  match cs, hl, xs, hx5 with
  | [v0, v1, v2, v3, v4], _, [y0, y1, y2, y3, y4], _ =>
    have g0 : DataW.trod enc Tryz.prog W 0 (fun _ => true) true k 3 (([v0, v1, v2, v3, v4].drop 0).take (Tryz.prog.cellsOf 3)) = some y0 := hf 0 _ rfl
    have g1 : DataW.trod enc Tryz.prog W 0 (fun _ => true) true k 3 (([v0, v1, v2, v3, v4].drop 1).take (Tryz.prog.cellsOf 3)) = some y1 := hf 1 _ rfl
    have g2 : DataW.trod enc Tryz.prog W 0 (fun _ => true) true k 3 (([v0, v1, v2, v3, v4].drop 2).take (Tryz.prog.cellsOf 3)) = some y2 := hf 2 _ rfl
    have g3 : DataW.trod enc Tryz.prog W 0 (fun _ => true) true k 3 (([v0, v1, v2, v3, v4].drop 3).take (Tryz.prog.cellsOf 3)) = some y3 := hf 3 _ rfl
    have g4 : DataW.trod enc Tryz.prog W 0 (fun _ => true) true k 9 (([v0, v1, v2, v3, v4].drop 4).take (Tryz.prog.cellsOf 9)) = some y4 := hf 4 _ rfl
    rw [cells3] at g0 g1 g2 g3
    rw [cells9] at g4
    obtain ⟨n0, e0, _, w0⟩ := DataW.trod_int Tryz.underlying3 g0
    obtain ⟨n1, e1, _, w1⟩ := DataW.trod_int Tryz.underlying3 g1
    obtain ⟨n2, e2, _, w2⟩ := DataW.trod_int Tryz.underlying3 g2
    obtain ⟨n3, e3, _, w3⟩ := DataW.trod_int Tryz.underlying3 g3
    obtain ⟨s4, e4, _, w4⟩ := DataW.trod_string Tryz.underlying9 g4
    simp only [List.drop_zero, List.drop_succ_cons, List.take_succ_cons, List.take_zero, List.cons.injEq, and_true] at e0 e1 e2 e3 e4
    subst e0 e1 e2 e3 e4
    exact ⟨⟨n0, n1, n2, n3, s4⟩, rfl, w4, wf_in w0, wf_in w3⟩

set_option maxRecDepth 1000000 in
theorem open_evs {H : Type} {enc : TypeId × Value → H} {W : World} {base : Nat} {v : Value} {d : DataW H} {p : List MemPlace} (hok : Value.okWide Tryz.prog W .any base 26 v)
    (h : DataW.Trod enc Tryz.prog W 0 (fun _ => true) true 26 v d p) :
    ∃ A n cap es, v = .slice A n cap ∧ Evs W W.heap.size A n es ∧ n ≤ maxLen ∧ (∀ e ∈ es, e.text.size ≤ maxLen) ∧ ∀ e ∈ es, inI64 e.pid ∧ inI64 e.n := by
  obtain ⟨a0, len, cap, rfl⟩ := okWide_slice Tryz.underlying26 hok
  obtain ⟨fuel, hf⟩ := h
  rcases open_slice Tryz.underlying26 hf with ⟨hcs, _⟩ | ⟨a, len', cap', m, n, D, Pl, hcs, _, hl, hm, hmm, _, hx⟩
  · simp [Value.cells] at hcs
    obtain ⟨rfl, rfl, rfl⟩ := hcs
    exact ⟨none, 0, 0, [], rfl, ⟨rfl, fun h => absurd h (by simp)⟩, by unfold maxLen; omega, fun e h => by simp at h, fun e h => by simp at h⟩
  · simp [Value.cells] at hcs
    obtain ⟨rfl, rfl, rfl⟩ := hcs
    rw [if_pos rfl] at hmm
    have each : ∀ i, ∃ e : Evn, i < len → (W.cell? (a.add (i * 5)) = some (.int .i64 e.pid) ∧ W.cell? (a.add (i * 5 + 1)) = some (.int .i64 e.kind) ∧ W.cell? (a.add (i * 5 + 2)) = some (.int .i64 e.pos) ∧
        W.cell? (a.add (i * 5 + 3)) = some (.int .i64 e.n) ∧ W.cell? (a.add (i * 5 + 4)) = some (.string e.text)) ∧ e.text.size ≤ maxLen ∧ inI64 e.pid ∧ inI64 e.n := by
      intro i
      by_cases hi : i < len
      · obtain ⟨cs', h1, h2⟩ := hx i (by omega)
        rw [cells39] at h1
        obtain ⟨_, hlen, hcell⟩ := World.cells?_some h1
        obtain ⟨e, he, t1, t2, t3⟩ := open_ev hlen h2
        subst he
        have c0 := hcell 0 (by omega)
        have c1 := hcell 1 (by omega)
        have c2 := hcell 2 (by omega)
        have c3 := hcell 3 (by omega)
        have c4 := hcell 4 (by omega)
        rw [add_add] at c0 c1 c2 c3 c4
        exact ⟨e, fun _ => ⟨⟨c0, c1, c2, c3, c4⟩, t1, t2, t3⟩⟩
      · exact ⟨⟨0, 0, 0, 0, ByteArray.empty⟩, fun h => absurd h hi⟩
    have hch : ∃ q : Nat → Evn, ∀ i, i < len → (W.cell? (a.add (i * 5)) = some (.int .i64 (q i).pid) ∧ W.cell? (a.add (i * 5 + 1)) = some (.int .i64 (q i).kind) ∧ W.cell? (a.add (i * 5 + 2)) = some (.int .i64 (q i).pos) ∧
        W.cell? (a.add (i * 5 + 3)) = some (.int .i64 (q i).n) ∧ W.cell? (a.add (i * 5 + 4)) = some (.string (q i).text)) ∧ (q i).text.size ≤ maxLen ∧ inI64 (q i).pid ∧ inI64 (q i).n := ⟨fun i => (each i).choose, fun i => (each i).choose_spec⟩
    obtain ⟨q, hq⟩ := hch
    refine ⟨some a, len, cap, (List.range len).map q, rfl, ⟨by simp, fun h0 => ?_⟩, by omega, ?_, ?_⟩
    · have hlen : 0 < len := by simpa using h0
      have hc0 := (hq 0 hlen).1.1
      have ha0 : a.add (0 * 5) = a := by simp [Addr.add]
      rw [ha0] at hc0
      have hsp := spot_none hc0
      have hblk : a.block < W.heap.size := World.block_lt_of_cell? W a hc0
      obtain ⟨b, off, sp⟩ := a
      simp only [] at hsp hblk
      subst hsp
      refine ⟨b, off, rfl, hblk, fun k hk => ?_⟩
      have hk' : k < len := by simpa using hk
      obtain ⟨⟨c0, c1, c2, c3, c4⟩, _⟩ := hq k hk'
      rw [addr_add] at c0 c1 c2 c3 c4
      simp only [List.getElem_map, List.getElem_range]
      exact ⟨c0, c1, c2, c3, c4⟩
    · intro e he
      obtain ⟨i, hi, rfl⟩ := List.mem_map.1 he
      exact (hq i (by simpa using hi)).2.1
    · intro e he
      obtain ⟨i, hi, rfl⟩ := List.mem_map.1 he
      exact (hq i (by simpa using hi)).2.2

set_option maxRecDepth 1000000 in
theorem contract_reads (H : Type) (enc : TypeId × Value → H) (W : World) (base : Nat) (args : Array Value) (ds gs : List (DataW H)) (before : List MemPlace)
    (hval : ∀ (j : Nat) t v, Tryz.f4.params[j]? = some t → args[j]? = some v → Value.okWide Tryz.prog W .any base t v)
    (hW : DataW.Whole enc Tryz.prog Tryz.f4.params.toList Rows.traceReadsSpec.vars false W args.toList ds gs before) :
    Calls Tryz.prog 4 args W fun e W' => ∃ v, e = .returned v ∧ Rows.traceReadsSpec.post enc Tryz.prog Tryz.f4 false true false false W args v W' := by
  have hW' := hW
  obtain ⟨p, q, hA0, hV, rfl, hfz, hnd⟩ := hW
  have hA : DataW.TrodAll enc Tryz.prog W 0 (fun _ => true) true Tryz.f4.params.toList args.toList ds p := hA0
  have hAk := hA
  rw [Tryz.params4] at hA hval
  obtain ⟨v0, vs0, d0, ds0, p0, q0, hargs, rfl, rfl, h0, r0⟩ := trodAll_cons hA
  obtain ⟨v1, vs1, d1, ds1, p1, q1, rfl, rfl, rfl, h1, r1⟩ := trodAll_cons r0
  obtain ⟨rfl, rfl, rfl⟩ := trodAll_nil r1
  obtain rfl : args = #[v0, v1] := by cases args; simp_all
  obtain ⟨rfl, rfl⟩ := trodVars_none hV
  have hlt : ∀ x ∈ p0 ++ (p1 ++ []), x.block < W.heap.size := fun x hx => hW'.lt x (by simpa using hx)
  obtain ⟨A, n, cap, es, rfl, hS, hn, hz, hi⟩ := open_evs (hval 0 26 v0 rfl rfl) h0
  obtain ⟨pid, rfl, rfl, rfl, _⟩ := open_int Tryz.underlying3 (hval 1 3 v1 rfl rfl) h1
  clear hA0
  refine (law_reads es A n cap pid W hS hn hz hi).mono fun e W' ⟨he, hg⟩ => ?_
  subst he
  exact ⟨_, rfl, post_of_below (pv := []) hW' (fun _ _ _ => (trodAll_cons_mk (shut_bool Tryz.underlying4 _) trodAll_mk0))
    (fun sp hsp => trodAll_stays Tryz.laidOut hg (by rw [Tryz.params4]; decide +kernel) hAk hlt sp (fun x hx => hsp x (by simpa using hx))) (fun _ _ => rfl) (by simp) hg (ok_one (by kernel_rfl) rfl (okWide_bool_mk Tryz.underlying4 _))⟩

set_option maxRecDepth 100000 in
theorem laid_reads (os : Os) : laidMetH Tryz.prog Rows.traceReadsRow.laid ((World.laidAll Tryz.prog os Rows.traceReadsRow.laid).forCall (fun _ _ => 0) ⟨#[], #[.slice none 0 0, .int .i64 0], []⟩).memory := by
  rw [MakeChecks.laidMetH_plain _ _ _ (by kernel_rfl)]
  exact laidMet_laidAll _ (by kernel_rfl) (by kernel_rfl)
theorem reads_reads (os : Os) {H : Type} (enc : TypeId × Value → H) : ∃ places, DataW.whole enc Tryz.prog ((World.laidAll Tryz.prog os Rows.traceReadsRow.laid).forCall (fun _ _ => 0) ⟨#[], #[.slice none 0 0, .int .i64 0], []⟩).memory Tryz.f4.params.toList Rows.traceReadsSpec.vars false #[Value.slice none 0 0, Value.int .i64 0].toList 8 = some ([.nil, .lit (.int .i64 0)], [], places) :=
  ⟨[], by kernel_rfl⟩

set_option maxRecDepth 100000 in
theorem lifted_reads (os : Os) (started : os.Started) (H : Type) (enc : TypeId × Value → H) (F : Stop.Interp) :
    ReturnsInHanded {} Tryz.checked os 4 .any ((OpenSpec.ofChange Rows.traceReadsSpec).preRow enc Tryz.prog Tryz.f4 Rows.traceReadsRow.domain false Rows.traceReadsRow.laid) (((OpenSpec.ofChange Rows.traceReadsSpec).at F).post enc Tryz.prog Tryz.f4 false true false false) := by
  obtain ⟨places, hx⟩ := reads_reads os enc
  refine returnsInHanded_of_row (C := Tryz.checked) (s := OpenSpec.ofChange Rows.traceReadsSpec) own started (by kernel_rfl) Tryz.func4
    (witness_row_at (enc := enc) (C := Tryz.checked) false (World.laidAll Tryz.prog os Rows.traceReadsRow.laid) #[.slice none 0 0, .int .i64 0] (World.laidAll_os _ _ _) (by kernel_rfl) (by kernel_rfl) (by kernel_rfl)
      (OpenSpec.preRow_of_cond 8 hx (by kernel_rfl) (fun k hk => by cases hk) (by kernel_rfl) (laid_reads os))) ?_
  intro W base args ds gs before hval hW _ _ _ _ _ _
  exact contract_reads H enc W base args ds gs before hval hW

theorem said_reads : Rows.TraceReadsSaid :=
  OpenClaim.holds_of_cond 4 Tryz.f4 rfl rfl rfl rfl rfl rfl rfl ⟨rfl, rfl, rfl, rfl, rfl⟩ rfl rfl rfl rfl rfl (by kernel_rfl) Tryz.func4 (by kernel_rfl)
    (of_decide_eq_true (by kernel_rfl)) (by unfold Func.isWrapper; first | (rw [if_pos (by decide +kernel)]; kernel_rfl) | (rw [if_neg (by decide +kernel)]; exact ⟨rfl, rfl⟩))
    (fun os started H enc _ F => by rw [OpenClaim.pre_eq_preRow]; exact lifted_reads os started H enc F)

theorem plain_reads (f : FuncId) (fn : Func) (hf : Tryz.pinned.checked.prog.funcNamed Rows.traceReadsRow.func = some f) (hfn : Tryz.pinned.checked.prog.funcs[f]? = some fn) :
    true = Tryz.pinned.checked.prog.looks [] ∧ ∀ (j : Nat) t, fn.params[j]? = some t → Tryz.pinned.checked.prog.wantsStandIn t = false := by
  obtain rfl : f = 4 := Option.some.inj ((show Tryz.prog.funcNamed Rows.traceReadsRow.func = some 4 by kernel_rfl).symm.trans hf) |>.symm
  obtain rfl : fn = Tryz.f4 := (Option.some.inj (Tryz.func4.symm.trans hfn)).symm
  refine ⟨by kernel_rfl, fun j t ht => ?_⟩
  rw [Tryz.params4] at ht
  have h : t = 26 ∨ t = 3 := by simpa using Array.mem_of_getElem? ht
  rcases h with rfl | rfl
  · exact (show Tryz.prog.wantsStandIn 26 = false by kernel_rfl)
  · exact (show Tryz.prog.wantsStandIn 3 = false by kernel_rfl)

theorem traceReads_holds : Rows.TraceReadsCardSaid :=
  Claim7.holds_tied_plain_at .later [] _ _ _ _ said_reads (fun _ h => by cases h) (by kernel_rfl) (fun _ h => by cases h) traceReads_row_tie rfl ⟨rfl, rfl⟩ (by kernel_rfl) rfl plain_reads (by kernel_rfl)

end Go.Proofs.YtakejcabekdhcaaGreatDoor
