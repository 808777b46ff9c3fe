/- A verified evaluator for closed runs, part E2: what it computes holds of every run of the program. -/
import Derived.Test.YtakejcabekdhcaaGreatDoorE1
import GoSem.Dispatch
import Derived.Lib.Bytealg
/- The evaluator, part 10: delete, iterators, lengths, copies, externs. -/
noncomputable section
namespace Go.Ev

variable {P : Program} {ρ : Rho} {h : Heap} {w : World}

theorem entDel_map : ∀ (es : List AEnt) (i : Nat), ((entDel es i).map (concEnt ρ)).toArray = (es.map (concEnt ρ)).toArray.eraseIdxIfInBounds i := by
  intro es i
  have gen : ∀ (es : List AEnt) (i : Nat), entDel es i = es.eraseIdx i := by
    intro es
    induction es with
    | nil => intro i; rfl
    | cons e r ih => intro i; cases i with | zero => rfl | succ i => simp [entDel, ih]
  have mp : ∀ (es : List AEnt) (i : Nat), (es.eraseIdx i).map (concEnt ρ) = (es.map (concEnt ρ)).eraseIdx i := by
    intro es
    induction es with
    | nil => intro i; rfl
    | cons e r ih => intro i; cases i with | zero => rfl | succ i => simp [ih]
  apply Array.toList_inj.1
  rw [gen, Array.eraseIdxIfInBounds]
  split
  · simp [mp]
  · rename_i hi
    simp only [List.size_toArray, List.length_map, Nat.not_lt] at hi
    simp [List.eraseIdx_of_length_le hi]
theorem entDel_mem : ∀ (es : List AEnt) (i : Nat) (e : AEnt), e ∈ entDel es i → e ∈ es
  | [], _, e, he => by simp [entDel] at he
  | x :: r, 0, e, he => List.mem_cons_of_mem _ he
  | x :: r, i + 1, e, he => by
    simp only [entDel, List.mem_cons] at he
    rcases he with rfl | he
    · exact List.mem_cons_self ..
    · exact List.mem_cons_of_mem _ (entDel_mem r i e he)

theorem set_self {o : Obj} {r : Nat} (ho : w.heap[r]? = some o) : ({ w with heap := w.heap.setIfInBounds r o } : World) = w := by
  have : w.heap.setIfInBounds r o = w.heap := by
    apply Array.ext_getElem?
    intro i
    by_cases e : r = i
    · subst e
      rw [Array.getElem?_setIfInBounds_self, ho]
      rw [if_pos (Array.getElem?_eq_some_iff.1 ho).1]
    · rw [Array.getElem?_setIfInBounds_ne e]
  rw [this]

theorem xDelete_ok (hr : Rel ρ h w) (ts : Array TypeId) (ty t : Nat) (ht : ts[0]? = some t) {m kv : AV} : (xDelete (Env.of P) t m kv h).Says ρ h w (thenV ((Builtin.delete_ ts ty #[conc ρ m, conc ρ kv]).run P w)) := by
  refine says_key fun kt e kd hd hkd hok => ?_
  cases m with
  | map b =>
    refine says_map fun es c hb => says_wo fun r hr' => ?_
    obtain ⟨ho, hse⟩ := map_obj hr hb
    have hnc : ∀ c' t f, Obj.map (es.map (concEnt ρ)).toArray c ≠ .cells c' t f := by intro c t f e; cases e
    have hg := run_getObj (P := P) ho hnc
    have hf := findKey_run (ρ := ρ) (w := w) hkd hok hr'
    cases r with
    | none =>
      refine says_v hr (show sc ρ h.nx (AV.tup []) from trivial) ?_
      have hs := run_setObj (P := P) (.map (es.map (concEnt ρ)).toArray c) ho hnc
      rw [set_self ho] at hs
      simp [Builtin.delete_, ht, conc, concL, run_und hd, hg, checkKey_run _ hkd hok, hf, hs]
    | some p =>
      obtain ⟨i, v⟩ := p
      obtain ⟨q1, q2⟩ := hr.put hb (x' := .map (entDel es i) c) (.map ((es.map (concEnt ρ)).toArray.eraseIdxIfInBounds i) c) ⟨by rw [entDel_map], fun e he => hse e (entDel_mem es i e he)⟩
      refine says_v' ?_ q1 q2 (show sc ρ _ (AV.tup []) from trivial)
      have hs := run_setObj (P := P) (.map ((es.map (concEnt ρ)).toArray.eraseIdxIfInBounds i) c) ho hnc
      simp only [List.eraseIdxIfInBounds_toArray] at hs
      simp [Builtin.delete_, ht, conc, concL, run_und hd, hg, checkKey_run _ hkd hok, hf, hs]
  | _ => trivial

/-! Iterators -/
theorem xRange_ok (hr : Rel ρ h w) (t : Nat) {x : AV} (hx : sc ρ h.nx x) : (xRange (Env.of P) t x h).Says ρ h w (thenV ((Instr.range t (conc ρ x)).run P w)) := by
  refine says_wo fun d hd => ?_
  cases d with
  | string =>
    cases x with
    | str n x =>
      obtain ⟨q1, q2⟩ := hr.alloc (.siter n x 0) (.stringIter ⟨(unpack n x).toArray⟩ 0) 0 ⟨rfl, Rho.upd_base ..⟩
      refine says_v' ?_ q1 q2 (Nat.lt_succ_self _)
      simp [Instr.range, run_und hd, conc, Rho.at, Rho.upd]
    | _ => trivial
  | map k e =>
    cases x with
    | nilm =>
      obtain ⟨q1, q2⟩ := hr.alloc (.miter none 0 [] 0) (.mapIter none 0 #[] 0) 0 ⟨rfl, Rho.upd_base .., fun k hk => by cases hk⟩
      refine says_v' ?_ q1 q2 (Nat.lt_succ_self _)
      simp [Instr.range, run_und hd, conc, Rho.at, Rho.upd]
    | map b =>
      refine says_map fun es c hb => ?_
      obtain ⟨ho, hse⟩ := map_obj hr hb
      have hg := run_getObj (P := P) ho (by intro c t f e; cases e)
      have hbx : b < h.nx := hx
      obtain ⟨q1, q2⟩ := hr.alloc (.miter (some b) c [] c) (.mapIter (some (ρ.blk b)) c #[] c) 0 ⟨by rw [Option.map_some, Rho.upd_blk_other _ _ _ _ (by omega)], Rho.upd_base .., fun k hk => by injection hk with hk; omega⟩
      refine says_v' ?_ q1 q2 (Nat.lt_succ_self _)
      simp [Instr.range, run_und hd, conc, hg, Rho.at, Rho.upd]
    | _ => trivial
  | _ => trivial

theorem decode_ascii {n x pos : Nat} (hp : pos < n) (ha : x / 256 ^ pos % 256 < 128) : Utf8.decode ⟨(unpack n x).toArray⟩ pos = (x / 256 ^ pos % 256, 1) := by
  have hm : x / 256 ^ pos % 256 < 256 := Nat.mod_lt _ (by decide)
  have hg := unpack_get n x pos hp
  have hb : ((⟨(unpack n x).toArray⟩ : ByteArray).get! (pos + 0)).toNat = x / 256 ^ pos % 256 := by
    show ((unpack n x).toArray[pos + 0]!).toNat = _
    rw [Nat.add_zero]
    simp only [List.getElem!_toArray, List.getElem!_eq_getElem?_getD, hg, Option.getD_some, ofNat_toNat hm]
  unfold Utf8.decode
  simp only [hb]
  rw [if_pos (by omega)]

theorem xNextS_ok (hr : Rel ρ h w) {b n x pos ty : Nat} (hb : h.m.get b = some (.siter n x pos)) : (xNextS b n x pos h).Says ρ h w (thenV ((Instr.next (conc ρ (.ptr b 0)) true ty).run P w)) := by
  obtain ⟨o, ho, he, hbase⟩ := hr.is b _ hb
  subst he
  have hnc : ∀ c' t f, Obj.stringIter ⟨(unpack n x).toArray⟩ pos ≠ .cells c' t f := by intro c t f e; cases e
  have hg := run_getObj (P := P) ho hnc
  have hp : conc ρ (.ptr b 0) = .pointer (some ⟨ρ.blk b, 0, none⟩) := by simp [conc, Rho.at, hbase]
  rw [hp]
  unfold xNextS
  cases hlt : Nat.blt pos n with
  | false =>
    have hge : ¬ pos < n := fun hh => by rw [blt_eq] at hlt; simp at hlt; omega
    refine says_v hr (show sc ρ h.nx (AV.tup [.bool false]) from ⟨trivial, trivial⟩) ?_
    simp [Instr.next, hg, bytes_size, hge, conc, concL]
  | true =>
    have hlt' := blt_lt hlt
    simp only [cond_true]
    cases ha : Nat.blt (x / 256 ^ pos % 256) 128 with
    | false => trivial
    | true =>
      have ha' := blt_lt ha
      obtain ⟨q1, q2⟩ := hr.put hb (x' := .siter n x (pos + 1)) (.stringIter ⟨(unpack n x).toArray⟩ (pos + 1)) ⟨rfl, hbase⟩
      refine says_v' ?_ q1 q2 (show sc ρ _ (AV.tup [.bool true, .int .i64 (.ofNat pos), .int .i32 (.ofNat (x / 256 ^ pos % 256))]) from ⟨trivial, trivial, trivial, trivial⟩)
      have hs := run_setObj (P := P) (.stringIter ⟨(unpack n x).toArray⟩ (pos + 1)) ho hnc
      simp [Instr.next, hg, bytes_size, hlt', decode_ascii hlt' ha', hs, conc, concL, goInt]

theorem xNextN_ok (hr : Rel ρ h w) {b since stepped ty : Nat} {seen : List Nat} (hb : h.m.get b = some (.miter none since seen stepped)) : (OR.val (.tup [.bool false]) h).Says ρ h w (thenV ((Instr.next (conc ρ (.ptr b 0)) false ty).run P w)) := by
  obtain ⟨o, ho, he, hbase, _⟩ := hr.is b _ hb
  subst he
  have hg := run_getObj (P := P) ho (by intro c t f e; cases e)
  have hp : conc ρ (.ptr b 0) = .pointer (some ⟨ρ.blk b, 0, none⟩) := by simp [conc, Rho.at, hbase]
  rw [hp]
  refine says_v hr (show sc ρ h.nx (AV.tup [.bool false]) from ⟨trivial, trivial⟩) ?_
  simp [Instr.next, hg, conc, concL]

theorem left_map (es : List AEnt) (seen : List Nat) : ((es.map (concEnt ρ)).toArray.filter fun e => !seen.toArray.contains e.born) = ((left es seen).map (concEnt ρ)).toArray := by
  apply Array.toList_inj.1
  simp only [Array.toList_filter, left]
  rw [List.filter_map]
  congr 1
  apply List.filter_congr
  intro e _
  simp only [Function.comp, concEnt]
  congr 1
  rw [Bool.eq_iff_iff]
  simp [Nat.beq_eq]

theorem Rel.drawn {ρ : Rho} {h : Heap} {w : World} (hr : Rel ρ h w) (k : Nat) : Rel ρ h { w with drawn := k } := ⟨hr.lt, hr.is, hr.inj⟩
theorem Ext.drawn (ρ : Rho) (h : Heap) (w : World) (k : Nat) : Ext ρ h w ρ h { w with drawn := k } :=
  ⟨Nat.le_refl _, rfl, rfl, rfl, Nat.le_refl _, fun _ _ => ⟨rfl, rfl, rfl⟩, fun _ _ _ => rfl, fun b x hb => Or.inl ⟨b, x, hb, rfl⟩⟩
theorem choose_next (w : World) (n : Nat) (hn : 0 < n) : ∃ i k, (choose (.mapNext n)).run P w = .ok i { w with drawn := k } ∧ i < n := by
  rw [run_choose]
  by_cases hf : (Question.mapNext n).forced = true
  · exact ⟨0, w.drawn, by rw [if_pos hf], hn⟩
  · exact ⟨(Question.mapNext n).cut (w.tape w.drawn (Question.mapNext n)), w.drawn + 1, by rw [if_neg hf], Nat.mod_lt _ hn⟩

theorem xNextM_ok (hr : Rel ρ h w) {b m since stepped ty : Nat} {seen : List Nat} (hb : h.m.get b = some (.miter (some m) since seen stepped)) : (xNextM b m since seen stepped h).Says ρ h w (thenV ((Instr.next (conc ρ (.ptr b 0)) false ty).run P w)) := by
  obtain ⟨o, ho, he, hbase, hmn⟩ := hr.is b _ hb
  subst he
  have hnc : ∀ c' t f, Obj.mapIter ((some m).map ρ.blk) since seen.toArray stepped ≠ .cells c' t f := by intro c t f e; cases e
  have hg := run_getObj (P := P) ho hnc
  have hp : conc ρ (.ptr b 0) = .pointer (some ⟨ρ.blk b, 0, none⟩) := by simp [conc, Rho.at, hbase]
  rw [hp]
  refine says_map fun es c hm => ?_
  obtain ⟨hom, hse⟩ := map_obj hr hm
  have hgm := run_getObj (P := P) hom (by intro c t f e; cases e)
  cases hc : (es.all (fun e => Nat.blt e.born since) && Nat.ble since stepped) with
  | false => trivial
  | true =>
    simp only [Bool.and_eq_true] at hc
    have hle := ble_le hc.2
    have hborn : ∀ e ∈ es, e.born < since := fun e he => blt_lt (List.all_eq_true.1 hc.1 e he)
    simp only [cond_true]
    have hbad : ¬ ((!seen.toArray.isEmpty && !(es.map (concEnt ρ)).toArray.isEmpty && (es.map (concEnt ρ)).toArray.all fun e => decide (e.born ≥ stepped)) = true) := by
      simp only [Bool.and_eq_true, not_and]
      intro _
      cases es with
      | nil => simp at *
      | cons e r =>
        have := hborn e (by simp)
        simp [concEnt]
        intro hh; omega
    have hold : ((left es seen).map (concEnt ρ)).toArray.filter (fun e => decide (e.born < since)) = ((left es seen).map (concEnt ρ)).toArray := by
      apply Array.toList_inj.1
      simp only [Array.toList_filter]
      apply List.filter_eq_self.2
      intro e he
      obtain ⟨e', he', rfl⟩ := List.mem_map.1 he
      have : e' ∈ es := (List.mem_filter.1 he').1
      exact decide_eq_true (hborn e' this)
    have hnew : ((left es seen).map (concEnt ρ)).toArray.filter (fun e => decide (e.born ≥ since)) = #[] := by
      apply Array.toList_inj.1
      simp only [Array.toList_filter]
      apply List.filter_eq_nil_iff.2
      intro e he
      obtain ⟨e', he', rfl⟩ := List.mem_map.1 he
      have : e' ∈ es := (List.mem_filter.1 he').1
      have := hborn e' this
      simp [concEnt]; omega
    have hmap : (Option.map ρ.blk (some m)) = some (ρ.blk m) := rfl
    rw [hmap] at hg ho hnc
    cases hl : left es seen with
    | nil =>
      have hl0 := left_map (ρ := ρ) es seen
      rw [hl] at hl0
      refine says_v hr (show sc ρ h.nx (AV.tup [.bool false]) from ⟨trivial, trivial⟩) ?_
      simp only [Instr.next, Sem.run_bind, hg, hgm, Result.andThen_ok, if_neg hbad]
      simp only [hl0]
      simp [conc, concL, Question.forced]
    | cons e0 r =>
      obtain ⟨i, k, hch, hi⟩ := choose_next (P := P) w (left es seen).length (by rw [hl]; simp)
      have hl0 := left_map (ρ := ρ) es seen
      have hei : (left es seen)[i]? = some (left es seen)[i] := List.getElem?_eq_getElem hi
      have hmem : (left es seen)[i] ∈ left es seen := List.getElem_mem hi
      have hme : (left es seen)[i] ∈ es := (List.mem_filter.1 hmem).1
      generalize (left es seen)[i] = e at hei hmem hme
      have hmem' : e ∈ e0 :: r := by rw [← hl]; exact hmem
      refine ⟨_, List.mem_map.2 ⟨e, hmem', rfl⟩, ?_⟩
      have hr1 := hr.drawn k
      obtain ⟨q1, q2⟩ := hr1.put hb (x' := .miter (some m) since (seen ++ [e.born]) c) (.mapIter (some (ρ.blk m)) since (seen.toArray.push e.born) c) ⟨by simp, hbase, hmn⟩
      have hset := run_setObj (P := P) (w := { w with drawn := k }) (.mapIter (some (ρ.blk m)) since (seen.toArray.push e.born) c) ho hnc
      refine says_v' (v := .tup [.bool true, e.key, e.val]) ?_ q1 ((Ext.drawn ρ h w k).trans q2) ⟨trivial, (hse e hme).1, (hse e hme).2, trivial⟩
      simp only [Instr.next, Sem.run_bind, hg, hgm, Result.andThen_ok, if_neg hbad]
      simp only [hl0, hold, hnew]
      have hne : ((left es seen).map (concEnt ρ)).toArray.isEmpty = false := by rw [hl]; rfl
      have hcand : ((if ((left es seen).map (concEnt ρ)).toArray.isEmpty = true then #[none] else #[]) ++ (((left es seen).map (concEnt ρ)).toArray ++ #[]).map some : Array (Option MapEntry)) = ((left es seen).map (fun e => some (concEnt ρ e))).toArray := by
        rw [hne]; simp
      simp only [hcand, List.size_toArray, List.length_map, hch, Result.andThen_ok]
      have hgt : ((left es seen).map (fun e => some (concEnt ρ e))).toArray[i]? = some (some (concEnt ρ e)) := by rw [List.getElem?_toArray, List.getElem?_map, hei]; rfl
      rw [hgt]
      simp only [Sem.run_bind, concEnt, hset, Result.andThen_ok]
      simp [conc, concL]

theorem xNext_ok (hr : Rel ρ h w) {x : AV} (s : Bool) (ty : Nat) : (xNext x s h).Says ρ h w (thenV ((Instr.next (conc ρ x) s ty).run P w)) := by
  cases x with
  | ptr b o =>
    unfold xNext
    simp only []
    cases ho : Nat.beq o 0 with
    | false => trivial
    | true =>
      have := beq_eq ho
      subst this
      simp only [cond_true]
      refine says_wo fun blk hb => ?_
      cases blk with
      | siter n x pos =>
        cases s with
        | true => exact xNextS_ok hr hb
        | false => trivial
      | miter m since seen stepped =>
        cases m with
        | none =>
          cases s with
          | true => trivial
          | false => exact xNextN_ok hr hb
        | some m =>
          cases s with
          | true => trivial
          | false => exact xNextM_ok hr hb
      | _ => trivial
  | _ => trivial

theorem entAt_find (n : Nat) : ∀ (es : List AEnt) (e : AEnt), entAt n es = some e → (es.map (concEnt ρ)).find? (·.born == n) = some (concEnt ρ e) ∧ e ∈ es
  | [], e, he => by cases he
  | x :: r, e, he => by
    unfold entAt at he
    cases hb : Nat.beq x.born n with
    | true =>
      rw [hb] at he
      injection he with he
      subst he
      refine ⟨?_, by simp⟩
      rw [List.map_cons, List.find?_cons_of_pos]
      simp [concEnt, beq_eq hb]
    | false =>
      rw [hb] at he
      obtain ⟨q1, q2⟩ := entAt_find n r e he
      refine ⟨?_, by simp [q2]⟩
      rw [List.map_cons, List.find?_cons_of_neg]
      · exact q1
      · intro hh
        have : x.born = n := by simpa [concEnt] using hh
        rw [this, Nat.beq_refl] at hb
        cases hb
theorem lastN_back : ∀ (l : List Nat) (n : Nat), lastN l = some n → l.toArray.back? = some n
  | [], n, hn => by cases hn
  | [m], n, hn => by injection hn with hn; subst hn; rfl
  | k :: m :: r, n, hn => by
    have := lastN_back (m :: r) n hn
    simpa using this
theorem xEntry_ok (hr : Rel ρ h w) {x : AV} : (xEntry x h).Says ρ h w (thenV ((Instr.entry (conc ρ x)).run P w)) := by
  cases x with
  | ptr b o =>
    unfold xEntry
    simp only []
    cases ho : Nat.beq o 0 with
    | false => trivial
    | true =>
      have := beq_eq ho
      subst this
      simp only [cond_true]
      refine says_wo fun blk hb => ?_
      cases blk with
      | miter m since seen stepped =>
        cases m with
        | none => trivial
        | some m =>
          refine says_wo fun n hn => ?_
          obtain ⟨o, ho, he, hbase, hmn⟩ := hr.is b _ hb
          subst he
          have hnc : ∀ c' t f, Obj.mapIter ((some m).map ρ.blk) since seen.toArray stepped ≠ .cells c' t f := by intro c t f e; cases e
          have hg := run_getObj (P := P) ho hnc
          have hp : conc ρ (.ptr b 0) = .pointer (some ⟨ρ.blk b, 0, none⟩) := by simp [conc, Rho.at, hbase]
          rw [hp]
          refine says_map fun es c hm => ?_
          obtain ⟨hom, hse⟩ := map_obj hr hm
          have hgm := run_getObj (P := P) hom (by intro c t f e; cases e)
          cases hc : Nat.beq c stepped with
          | false => trivial
          | true =>
            have hcs := beq_eq hc
            subst hcs
            simp only [cond_true]
            refine says_wo fun e he => ?_
            obtain ⟨q1, q2⟩ := entAt_find (ρ := ρ) n es e he
            refine says_v hr (show sc ρ h.nx (AV.tup [e.key, e.val]) from ⟨(hse e q2).1, (hse e q2).2, trivial⟩) ?_
            have hmap : (Option.map ρ.blk (some m)) = some (ρ.blk m) := rfl
            rw [hmap] at hg
            simp only [Instr.entry, Sem.run_bind, hg, Result.andThen_ok]
            rw [lastN_back seen n hn]
            simp only [Sem.run_bind, hgm, Result.andThen_ok, bne_self_eq_false, Bool.false_eq_true, if_false]
            rw [List.find?_toArray, q1]
            simp [conc, concL, concEnt]
      | _ => trivial
  | _ => trivial

end Go.Ev
/- The evaluator, part 11: lengths, append, copy, least and greatest. -/
noncomputable section
namespace Go.Ev

variable {P : Program} {ρ : Rho} {h : Heap} {w : World}

theorem xLen_ok (hr : Rel ρ h w) (ts : Array TypeId) (ty t : Nat) (ht : ts[0]? = some t) {x : AV} : (xLen (Env.of P) t x h).Says ρ h w (thenV ((Builtin.len_ ts ty #[conc ρ x]).run P w)) := by
  refine says_wo fun d hd => ?_
  cases d with
  | array n e =>
    refine says_v hr (show sc ρ h.nx (AV.int .i64 (.ofNat n)) from trivial) ?_
    simp [Builtin.len_, ht, run_und hd, conc, goInt]
  | pointer a =>
    refine says_wo fun d' hd' => ?_
    cases d' with
    | array n e =>
      refine says_v hr (show sc ρ h.nx (AV.int .i64 (.ofNat n)) from trivial) ?_
      simp [Builtin.len_, ht, run_und hd, run_und hd', conc, goInt]
    | _ => trivial
  | string =>
    cases x with
    | str n x =>
      refine says_v hr (show sc ρ h.nx (AV.int .i64 (.ofNat n)) from trivial) ?_
      simp [Builtin.len_, ht, run_und hd, conc, goInt, bytes_size]
    | _ => trivial
  | slice e =>
    cases x with
    | nils =>
      refine says_v hr (show sc ρ h.nx (AV.int .i64 (.ofNat 0)) from trivial) ?_
      simp [Builtin.len_, ht, run_und hd, conc, goInt]
    | sl b o n c =>
      refine says_v hr (show sc ρ h.nx (AV.int .i64 (.ofNat n)) from trivial) ?_
      simp [Builtin.len_, ht, run_und hd, conc, goInt]
    | slu b o n z e =>
      refine says_v hr (show sc ρ h.nx (AV.int .i64 (.ofNat n)) from trivial) ?_
      simp [Builtin.len_, ht, run_und hd, conc, goInt]
    | _ => trivial
  | map k e =>
    cases x with
    | nilm =>
      refine says_v hr (show sc ρ h.nx (AV.int .i64 (.ofNat 0)) from trivial) ?_
      simp [Builtin.len_, ht, run_und hd, conc, goInt]
    | map b =>
      refine says_map fun es c hb => ?_
      obtain ⟨ho, hse⟩ := map_obj hr hb
      have hg := run_getObj (P := P) ho (by intro c t f e; cases e)
      refine says_v hr (show sc ρ h.nx (AV.int .i64 (.ofNat es.length)) from trivial) ?_
      simp [Builtin.len_, ht, run_und hd, conc, goInt, hg]
    | _ => trivial
  | _ => trivial

theorem xCap_ok (hr : Rel ρ h w) (ts : Array TypeId) (ty t : Nat) (ht : ts[0]? = some t) {x : AV} : (xCap (Env.of P) t x h).Says ρ h w (thenV ((Builtin.cap_ ts ty #[conc ρ x]).run P w)) := by
  refine says_wo fun d hd => ?_
  cases d with
  | slice e =>
    cases x with
    | nils =>
      refine says_v hr (show sc ρ h.nx (AV.int .i64 (.ofNat 0)) from trivial) ?_
      simp [Builtin.cap_, ht, run_und hd, conc, goInt]
    | sl b o n c =>
      refine says_v hr (show sc ρ h.nx (AV.int .i64 (.ofNat c)) from trivial) ?_
      simp [Builtin.cap_, ht, run_und hd, conc, goInt]
    | _ => trivial
  | _ => trivial

theorem xMin_ok (hr : Rel ρ h w) (ts : Array TypeId) (ty : Nat) {u v : AV} : (xMin true u v h).Says ρ h w (thenV ((Builtin.min_ ts ty #[conc ρ u, conc ρ v]).run P w)) := by
  cases u with
  | int k a =>
    cases v with
    | int j b =>
      unfold xMin
      simp only []
      cases hk : keq k j with
      | false => trivial
      | true =>
        refine says_v hr (show sc ρ h.nx (AV.int k _) from trivial) ?_
        have e : (bif ltF b a then b else a) = if b < a then b else a := by rw [ltF_eq]; by_cases hh : b < a <;> simp [hh]
        simp [Builtin.min_, conc, Builtin.min2, e]
    | _ => trivial
  | _ => trivial
theorem xMax_ok (hr : Rel ρ h w) (ts : Array TypeId) (ty : Nat) {u v : AV} : (xMin false u v h).Says ρ h w (thenV ((Builtin.max_ ts ty #[conc ρ u, conc ρ v]).run P w)) := by
  cases u with
  | int k a =>
    cases v with
    | int j b =>
      unfold xMin
      simp only []
      cases hk : keq k j with
      | false => trivial
      | true =>
        refine says_v hr (show sc ρ h.nx (AV.int k _) from trivial) ?_
        have e : (bif ltF a b then b else a) = if a < b then b else a := by rw [ltF_eq]; by_cases hh : a < b <;> simp [hh]
        simp [Builtin.max_, conc, Builtin.max2, e]
    | _ => trivial
  | _ => trivial

/-! The source of an append or a copy -/
def rowV : AV → Bool
  | .sl _ _ _ _ | .slu _ _ _ _ _ | .nils | .str _ _ => true
  | _ => false
theorem srcA_row {z n : Nat} {y : AV} {l : List AV} (hs : srcA h z n y = some l) : rowV y = true := by
  cases y <;> first | rfl | cases hs
theorem lenOf_run {y : AV} {m : Nat} (hy : rowV y = true) (hm : lenA h y = some m) (w : World) : (Builtin.lenOf (conc ρ y)).run P w = .ok m w := by
  cases y <;> first | cases hy | skip
  all_goals (injection hm with hm; subst hm; simp [conc, Builtin.lenOf, bytes_size])
theorem first_run (hr : Rel ρ h w) {z n m : Nat} {y : AV} {l : List AV} (hy : sc ρ h.nx y) (hm : lenA h y = some m) (hle : n ≤ m) (hs : srcA h z n y = some l) :
    (Builtin.firstCells z n (conc ρ y)).run P w = .ok (l.map (conc ρ)).toArray w ∧ (∀ v ∈ l, sc ρ h.nx v) := by
  cases y with
  | sl b o k c =>
    obtain ⟨q1, q2, q3, _⟩ := load_run (P := P) hr hs
    exact ⟨q1, fun v hv => (q3 v hv).1⟩
  | slu b o k zz e =>
    obtain ⟨q1, q2, q3, _⟩ := load_run (P := P) hr hs
    refine ⟨?_, fun v hv => (q3 v hv).1⟩
    injection hm with hm
    simp only [conc, Builtin.firstCells]
    by_cases h0 : ρ.room b o zz = 0
    · have hk := hy.2
      have hn0 : n = 0 := by omega
      subst hn0
      have hl : l = [] := by apply List.eq_nil_of_length_eq_zero; rw [q2]; omega
      subst hl
      simp [loadCells, loadCellsFrom]
    · rw [if_neg h0]; exact q1
  | nils =>
    injection hs with hs; subst hs
    exact ⟨by simp [conc, Builtin.firstCells], by simp⟩
  | str k x =>
    simp only [srcA] at hs
    cases hz : Nat.beq z 1 with
    | false => rw [hz] at hs; cases hs
    | true =>
      rw [hz] at hs
      injection hs with hs
      subst hs
      injection hm with hm
      subst hm
      refine ⟨?_, fun v hv => by obtain ⟨b, _, rfl⟩ := List.mem_map.1 hv; trivial⟩
      have he : ((⟨(unpack k x).toArray⟩ : ByteArray).extract 0 n).data = ((unpack k x).take n).toArray := by
        have := extract_unpack k x 0 n (Nat.zero_le _) hle
        rw [this, unpack_take n k x hle]
        simp
      simp only [conc, Builtin.firstCells, he, Sem.run_pure]
      congr 1
      apply Array.toList_inj.1
      simp only [List.map_toArray, List.map_map]
      rfl
  | _ => cases hs

/-! Append -/
theorem growBy_le : ∀ (r need c : Nat), c ≤ 2 * need + 1000 → Builtin.growBy need r c ≤ 2 * need + 1000
  | 0, _, _, h => h
  | r + 1, need, c, h => by
    unfold Builtin.growBy
    split
    · exact h
    · exact growBy_le r need _ (by omega)
theorem slicecap_le {need c : Nat} (hc : c < need) : Builtin.nextslicecap need c ≤ 2 * need + 1000 := by
  unfold Builtin.nextslicecap
  split
  · omega
  · split
    · omega
    · exact growBy_le 4 need c (by omega)
theorem small_ok {n bytes c : Nat} (hs : small n bytes = true) (hc : c < n) : ¬ (Builtin.nextslicecap n c * bytes > 2 ^ 48) ∧ bytes ≠ 0 := by
  simp only [small, Bool.and_eq_true] at hs
  have h1 := ble_le hs.1.1
  have h3 := blt_lt hs.2
  have := Nat.mul_le_mul_right bytes (slicecap_le hc)
  omega

theorem isRow_int {d : TypeDesc} (hd : isRow d = true) : (d matches .int _) = false := by
  cases d <;> first | rfl | cases hd

theorem append_in {ts : Array TypeId} {ty t u e : Nat} {d' : TypeDesc} {i : TypeInfo} (ht : ts[0]? = some t) (hu : ts[1]? = some u) (hd : (Env.of P).und t = some (.slice e)) (hd' : (Env.of P).und u = some d') (hrow : isRow d' = true)
    (hi : (Env.of P).types.get e = some i) {X : Value} {n m c : Nat} {base : Option Addr} {N : Array Value} (hl : ∀ w, (Builtin.lenOf X).run P w = .ok m w) (hf : (Builtin.firstCells i.size m X).run P w = .ok N w) (hle : n + m ≤ c) :
    (Builtin.append_ ts ty #[.slice base n c, X]).run P w = (match base with | some a => (storeCells (a.add (n * i.size)) N.toList).run P w | none => .ok () w).andThen fun _ w' => .ok (.slice base (n + m) c) w' := by
  have hz : (Env.of P).size e = some i.size := by unfold Env.size; rw [hi]
  cases d' <;> first | cases hrow | skip
  all_goals
    unfold Builtin.append_
    simp only [ht, hu, List.getElem?_toArray, List.getElem?_cons_zero, List.getElem?_cons_succ, Sem.run_bind, run_und hd, run_und hd', run_size hz, Result.andThen_ok, Sem.run_pure, Bool.false_eq_true, if_false, hl, Bool.not_false, if_true, if_pos hle, hf]
    cases base <;> simp

theorem append_grow {ts : Array TypeId} {ty t u e : Nat} {d' : TypeDesc} {i : TypeInfo} (ht : ts[0]? = some t) (hu : ts[1]? = some u) (hd : (Env.of P).und t = some (.slice e)) (hd' : (Env.of P).und u = some d') (hrow : isRow d' = true)
    (hi : (Env.of P).types.get e = some i) {X V : Value} {n m c : Nat} {base : Option Addr} {O N : Array Value} (hl : ∀ w, (Builtin.lenOf X).run P w = .ok m w)
    (ho : (Builtin.firstCells i.size n (.slice base n c)).run P { w with drawn := w.drawn + 1 } = .ok O { w with drawn := w.drawn + 1 })
    (hf : (Builtin.firstCells i.size m X).run P { w with drawn := w.drawn + 1 } = .ok N { w with drawn := w.drawn + 1 }) (hV : ∀ w, (zeroValue e).run P w = .ok V w)
    (hlt : c < n + m) (hs : small (n + m) i.bytes = true) :
    ∃ k, n + m ≤ k ∧ (Builtin.append_ ts ty #[.slice base n c, X]).run P w = .ok (.slice (some ⟨w.heap.size, 0, none⟩) (n + m) k) { w with drawn := w.drawn + 1, heap := w.heap.push (.cells (O ++ N ++ Builtin.zeroCells V.cells (k - (n + m))) e) } := by
  have hz : (Env.of P).size e = some i.size := by unfold Env.size; rw [hi]
  obtain ⟨hs1, hs2⟩ := small_ok hs hlt
  refine ⟨(n + m) + w.tape w.drawn (.appendCap (n + m) c e) % (2 ^ 63 - (n + m)), Nat.le_add_right _ _, ?_⟩
  have hch : ∀ w : World, (choose (.appendCap (n + m) c e)).run P w = .ok ((n + m) + w.tape w.drawn (.appendCap (n + m) c e) % (2 ^ 63 - (n + m))) { w with drawn := w.drawn + 1 } := fun w => rfl
  cases d' <;> first | cases hrow | skip
  all_goals
    unfold Builtin.append_
    simp only [ht, hu, List.getElem?_toArray, List.getElem?_cons_zero, List.getElem?_cons_succ, Sem.run_bind, run_und hd, run_und hd', run_size hz, run_info hi, Result.andThen_ok, Sem.run_pure, Bool.false_eq_true, if_false, hl, Bool.not_false, if_true, if_neg (Nat.not_le.2 hlt), hf, hs2, or_self, and_false, if_neg hs1, hch, run_askRoom, ho, hV, newRow, run_newObj]

end Go.Ev
/- The evaluator, part 12: append and copy, joined. -/
noncomputable section
namespace Go.Ev

variable {P : Program} {ρ : Rho} {h : Heap} {w : World}

theorem zeroCells_size {V : Value} {z : Nat} (hV : V.cells.size = z) (k : Nat) : (Builtin.zeroCells V.cells k).size = k * z := by
  simp [Builtin.zeroCells, hV]

/-- A grown row. -/
theorem grow_row (hr : Rel ρ h w) (t : Nat) {z m k fz : Nat} {q : Bool} (hz : 0 < z) {cells : List AV} (hlen : cells.length = m * z) (hm : 0 < m) (hk : m ≤ k) (h1 : allOne cells = true) (hs : ∀ v ∈ cells, sc ρ h.nx v) {V : Value} (hV : V.cells.size = z) {C : Array Value}
    (hC : C = (cells.map (conc ρ)).toArray ++ Builtin.zeroCells V.cells (k - m)) :
    ∃ ρ', Rel ρ' (h.new (rowQ t cells fz q)) { w with drawn := w.drawn + 1, heap := w.heap.push (.cells C t) } ∧
      Ext ρ h w ρ' (h.new (rowQ t cells fz q)) { w with drawn := w.drawn + 1, heap := w.heap.push (.cells C t) } ∧
      conc ρ' (.slu h.nx 0 m z 0) = .slice (some ⟨w.heap.size, 0, none⟩) m k ∧ sc ρ' (h.nx + 1) (.slu h.nx 0 m z 0) := by
  have hCs : C.size = k * z := by
    rw [hC, Array.size_append, zeroCells_size hV, List.size_toArray, List.length_map, hlen, ← Nat.add_mul]
    congr 1; omega
  obtain ⟨q1, q2⟩ := hr.drew.row t cells C fz q (0, 0) (by rw [hlen, hCs]; exact Nat.mul_le_mul_right _ hk) (fun i v hv => by
    have hi : i < cells.length := (List.getElem?_eq_some_iff.1 hv).1
    rw [hC, Array.getElem?_append_left (by simpa using hi)]
    simp [hv]) h1 hs (fun i _ _ hh => absurd hh.2 (by simp)) (fun _ => Or.inl rfl)
  have hroom : (ρ.upd h.nx w.heap.size 0 C.size).room h.nx 0 z = k := by
    unfold Rho.room
    rw [Rho.upd_cap, hCs, Nat.sub_zero, Nat.mul_div_cancel _ hz]
  refine ⟨_, q1, q2.drew, ?_, Nat.lt_succ_self _, by rw [hroom]; exact hk⟩
  simp only [conc, hroom]
  rw [if_neg (by omega)]
  simp [Rho.at, Rho.upd]

theorem appNew_ok (hr : Rel ρ h w) {ts : Array TypeId} {ty t u e : Nat} {d' : TypeDesc} {i : TypeInfo} (ht : ts[0]? = some t) (hu : ts[1]? = some u) (hd : (Env.of P).und t = some (.slice e)) (hd' : (Env.of P).und u = some d') (hrow : isRow d' = true)
    (hi : (Env.of P).types.get e = some i) {X V : Value} {n m c : Nat} {base : Option Addr} {old new : List AV} (hl : ∀ w, (Builtin.lenOf X).run P w = .ok m w)
    (ho : (Builtin.firstCells i.size n (.slice base n c)).run P { w with drawn := w.drawn + 1 } = .ok (old.map (conc ρ)).toArray { w with drawn := w.drawn + 1 })
    (hf : (Builtin.firstCells i.size m X).run P { w with drawn := w.drawn + 1 } = .ok (new.map (conc ρ)).toArray { w with drawn := w.drawn + 1 }) (hV : ∀ w, (zeroValue e).run P w = .ok V w)
    (hlt : c < n + m) (hs : small (n + m) i.bytes = true) (hVz : V.cells.size = i.size) (hz : 0 < i.size) (hol : old.length = n * i.size) (hnl : new.length = m * i.size) (hso : ∀ v ∈ old, sc ρ h.nx v) (hsn : ∀ v ∈ new, sc ρ h.nx v) :
    (appNew h e i.size (n + m) (old ++ new)).Says ρ h w (thenV ((Builtin.append_ ts ty #[.slice base n c, X]).run P w)) := by
  unfold appNew
  cases h1 : allOne (old ++ new) with
  | false => trivial
  | true =>
    obtain ⟨k, hk, hrun⟩ := append_grow (ty := ty) ht hu hd hd' hrow hi hl ho hf hV hlt hs
    obtain ⟨ρ', p1, p2, p3, p4⟩ := grow_row hr e (fz := 0) (q := false) hz (cells := old ++ new) (m := n + m) (k := k) (by rw [List.length_append, hol, hnl, Nat.add_mul]) (by omega) hk h1
      (fun v hv => by rcases List.mem_append.1 hv with hv | hv; exact hso v hv; exact hsn v hv) hVz (C := (old.map (conc ρ)).toArray ++ (new.map (conc ρ)).toArray ++ Builtin.zeroCells V.cells (k - (n + m))) (by simp)
    exact says_v' (by rw [hrun, p3]) p1 p2 p4

theorem Rel.del (hr : Rel ρ h w) (b : Nat) : Rel ρ ⟨h.m.del b, h.nx⟩ w ∧ Ext ρ h w ρ ⟨h.m.del b, h.nx⟩ w := by
  have hg : ∀ b' x, (h.m.del b).get b' = some x → h.m.get b' = some x := fun b' x hb' => by
    rw [Tr.get_del] at hb'
    by_cases e : b' = b
    · rw [if_pos e] at hb'; cases hb'
    · rw [if_neg e] at hb'; exact hb'
  exact ⟨hr.forget hg rfl, Nat.le_refl _, rfl, rfl, rfl, Nat.le_refl _, fun _ _ => ⟨rfl, rfl, rfl⟩, fun _ _ _ => rfl, fun b' x hb' => Or.inl ⟨b', x, hg b' x hb', rfl⟩⟩

theorem ldc_get {c : Tr AV} : ∀ (k o : Nat) (l : List AV), ldc c o k = some l → ∀ (j : Nat) (v : AV), l[j]? = some v → c.get (o + j) = some v
  | 0, o, l, hl, j, v, hj => by injection hl with hl; subst hl; simp at hj
  | k + 1, o, l, hl, j, v, hj => by
    unfold ldc at hl
    cases hv : c.get o with
    | none => rw [hv] at hl; cases hl
    | some x =>
      rw [hv] at hl
      simp only [] at hl
      cases hr' : ldc c (o + 1) k with
      | none => rw [hr'] at hl; cases hl
      | some r =>
        rw [hr'] at hl
        injection hl with hl
        subst hl
        cases j with
        | zero => simp at hj; subst hj; exact hv
        | succ j =>
          have := ldc_get k (o + 1) r hr' j v (by simpa using hj)
          rw [show o + (j + 1) = o + 1 + j by omega]; exact this

theorem stc_get : ∀ (vs : List AV) (o : Nat) (c : Tr AV) (j : Nat), (stc c o vs).get j = if o ≤ j ∧ j < o + vs.length then vs[j - o]? else c.get j
  | [], o, c, j => by rw [if_neg (by simp)]; rfl
  | v :: r, o, c, j => by
    rw [stc, stc_get r, Tr.get_set]
    by_cases h1 : o + 1 ≤ j ∧ j < o + 1 + r.length
    · rw [if_pos h1, if_pos (by simp; omega), show j - o = (j - (o + 1)) + 1 by omega, List.getElem?_cons_succ]
    · rw [if_neg h1]
      by_cases h2 : j = o
      · subst h2; rw [if_pos rfl, if_pos ⟨Nat.le_refl _, by simp⟩]; simp
      · rw [if_neg h2, if_neg (by simp; omega)]

/-- The end of a row, under a number of its own. -/
theorem Rel.part (hr : Rel ρ h w) {b t n fz o : Nat} {q : Bool} {c c' : Tr AV} {n' : Nat} (hb : h.m.get b = some (.cells t c n fz q)) (ho : o ≤ ρ.cap b) (hn' : n' ≤ ρ.cap b - o) (hc : ∀ i v, i < n' → c'.get i = some v → o + i < n ∧ c.get (o + i) = some v) :
    Rel (ρ.upd h.nx (ρ.blk b) (ρ.base b + o) (ρ.cap b - o)) (Heap.new ⟨h.m.del b, h.nx⟩ (.cells t c' n' (fz - o) q)) w ∧
    Ext ρ h w (ρ.upd h.nx (ρ.blk b) (ρ.base b + o) (ρ.cap b - o)) (Heap.new ⟨h.m.del b, h.nx⟩ (.cells t c' n' (fz - o) q)) w := by
  have hsame := ρ.upd_same h.nx (ρ.blk b) (ρ.base b + o) (ρ.cap b - o)
  have hget : ∀ b' y, (Heap.new ⟨h.m.del b, h.nx⟩ (.cells t c' n' (fz - o) q)).m.get b' = some y → (b' = h.nx ∧ y = .cells t c' n' (fz - o) q) ∨ (b' ≠ h.nx ∧ b' ≠ b ∧ h.m.get b' = some y) := fun b' y hb' => by
    have hb'' : ((h.m.del b).set h.nx (.cells t c' n' (fz - o) q)).get b' = some y := hb'
    rw [Tr.get_set] at hb''
    by_cases e : b' = h.nx
    · rw [if_pos e] at hb''; injection hb'' with hb''; exact Or.inl ⟨e, hb''.symm⟩
    · rw [if_neg e, Tr.get_del] at hb''
      by_cases e' : b' = b
      · rw [if_pos e'] at hb''; cases hb''
      · rw [if_neg e'] at hb''; exact Or.inr ⟨e, e', hb''⟩
  constructor
  · refine ⟨fun b' y hb' => ?_, fun b' y hb' => ?_, fun b1 b2 y1 y2 hb1 hb2 e => ?_⟩
    · show b' < h.nx + 1
      rcases hget b' y hb' with ⟨e, _⟩ | ⟨_, _, hb''⟩
      · omega
      · have := hr.lt b' y hb''; omega
    · rcases hget b' y hb' with ⟨e, e'⟩ | ⟨e, e', hb''⟩
      · subst e; subst e'
        obtain ⟨o', ho', C, fr, rfl, k1, k2, k3, k0, k4⟩ := hr.is b _ hb
        refine ⟨_, by rw [Rho.upd_blk]; exact ho', C, fr, rfl, by rw [Rho.upd_cap]; exact hn', by rw [Rho.upd_base, Rho.upd_cap]; omega, ?_, ?_, ?_⟩
        · intro i hi hlt
          rw [Rho.upd_cap] at hlt
          rw [Rho.upd_base]
          have := k3 (o + i) (by omega) (by omega)
          rw [← Nat.add_assoc] at this
          exact this
        · intro hq
          rw [Rho.upd_base]
          rcases k0 hq with hh | hh
          · exact Or.inl hh
          · right; omega
        · intro i v hi hv
          obtain ⟨p0, p1⟩ := hc i v hi hv
          obtain ⟨p2, p3, p4⟩ := k4 (o + i) v p0 p1
          rw [Rho.upd_base, conc_same hsame v p3, Nat.add_assoc]
          exact ⟨p2, sc_ext hsame (Nat.le_succ _) v p3, p4⟩
      · obtain ⟨o', ho', hi⟩ := hr.is b' y hb''
        refine ⟨o', ?_, Blk.is_ext hi (hr.lt b' y hb'') hsame (Nat.le_succ _)⟩
        rw [Rho.upd_blk_other _ _ _ _ e]
        exact ho'
    · rcases hget b1 y1 hb1 with ⟨e1, _⟩ | ⟨e1, e1', hb1'⟩
      · rcases hget b2 y2 hb2 with ⟨e2, _⟩ | ⟨e2, e2', hb2'⟩
        · omega
        · subst e1
          rw [Rho.upd_blk, Rho.upd_blk_other _ _ _ _ e2] at e
          exact absurd (hr.inj b b2 _ _ hb hb2' e).symm e2'
      · rcases hget b2 y2 hb2 with ⟨e2, _⟩ | ⟨e2, e2', hb2'⟩
        · subst e2
          rw [Rho.upd_blk, Rho.upd_blk_other _ _ _ _ e1] at e
          exact absurd (hr.inj b1 b _ _ hb1' hb e) e1'
        · rw [Rho.upd_blk_other _ _ _ _ e1, Rho.upd_blk_other _ _ _ _ e2] at e
          exact hr.inj b1 b2 y1 y2 hb1' hb2' e
  · refine ⟨Nat.le_refl _, rfl, rfl, rfl, Nat.le_succ _, hsame, fun _ _ _ => rfl, fun b' y hb' => ?_⟩
    rcases hget b' y hb' with ⟨e, _⟩ | ⟨e, _, hb''⟩
    · subst e; exact Or.inl ⟨b, _, hb, Rho.upd_blk ..⟩
    · exact Or.inl ⟨b', y, hb'', Rho.upd_blk_other _ _ _ _ e⟩

/-- Less may be known of a row. -/
theorem Rel.less (hr : Rel ρ h w) {b t n fz : Nat} {q : Bool} {c c' : Tr AV} {n' : Nat} (hb : h.m.get b = some (.cells t c n fz q)) (hn : n' ≤ n) (hc : ∀ i v, i < n' → c'.get i = some v → c.get i = some v) {h' : Heap} (hnx : h'.nx = h.nx)
    (hm : ∀ b' y, h'.m.get b' = some y → (b' = b ∧ y = .cells t c' n' fz q) ∨ (h.m.get b' = some y)) : Rel ρ h' w := by
  have hold : ∀ b' y, h'.m.get b' = some y → ∃ y', h.m.get b' = some y' := fun b' y hb' => by
    rcases hm b' y hb' with ⟨e, _⟩ | e
    · subst e; exact ⟨_, hb⟩
    · exact ⟨_, e⟩
  refine ⟨fun b' y hb' => ?_, fun b' y hb' => ?_, fun b1 b2 y1 y2 hb1 hb2 e => ?_⟩
  · obtain ⟨y', hy'⟩ := hold b' y hb'
    rw [hnx]; exact hr.lt b' y' hy'
  · rw [hnx]
    rcases hm b' y hb' with ⟨e, e'⟩ | e
    · subst e; subst e'
      obtain ⟨o, ho, C, fr, rfl, k1, k2, k3, k0, k4⟩ := hr.is b' _ hb
      exact ⟨_, ho, C, fr, rfl, Nat.le_trans hn k1, k2, k3, k0, fun i v hi hv => k4 i v (by omega) (hc i v hi hv)⟩
    · exact hr.is b' y e
  · obtain ⟨z1, hz1⟩ := hold b1 y1 hb1
    obtain ⟨z2, hz2⟩ := hold b2 y2 hb2
    exact hr.inj b1 b2 z1 z2 hz1 hz2 e

theorem allOne_append (a b : List AV) : allOne (a ++ b) = (allOne a && allOne b) := by
  induction a with
  | nil => simp [allOne]
  | cons v r ih => simp [allOne, ih, Bool.and_assoc]

theorem appU_ok (hr : Rel ρ h w) {ts : Array TypeId} {ty t u e : Nat} {d' : TypeDesc} {i : TypeInfo} (ht : ts[0]? = some t) (hu : ts[1]? = some u) (hd : (Env.of P).und t = some (.slice e)) (hd' : (Env.of P).und u = some d') (hrow : isRow d' = true)
    (hi : (Env.of P).types.get e = some i) {X V : Value} {b o n m ee : Nat} {new : List AV} (hl : ∀ w, (Builtin.lenOf X).run P w = .ok m w)
    (hf : ∀ w, Rel ρ h w → (Builtin.firstCells i.size m X).run P w = .ok (new.map (conc ρ)).toArray w) (hV : ∀ w, (zeroValue e).run P w = .ok V w)
    (hs : small (n + m) i.bytes = true) (hVz : V.cells.size = i.size) (hz : 0 < i.size) (hnl : new.length = m * i.size) (hsn : ∀ v ∈ new, sc ρ h.nx v) (hm0 : m ≠ 0) (hx : sc ρ h.nx (.slu b o n i.size ee)) :
    (appU h e i.size b o n m new).Says ρ h w (thenV ((Builtin.append_ ts ty #[conc ρ (.slu b o n i.size ee), X]).run P w)) := by
  unfold appU
  cases hb : h.m.get b with
  | none => trivial
  | some x =>
    cases x with
    | cells t' c k fz q =>
      simp only []
      cases hc : (Nat.beq e t' && Nat.ble (o + n * i.size) k && Nat.ble fz (o + n * i.size)) with
      | false => trivial
      | true =>
        simp only [Bool.and_eq_true] at hc
        have he := beq_eq hc.1.1
        have hk := ble_le hc.1.2
        have hfz := ble_le hc.2
        subst he
        simp only [cond_true]
        refine says_wo fun old hold => ?_
        cases h1 : allOne (old ++ new) with
        | false => trivial
        | true =>
          simp only [cond_true]
          have hload : h.load b o (n * i.size) = some old := by
            unfold Heap.load
            rw [hb]
            simp only [show Nat.ble (o + n * i.size) k = true from hc.1.2, cond_true, hold]
          obtain ⟨q1, q2, q3, _⟩ := load_run (P := P) hr hload
          have hroomn : n ≤ ρ.room b o i.size := hx.2
          by_cases hin : n + m ≤ ρ.room b o i.size
          · -- there is room
            have hr0 : ρ.room b o i.size ≠ 0 := by omega
            have hcapo : (n + m) * i.size ≤ ρ.cap b - o := by
              have h2 := Nat.mul_le_mul_right i.size hin
              have h3 : ρ.room b o i.size * i.size ≤ ρ.cap b - o := Nat.div_mul_le_self _ _
              omega
            have hpos : 0 < (n + m) * i.size := Nat.mul_pos (by omega) hz
            have hoc : o ≤ ρ.cap b := by omega
            have hrun := append_in (ty := ty) (w := w) ht hu hd hd' hrow hi (base := some (ρ.at b o)) (n := n) (c := ρ.room b o i.size) hl (hf w hr) hin
            simp only [] at hrun
            obtain ⟨p1, p2⟩ := hr.part (c' := Tr.ofList old 0 .nil) (n' := ρ.cap b - o) hb hoc (Nat.le_refl _) (fun j v hj hv => by
              rw [Tr.get_ofList0] at hv
              have hjl : j < old.length := (List.getElem?_eq_some_iff.1 hv).1
              exact ⟨by omega, ldc_get _ o old hold j v hv⟩)
            have hsame := p2.same
            have hmul : (n + m) * i.size = n * i.size + m * i.size := Nat.add_mul ..
            obtain ⟨w', s1, s2, s3⟩ := storeFrom_run (P := P) (ρ := ρ.upd h.nx (ρ.blk b) (ρ.base b + o) (ρ.cap b - o)) (b := h.nx) (t := e) (n := ρ.cap b - o) (fz := fz - o) (q := q) new (n * i.size) 0 _ w (Tr.ofList old 0 .nil) p1 (Tr.get_set_same _ _ _)
              (by rw [hnl]; omega) (by omega) (by rw [allOne_append, Bool.and_eq_true] at h1; exact h1.2)
              ((scL_iff _ _ _).2 fun v hv => sc_ext hsame (Nat.le_succ _) v (hsn v hv))
            have haddr : (ρ.upd h.nx (ρ.blk b) (ρ.base b + o) (ρ.cap b - o)).at h.nx (n * i.size) = (ρ.at b o).add (n * i.size) := by
              rw [at_add]; simp [Rho.at, Rho.upd, Nat.add_assoc]
            have hmap : new.map (conc (ρ.upd h.nx (ρ.blk b) (ρ.base b + o) (ρ.cap b - o))) = new.map (conc ρ) := map_conc_same hsame ((scL_iff _ _ _).2 hsn)
            rw [haddr, hmap] at s1
            have hroom' : (ρ.upd h.nx (ρ.blk b) (ρ.base b + o) (ρ.cap b - o)).room h.nx 0 i.size = ρ.room b o i.size := by
              unfold Rho.room; rw [Rho.upd_cap, Nat.sub_zero]
            have hfin : Rel (ρ.upd h.nx (ρ.blk b) (ρ.base b + o) (ρ.cap b - o)) (Heap.new ⟨h.m.del b, h.nx⟩ (rowQ e (old ++ new) (fz - o) q)) w' := by
              refine s2.less (b := h.nx) (c' := Tr.ofList (old ++ new) 0 .nil) (n' := (old ++ new).length) (Tr.get_set_same _ _ _) (by rw [List.length_append, q2, hnl]; omega) (fun j v hj hv => ?_) rfl (fun b' y hb' => ?_)
              · rw [Tr.get_ofList0] at hv
                rw [stc_get, Tr.get_ofList0, Nat.add_zero]
                by_cases hjo : n * i.size ≤ j ∧ j < n * i.size + new.length
                · rw [if_pos hjo]
                  rw [List.getElem?_append_right (by rw [q2]; exact hjo.1), q2] at hv
                  exact hv
                · rw [if_neg hjo]
                  rw [List.getElem?_append_left (by rw [List.length_append, q2] at hj; omega)] at hv
                  exact hv
              · have hb'' : ((h.m.del b).set h.nx (rowQ e (old ++ new) (fz - o) q)).get b' = some y := hb'
                rw [Tr.get_set] at hb''
                by_cases ee' : b' = h.nx
                · rw [if_pos ee'] at hb''; injection hb'' with hb''; exact Or.inl ⟨ee', hb''.symm⟩
                · right
                  rw [if_neg ee'] at hb''
                  show ((((h.m.del b).set h.nx _).set h.nx _)).get b' = some y
                  rw [Tr.get_set, if_neg ee', Tr.get_set, if_neg ee']
                  exact hb''
            have hext : Ext ρ h w (ρ.upd h.nx (ρ.blk b) (ρ.base b + o) (ρ.cap b - o)) (Heap.new ⟨h.m.del b, h.nx⟩ (rowQ e (old ++ new) (fz - o) q)) w' := by
              have := p2.trans s3
              refine ⟨this.size, this.os, this.tape, this.output, this.nx, this.same, this.frame, fun b' y hb' => ?_⟩
              have hb'' : ((h.m.del b).set h.nx (rowQ e (old ++ new) (fz - o) q)).get b' = some y := hb'
              rw [Tr.get_set] at hb''
              by_cases ee' : b' = h.nx
              · exact this.img b' _ (by subst ee'; exact Tr.get_set_same _ _ _)
              · rw [if_neg ee'] at hb''
                refine this.img b' y ?_
                show ((((h.m.del b).set h.nx _).set h.nx _)).get b' = some y
                rw [Tr.get_set, if_neg ee', Tr.get_set, if_neg ee']
                exact hb''
            refine says_v' ?_ hfin hext ⟨Nat.lt_succ_self _, by rw [hroom']; exact hin⟩
            simp only [conc, hroom', if_neg hr0]
            rw [hrun]
            have s1' : Sem.run P (storeCells ((ρ.at b o).add (n * i.size)) (List.map (conc ρ) new).toArray.toList) w = Result.ok () w' := s1
            rw [s1', Result.andThen_ok]
            congr 2
            simp [Rho.at, Rho.upd]
          · -- there is none
            obtain ⟨d1, d2⟩ := hr.del b
            have hr1 := hr.drew
            have hfirst : ∀ w, Rel ρ h w → (Builtin.firstCells i.size n (conc ρ (.slu b o n i.size ee))).run P w = .ok (old.map (conc ρ)).toArray w := fun w hr => by
              exact (first_run hr hx (m := n) rfl (Nat.le_refl _) (show srcA h i.size n (.slu b o n i.size ee) = some old from hload)).1
            have hso : ∀ v ∈ old, sc ρ h.nx v := fun v hv => (q3 v hv).1
            obtain ⟨kk, hkk, hrun⟩ := append_grow (ty := ty) (w := w) ht hu hd hd' hrow hi (n := n) (m := m) (c := ρ.room b o i.size) (base := some (ρ.at b (if ρ.room b o i.size = 0 then ee else o))) hl (hfirst _ hr1) (hf _ hr1) hV (by omega) hs
            obtain ⟨ρ', p1, p2, p3, p4⟩ := grow_row d1 e (fz := fz - o) (q := q) hz (cells := old ++ new) (m := n + m) (k := kk) (by rw [List.length_append, q2, hnl, Nat.add_mul]) (by omega) hkk h1
              (fun v hv => by rcases List.mem_append.1 hv with hv | hv; exact hso v hv; exact hsn v hv) hVz (C := (old.map (conc ρ)).toArray ++ (new.map (conc ρ)).toArray ++ Builtin.zeroCells V.cells (kk - (n + m))) (by simp)
            exact says_v' (by simp only [conc] at hrun p3 ⊢; rw [hrun, p3]) p1 (d2.trans p2) p4
    | _ => trivial

end Go.Ev
/- The evaluator, part 13: calls, and every operation. -/
noncomputable section
namespace Go.Ev

variable {P : Program} {ρ : Rho} {h : Heap} {w : World}

theorem xApp_ok (hr : Rel ρ h w) (ts : Array TypeId) (ty t u : Nat) (ht : ts[0]? = some t) (hu : ts[1]? = some u) {x y : AV} (hx : sc ρ h.nx x) (hy : sc ρ h.nx y) : (xApp (Env.of P) t u x y h).Says ρ h w (thenV ((Builtin.append_ ts ty #[conc ρ x, conc ρ y]).run P w)) := by
  refine says_wo fun d hd => ?_
  cases d with
  | slice e =>
    refine says_wo fun d' hd' => ?_
    cases hrow : isRow d' with
    | false => trivial
    | true =>
      simp only [cond_true]
      refine says_wo fun i hi => says_wo fun zv hzv => says_wo fun m hm => says_wo fun new hnew => ?_
      cases hc : (Nat.blt 0 i.size && Nat.beq new.length (m * i.size) && Nat.beq zv.cells.length i.size) with
      | false => trivial
      | true =>
        simp only [Bool.and_eq_true] at hc
        have hz := blt_lt hc.1.1
        have hnl := beq_eq hc.1.2
        have hzl := beq_eq hc.2
        simp only [cond_true]
        obtain ⟨V, v1, v2, v3⟩ := zero_ok hzv
        have hVz : V.cells.size = i.size := by rw [← v2 ρ, ← Array.length_toList, conc_cells, List.length_map, hzl]
        have hl := fun w => lenOf_run (P := P) (ρ := ρ) (h := h) (srcA_row hnew) hm w
        have hf : ∀ w, Rel ρ h w → (Builtin.firstCells i.size m (conc ρ y)).run P w = .ok (new.map (conc ρ)).toArray w := fun w hr => (first_run hr hy hm (Nat.le_refl _) hnew).1
        have hsn : ∀ v ∈ new, sc ρ h.nx v := (first_run (P := P) hr hy hm (Nat.le_refl _) hnew).2
        unfold xAppend
        cases x with
        | nils =>
          simp only []
          cases hm0 : Nat.beq m 0 with
          | true =>
            have := beq_eq hm0
            subst this
            refine says_v hr (show sc ρ h.nx AV.nils from trivial) ?_
            have := append_in (ty := ty) (w := w) ht hu hd hd' hrow hi (base := none) (n := 0) (c := 0) hl (hf w hr) (Nat.le_refl _)
            exact this
          | false =>
            have hm1 : m ≠ 0 := by rintro rfl; cases hm0
            cases hs : small m i.bytes with
            | false => trivial
            | true =>
              have := appNew_ok (ty := ty) hr ht hu hd hd' hrow hi (base := none) (n := 0) (m := m) (c := 0) (old := []) (new := new) hl (by simp [Builtin.firstCells]) (hf _ hr.drew) v1 (by omega) (by rw [Nat.zero_add]; exact hs) hVz hz (by simp) hnl (by simp) hsn
              rw [Nat.zero_add, List.nil_append] at this
              exact this
        | sl b o n c =>
          simp only []
          cases hle : Nat.ble (n + m) c with
          | true =>
            have hle' := ble_le hle
            simp only [cond_true]
            cases hst : h.store b (o + n * i.size) new with
            | none => trivial
            | some h' =>
              obtain ⟨w', q1, q2, q3, q4⟩ := store_run (P := P) hr hst ((scL_iff _ _ _).2 hsn)
              have hrun := append_in (ty := ty) (w := w) ht hu hd hd' hrow hi (base := some (ρ.at b o)) (n := n) (c := c) hl (hf w hr) hle'
              simp only [at_add] at hrun
              refine says_v' (v := .sl b o (n + m) c) ?_ q2 q3 (by rw [q4]; exact hx)
              simp only [conc]
              rw [hrun]
              have q1' : (storeCells (ρ.at b (o + n * i.size)) (List.map (conc ρ) new).toArray.toList).run P w = .ok () w' := q1
              rw [q1', Result.andThen_ok]
          | false =>
            have hgt : c < n + m := by
              by_cases hh : n + m ≤ c
              · rw [Nat.ble_eq_true_of_le hh] at hle; cases hle
              · omega
            simp only [cond_false]
            cases hs : small (n + m) i.bytes with
            | false => trivial
            | true =>
              simp only [cond_true]
              cases hn0 : Nat.beq n 0 with
              | true =>
                have := beq_eq hn0
                subst this
                have := appNew_ok (ty := ty) hr ht hu hd hd' hrow hi (base := some (ρ.at b o)) (n := 0) (m := m) (c := c) (old := []) (new := new) hl (by simp [Builtin.firstCells, loadCells, loadCellsFrom]) (hf _ hr.drew) v1 hgt hs hVz hz (by simp) hnl (by simp) hsn
                rw [Nat.zero_add, List.nil_append] at this
                exact this
              | false =>
                refine says_wo fun old hold => ?_
                obtain ⟨q1, q2, q3, _⟩ := load_run (P := P) hr.drew hold
                exact appNew_ok (ty := ty) hr ht hu hd hd' hrow hi (base := some (ρ.at b o)) (n := n) (m := m) (c := c) hl (by simp only [Builtin.firstCells]; exact q1) (hf _ hr.drew) v1 hgt hs hVz hz q2 hnl (fun v hv => (q3 v hv).1) hsn
        | slu b o n z' ee =>
          simp only []
          cases hzz : Nat.beq i.size z' with
          | false => trivial
          | true =>
            have := beq_eq hzz
            subst this
            simp only [cond_true]
            cases hm0 : Nat.beq m 0 with
            | true =>
              have := beq_eq hm0
              subst this
              refine says_v hr hx ?_
              have hnew0 : new = [] := by apply List.eq_nil_of_length_eq_zero; rw [hnl]; omega
              subst hnew0
              have := append_in (ty := ty) (w := w) ht hu hd hd' hrow hi (base := some (ρ.at b (if ρ.room b o i.size = 0 then ee else o))) (n := n) (c := ρ.room b o i.size) hl (hf w hr) hx.2
              simp only [conc]
              rw [this]
              simp [storeCells]
            | false =>
              have hm1 : m ≠ 0 := by rintro rfl; cases hm0
              simp only [cond_false]
              cases hs : small (n + m) i.bytes with
              | false => trivial
              | true => exact appU_ok hr ht hu hd hd' hrow hi hl hf v1 hs hVz hz hnl hsn hm1 hx
        | _ => trivial
  | _ => trivial

theorem copy_run {ts : Array TypeId} {ty t e z m n c : Nat} (ht : ts[0]? = some t) (hd : (Env.of P).und t = some (.slice e)) (hz : (Env.of P).size e = some z) {X : Value} {base : Option Addr} {N : Array Value} (hl : (Builtin.lenOf X).run P w = .ok m w)
    (hf : (Builtin.firstCells z (Nat.min m n) X).run P w = .ok N w) :
    (Builtin.copy_ ts ty #[.slice base n c, X]).run P w = (match base with | some a => (storeCells a N.toList).run P w | none => .ok () w).andThen fun _ w' => .ok (.int .i64 (Nat.min m n : Nat)) w' := by
  unfold Builtin.copy_
  simp only [ht, List.getElem?_toArray, List.getElem?_cons_zero, List.getElem?_cons_succ, Sem.run_bind, run_und hd, run_size hz, Result.andThen_ok, hl, hf]
  cases base <;> simp [goInt]

theorem xCopy_ok (hr : Rel ρ h w) (ts : Array TypeId) (ty t : Nat) (ht : ts[0]? = some t) {x y : AV} (hx : sc ρ h.nx x) (hy : sc ρ h.nx y) : (xCopy (Env.of P) t x y h).Says ρ h w (thenV ((Builtin.copy_ ts ty #[conc ρ x, conc ρ y]).run P w)) := by
  refine says_wo fun d hd => ?_
  cases d with
  | slice e =>
    refine says_wo fun z hz => says_wo fun m hm => ?_
    have row : ∀ (b o n c : Nat), conc ρ x = .slice (some (ρ.at b o)) n c → (wo (srcA h z (Nat.min m n) y) fun l => wo (h.store b o l) fun h' => .val (.int .i64 (.ofNat (Nat.min m n))) h').Says ρ h w (thenV ((Builtin.copy_ ts ty #[conc ρ x, conc ρ y]).run P w)) := by
      intro b o n c hc
      refine says_wo fun l hl => says_wo fun h' hst => ?_
      have hlen := lenOf_run (P := P) (ρ := ρ) (h := h) (srcA_row hl) hm w
      obtain ⟨f1, f2⟩ := first_run (P := P) hr hy hm (Nat.min_le_left m n) hl
      obtain ⟨w', q1, q2, q3, q4⟩ := store_run (P := P) hr hst ((scL_iff _ _ _).2 f2)
      have := copy_run (ty := ty) (n := n) (c := c) (base := some (ρ.at b o)) ht hd hz hlen f1
      refine says_v' ?_ q2 q3 (show sc ρ h'.nx (AV.int .i64 (.ofNat (Nat.min m n))) from trivial)
      rw [hc, this]
      have q1' : (storeCells (ρ.at b o) (List.map (conc ρ) l).toArray.toList).run P w = .ok () w' := q1
      simp only [q1', Result.andThen_ok]
      rfl
    cases x with
    | nils =>
      refine says_wo fun l hl => ?_
      have hlen := lenOf_run (P := P) (ρ := ρ) (h := h) (srcA_row hl) hm w
      obtain ⟨f1, f2⟩ := first_run (P := P) hr hy hm (Nat.zero_le m) hl
      have hmin : Nat.min m 0 = 0 := Nat.min_eq_right (Nat.zero_le m)
      have := copy_run (ty := ty) (m := m) (n := 0) (c := 0) (base := none) ht hd hz hlen (by rw [hmin]; exact f1)
      refine says_v hr (show sc ρ h.nx (AV.int .i64 (.ofNat 0)) from trivial) ?_
      simp only [conc]
      rw [this, hmin]
      rfl
    | sl b o n c => exact row b o n c rfl
    | slu b o n z' ee =>
      simp only []
      cases hc : (Nat.beq z z' && Nat.blt 0 z && Nat.blt 0 n) with
      | false => trivial
      | true =>
        simp only [Bool.and_eq_true] at hc
        have h1 := beq_eq hc.1.1
        have h3 := blt_lt hc.2
        subst h1
        simp only [cond_true]
        have := hx.2
        exact row b o n (ρ.room b o z) (by simp only [conc]; rw [if_neg (by omega)])
    | _ => trivial
  | _ => trivial

end Go.Ev
/- The evaluator, part 14: calls, and every operation. -/
noncomputable section
namespace Go.Ev

variable {P : Program} {ρ : Rho} {h : Heap} {w : World}

/-- What is asked of a program's table of functions. -/
structure Good (P : Program) : Prop where
  tt : GoodT P
  num : ∀ (f : Nat) (fn : Func), P.funcs[f]? = some fn → fn.name ≠ "runtime.NumGoroutine"
  esc : ∀ (fn : Func), P.funcs[nEsc]? = some fn → fn.body = none → Extern.findNext fn = none ∧ Extern.find fn = some Extern.AbiNoEscape.same
  idx : ∀ (fn : Func), P.funcs[nIdx]? = some fn → fn.body = none → Extern.findNext fn = none ∧ Extern.find fn = some Extern.BytealgIndexByte.indexByte
  cnt : ∀ (fn : Func), P.funcs[nCnt]? = some fn → fn.body = none → Extern.findNext fn = none ∧ Extern.find fn = some Extern.BytealgCount.count

theorem byte_at (l : List UInt8) (i : Nat) : (⟨l.toArray⟩ : ByteArray)[i]! = l[i]! := by
  by_cases hi : i < l.length
  · rw [getElem!_pos (⟨l.toArray⟩ : ByteArray) i (by simpa [ByteArray.size] using hi), getElem!_pos l i hi]
    rfl
  · rw [getElem!_neg (⟨l.toArray⟩ : ByteArray) i (by simpa [ByteArray.size] using hi), getElem!_neg l i hi]

theorem idxB_find (c : Nat) (hc : c < 256) : ∀ (n x i : Nat) (L : List UInt8), L.length = i + n → L.drop i = unpack n x → (∀ j, j < i → ¬ (L[j]! == c.toUInt8) = true) →
    (List.range (i + n)).find? (fun j => L[j]! == c.toUInt8) = idxB n x c i := by
  intro n
  induction n with
  | zero =>
    intro x i L hL hd hp
    simp only [idxB, Nat.add_zero]
    apply List.find?_eq_none.2
    intro j hj
    exact hp j (by simpa using hj)
  | succ n ih =>
    intro x i L hL hd hp
    have hLi : L[i]? = some (UInt8.ofNat (x % 256)) := by
      have : (L.drop i)[0]? = some (UInt8.ofNat (x % 256)) := by rw [hd]; rfl
      simpa using this
    have hLi' : L[i]! = UInt8.ofNat (x % 256) := by simp [hLi]
    have hm : x % 256 < 256 := Nat.mod_lt _ (by decide)
    have heq : (L[i]! == c.toUInt8) = Nat.beq (x % 256) c := by
      rw [hLi', beq_eqd, Bool.eq_iff_iff]
      simp only [beq_iff_eq, decide_eq_true_eq]
      constructor
      · intro e
        have := congrArg UInt8.toNat e
        rw [UInt8.toNat_ofNat', show c.toUInt8 = UInt8.ofNat c from rfl, UInt8.toNat_ofNat'] at this
        omega
      · intro e; rw [e]
    simp only [idxB]
    cases hb : Nat.beq (x % 256) c with
    | true =>
      simp only [cond_true]
      rw [hb] at heq
      rw [List.find?_eq_some_iff_getElem]
      refine ⟨heq, i, by simp, by simp, fun j hj => ?_⟩
      have := hp j hj
      simp only [List.getElem_range]
      simpa using this
    | false =>
      simp only [cond_false]
      rw [hb] at heq
      have := ih (x / 256) (i + 1) L (by omega) (by
        rw [← List.drop_drop, hd]; rfl) (fun j hj => by
          by_cases e : j = i
          · subst e; rw [heq]; decide
          · exact hp j (by omega))
      rw [← this, show i + 1 + n = i + (n + 1) by omega]

theorem cntB_fold (c : Nat) (hc : c < 256) : ∀ (n x k : Nat), (unpack n x).foldl (fun n b => if (b == c.toUInt8) = true then n + 1 else n) k = cntB n x c k
  | 0, _, _ => rfl
  | n + 1, x, k => by
    simp only [unpack, List.foldl_cons, cntB]
    rw [cntB_fold c hc n]
    congr 1
    have hm : x % 256 < 256 := Nat.mod_lt _ (by decide)
    have heq : (UInt8.ofNat (x % 256) == c.toUInt8) = Nat.beq (x % 256) c := by
      rw [beq_eqd, Bool.eq_iff_iff]
      simp only [beq_iff_eq, decide_eq_true_eq]
      constructor
      · intro e
        have := congrArg UInt8.toNat e
        rw [UInt8.toNat_ofNat', show c.toUInt8 = UInt8.ofNat c from rfl, UInt8.toNat_ofNat'] at this
        omega
      · intro e; rw [e]
    rw [heq]
    cases Nat.beq (x % 256) c <;> rfl

theorem foldl_int (p : UInt8 → Bool) : ∀ (l : List UInt8) (k : Nat), l.foldl (fun (n : Int) b => if p b = true then n + 1 else n) (k : Int) = ((l.foldl (fun (n : Nat) b => if p b = true then n + 1 else n) k : Nat) : Int)
  | [], _ => rfl
  | b :: r, k => by
    simp only [List.foldl_cons]
    by_cases hp : p b = true
    · rw [if_pos hp, if_pos hp]; exact foldl_int p r (k + 1)
    · rw [if_neg hp, if_neg hp]; exact foldl_int p r k

theorem callFunc_ext {f : Nat} {fn : Func} {e : Array Value → Sem Value} (hg : Good P) (hf : P.funcs[f]? = some fn) (hb : fn.body = none) (h1 : Extern.findNext fn = none) (h2 : Extern.find fn = some e) (args : Array Value) :
    (callFunc f args).run P w = thenV ((e args).run P w) := by
  unfold callFunc
  simp [hf, hg.num f fn hf, hb, h1, h2, thenV]

theorem callA_ok (hg : Good P) (hr : Rel ρ h w) {f : Nat} {args : List AV} (ha : scL ρ h.nx args) : (callA (Env.of P) f args h).Says ρ h w ((callFunc f (args.map (conc ρ)).toArray).run P w) := by
  refine says_wo fun fn hfn => ?_
  rw [funcs_get] at hfn
  cases hb : fn.body with
  | some body =>
    refine ⟨?_, ha⟩
    unfold callFunc
    simp [hfn, hg.num f fn hfn, hb]
  | none =>
    simp only []
    unfold externA
    split
    · rename_i u
      cases hname : Nat.beq f nEsc with
      | true =>
        have hf := beq_eq hname
        subst hf
        obtain ⟨e1, e2⟩ := hg.esc fn hfn hb
        rw [callFunc_ext hg hfn hb e1 e2]
        exact says_v hr ha.1 rfl
      | false => trivial
    · rename_i n x c
      cases hc : Nat.blt c 256 with
      | false => trivial
      | true =>
        have hc' := blt_lt hc
        simp only [cond_true]
        cases hname : Nat.beq f nIdx with
        | true =>
          have hf := beq_eq hname
          subst hf
          simp only [cond_true]
          obtain ⟨e1, e2⟩ := hg.idx fn hfn hb
          rw [callFunc_ext hg hfn hb e1 e2]
          refine says_v hr (show sc ρ h.nx (AV.int .i64 _) from trivial) ?_
          have hfind := idxB_find c hc' n x 0 (unpack n x) (by rw [unpack_length]; omega) (by simp) (fun j hj => by omega)
          rw [Nat.zero_add] at hfind
          have hb : ∀ i : Nat, (⟨(unpack n x).toArray⟩ : ByteArray)[i]! = (unpack n x)[i]! := fun i => byte_at _ i
          have hdef : ∀ a b : Value, Extern.BytealgIndexByte.indexByte #[a, b] = (do
              let b' ← Extern.Bytes.bytesOf a
              let c' ← Extern.Bytes.asByte b
              match (List.range b'.size).find? fun i => b'[i]! == c' with
              | some i => pure (goInt i)
              | none => pure (goInt (-1))) := fun _ _ => rfl
          show (Extern.BytealgIndexByte.indexByte #[conc ρ (.str n x), conc ρ (.int .u8 (.ofNat c))]).run P w = _
          rw [hdef]
          simp only [conc, Extern.Bytes.bytesOf, Extern.Bytes.asByte, Sem.run_bind, Sem.run_pure, Result.andThen_ok, bytes_size, hb, Int.ofNat_eq_natCast, Int.toNat_natCast, hfind]
          cases idxB n x c 0 <;> simp [goInt]
        | false =>
          simp only [cond_false]
          cases hname' : Nat.beq f nCnt with
          | true =>
            have hf := beq_eq hname'
            subst hf
            simp only [cond_true]
            obtain ⟨e1, e2⟩ := hg.cnt fn hfn hb
            rw [callFunc_ext hg hfn hb e1 e2]
            refine says_v hr (show sc ρ h.nx (AV.int .i64 _) from trivial) ?_
            have hfold := cntB_fold c hc' n x 0
            have hdef : ∀ a b : Value, Extern.BytealgCount.count #[a, b] = (do
                let b' ← Extern.Bytes.bytesOf a
                let c' ← Extern.Bytes.asByte b
                pure (goInt (b'.foldl (fun n x => if x == c' then n + 1 else n) (0 : Nat)))) := fun _ _ => rfl
            show (Extern.BytealgCount.count #[conc ρ (.str n x), conc ρ (.int .u8 (.ofNat c))]).run P w = _
            rw [hdef]
            simp only [conc, Extern.Bytes.bytesOf, Extern.Bytes.asByte, Sem.run_bind, Sem.run_pure, Result.andThen_ok, Int.ofNat_eq_natCast, Int.toNat_natCast, Lib.foldl_data]
            have := foldl_int (fun b => b == c.toUInt8) (unpack n x) 0
            rw [hfold] at this
            simp only [goInt]
            rw [this]
          | false => trivial
    · trivial

end Go.Ev
/- The evaluator, part 15: every operation. -/
noncomputable section
namespace Go.Ev

variable {P : Program} {ρ : Rho} {h : Heap} {w : World} {N : Nat} {fm : Fm} {a : Act}

theorem says_arg1 {args : List AV} {k : AV → OR} {r : Result Next} (hk : ∀ x, args = [x] → (k x).Says ρ h w r) : (arg1 args k).Says ρ h w r := by
  unfold arg1
  split
  · exact hk _ rfl
  · trivial
theorem says_arg2 {args : List AV} {k : AV → AV → OR} {r : Result Next} (hk : ∀ x y, args = [x, y] → (k x y).Says ρ h w r) : (arg2 args k).Says ρ h w r := by
  unfold arg2
  split
  · exact hk _ _ rfl
  · trivial

theorem xBuiltin_ok (hr : Rel ρ h w) (b : Builtin) (ts : Array TypeId) (ty : Nat) (cs : Array Bool) {args : List AV} (ha : scL ρ h.nx args) :
    (xBuiltin (Env.of P) b ts args h).Says ρ h w ((builtin b ts ty cs (args.map (conc ρ)).toArray).run P w) := by
  cases b with
  | len =>
    refine says_wo fun t ht => says_arg1 fun x hx => ?_
    subst hx
    have := xLen_ok hr ts ty t ht (x := x) (P := P)
    rw [← run_thenV] at this
    exact this
  | cap =>
    refine says_wo fun t ht => says_arg1 fun x hx => ?_
    subst hx
    have := xCap_ok hr ts ty t ht (x := x) (P := P)
    rw [← run_thenV] at this
    exact this
  | append =>
    refine says_wo fun t ht => says_wo fun u hu => says_arg2 fun x y hx => ?_
    subst hx
    have := xApp_ok hr ts ty t u ht hu ha.1 ha.2.1 (P := P)
    rw [← run_thenV] at this
    exact this
  | copy =>
    refine says_wo fun t ht => says_arg2 fun x y hx => ?_
    subst hx
    have := xCopy_ok hr ts ty t ht ha.1 ha.2.1 (P := P)
    rw [← run_thenV] at this
    exact this
  | delete =>
    refine says_wo fun t ht => says_arg2 fun x y hx => ?_
    subst hx
    have := xDelete_ok hr ts ty t ht (m := x) (kv := y) (P := P)
    rw [← run_thenV] at this
    exact this
  | min =>
    refine says_arg2 fun x y hx => ?_
    subst hx
    have := xMin_ok hr ts ty (u := x) (v := y) (P := P)
    rw [← run_thenV] at this
    exact this
  | max =>
    refine says_arg2 fun x y hx => ?_
    subst hx
    have := xMax_ok hr ts ty (u := x) (v := y) (P := P)
    rw [← run_thenV] at this
    exact this
  | recover =>
    unfold xBuiltin
    simp only []
    split
    · rfl
    · trivial
  | _ => trivial

theorem args_eq (hf : FmRel ρ h.nx N fm a.tmps) {l : Array Operand} {vs : List AV} (hl : roL fm l.toList = some vs) : l.map a.eval = (vs.map (conc ρ)).toArray ∧ scL ρ h.nx vs := by
  obtain ⟨p1, p2⟩ := roL_ok hf hl
  exact ⟨by rw [← p1]; apply Array.toList_inj.1; simp, p2⟩

theorem scL_append {n : Nat} {x y : List AV} (hx : scL ρ n x) (hy : scL ρ n y) : scL ρ n (x ++ y) :=
  (scL_iff _ _ _).2 fun v hv => by
    rcases List.mem_append.1 hv with hv | hv
    · exact (scL_iff _ _ _).1 hx v hv
    · exact (scL_iff _ _ _).1 hy v hv

theorem xCall_ok (hg : Good P) (hr : Rel ρ h w) (hf : FmRel ρ h.nx N fm a.tmps) (c : Call) (ty : Nat) :
    (xCall (Env.of P) fm c h).Says ρ h w ((do let d ← resolve a.eval c ty; invoke d.target d.args : Sem Next).run P w) := by
  refine says_wo fun args hargs => ?_
  obtain ⟨e1, e2⟩ := args_eq hf hargs
  have hval : ∀ (g : Operand) (f : Nat) (x y : List AV), c.callee = .value g → a.eval g = conc ρ (.fn f x y) → (do let d ← resolve a.eval c ty; invoke d.target d.args : Sem Next).run P w = (callFunc f ((x ++ args ++ y).map (conc ρ)).toArray).run P w := by
    intro g f x y hc hgv
    simp only [resolve, hc, hgv, conc, Deferred.ofValue, e1, concL_map, Sem.run_bind, Sem.run_pure, Result.andThen_ok, invoke]
    congr 2
    simp
  cases hc : c.callee with
  | value g =>
    have hgen : (wo (ro fm g) fun v => (match v with | .fn f a b => callA (Env.of P) f (a ++ args ++ b) h | _ => .fail)).Says ρ h w ((do let d ← resolve a.eval c ty; invoke d.target d.args : Sem Next).run P w) := by
      refine says_wo fun v hv => ?_
      obtain ⟨p1, p2⟩ := ro_ok hf hv
      cases v with
      | fn f x y =>
        rw [hval g f x y hc p1]
        exact callA_ok hg hr (scL_append (scL_append p2.1 e2) p2.2)
      | _ => trivial
    cases g with
    | func f =>
      have := hval (.func f) f [] [] hc rfl
      rw [List.nil_append, List.append_nil] at this
      rw [this]
      exact callA_ok hg hr e2
    | tmp t => exact hgen
    | const v => exact hgen
    | global g => exact hgen
  | invoke r n => trivial
  | builtin b =>
    have := xBuiltin_ok (P := P) hr b c.argTypes ty (c.args.map fun | .const _ => true | _ => false) e2
    simp only [resolve, hc, Sem.run_bind, Sem.run_pure, Result.andThen_ok, invoke, e1]
    exact this

theorem xDefer_ok (hf : FmRel ρ h.nx N fm a.tmps) (c : Call) (ty : Nat) :
    (xDefer fm c).Says ρ h w ((do pure (.defer (← resolve a.eval c ty)) : Sem Next).run P w) := by
  unfold xDefer
  cases hc : c.callee with
  | value g =>
    refine says_wo fun v hv => says_wo fun args hargs => ?_
    obtain ⟨e1, e2⟩ := args_eq hf hargs
    obtain ⟨p1, p2⟩ := ro_ok hf hv
    cases v with
    | fn f x y =>
      refine ⟨?_, scL_append p2.1 e2, p2.2⟩
      simp [resolve, hc, p1, conc, Deferred.ofValue, e1, concL_map, concD]
    | _ => trivial
  | _ => trivial

theorem xPanic_ok {x : AV} (hx : sc ρ h.nx x) : (xPanic x).Says ρ h w (thenV ((Instr.panic (conc ρ x)).run P w)) := by
  cases x with
  | ifc t v => exact ⟨by simp [Instr.panic, conc, thenV, goPanic], hx⟩
  | _ => trivial

theorem opx_ok (hg : Good P) (hr : Rel ρ h w) (hf : FmRel ρ h.nx N fm a.tmps) (o : Oper) : (opx (Env.of P) fm h o).Says ρ h w ((execOp a.eval o).run P w) := by
  have opt : ∀ (x : Operand), (optO (ro fm x) h).Says ρ h w ((pure (.value (a.eval x)) : Sem Next).run P w) := by
    intro x
    cases hx : ro fm x with
    | none => trivial
    | some v =>
      obtain ⟨p1, p2⟩ := ro_ok hf hx
      exact says_same hr p2 (by rw [p1]; rfl)
  unfold opx execOp
  cases hop : o.op with
  | move x => exact opt x
  | assign x => exact opt x
  | pick c x y =>
    refine says_wo fun c' hc => says_wo fun x' hx => says_wo fun y' hy => ?_
    obtain ⟨p1, p2⟩ := ro_ok hf hc
    obtain ⟨q1, q2⟩ := ro_ok hf hx
    obtain ⟨r1, r2⟩ := ro_ok hf hy
    simp only [p1, q1, r1]
    have := xPick_ok (P := P) hr (c := c') q2 r2
    simpa using this
  | alloc t =>
    refine says_wo fun v hv => ?_
    obtain ⟨V, v1, v2, v3⟩ := zero_ok hv
    simp only [run_thenV]
    exact xNew_alloc hr (v1 w) (v2 ρ) (v3 ρ h.nx)
  | box t x =>
    refine says_wo fun v hv => ?_
    obtain ⟨p1, p2⟩ := ro_ok hf hv
    simp only [run_thenV, p1]
    exact xNew_box hr p2
  | build t parts => simp only [run_thenV]; exact xBuild_ok hr hf t parts
  | buildSlice t len parts => simp only [run_thenV]; exact xBuildSlice_ok hr hf t len parts
  | insert t m k v =>
    refine says_wo fun m' hm => says_wo fun k' hk => says_wo fun v' hv => ?_
    obtain ⟨p1, p2⟩ := ro_ok hf hm
    obtain ⟨q1, q2⟩ := ro_ok hf hk
    obtain ⟨r1, r2⟩ := ro_ok hf hv
    simp only [run_thenU, p1, q1, r1]
    exact xMapUpdate_ok hr t q2 r2
  | load t x =>
    refine says_wo fun v hv => ?_
    obtain ⟨p1, p2⟩ := ro_ok hf hv
    simp only [run_thenV, p1]
    exact xLoad_ok hr
  | store t x y =>
    refine says_wo fun x' hx => says_wo fun y' hy => ?_
    obtain ⟨p1, p2⟩ := ro_ok hf hx
    obtain ⟨q1, q2⟩ := ro_ok hf hy
    simp only [run_thenU, p1, q1]
    exact xStore_ok hr q2
  | nilCheck x =>
    refine says_wo fun v hv => ?_
    obtain ⟨p1, p2⟩ := ro_ok hf hv
    have := xNilCheck_ok (P := P) hr p2 o x a.eval hop p1
    unfold execOp at this
    rw [hop] at this
    exact this
  | binOp op t x y ty =>
    refine says_wo fun u hu => says_wo fun v hv => ?_
    obtain ⟨p1, p2⟩ := ro_ok hf hu
    obtain ⟨q1, q2⟩ := ro_ok hf hv
    simp only [run_thenV, p1, q1]
    exact xBin_ok hg.tt hr op t x y
  | unOp op t x =>
    refine says_wo fun v hv => ?_
    obtain ⟨p1, p2⟩ := ro_ok hf hv
    simp only [run_thenV, p1]
    exact xUn_ok hr op
  | convert s t x =>
    refine says_wo fun v hv => ?_
    obtain ⟨p1, p2⟩ := ro_ok hf hv
    simp only [run_thenV, p1]
    exact xConvert_ok hr p2
  | makeInterface t x =>
    refine says_wo fun v hv => ?_
    obtain ⟨p1, p2⟩ := ro_ok hf hv
    simp only [run_thenV, p1]
    exact xMakeInterface_ok hr p2
  | makeFunc fn first cap => simp only [run_thenV]; exact xMakeFunc_ok hr hf fn first cap
  | makeMap t r => simp only [run_thenV]; exact xMakeMap_ok hr hf t r
  | makeSlice t l c =>
    refine says_wo fun l' hl => says_wo fun c' hc => ?_
    obtain ⟨p1, p2⟩ := ro_ok hf hl
    obtain ⟨q1, q2⟩ := ro_ok hf hc
    simp only [run_thenV, p1, q1]
    exact xMakeSlice_ok hr t
  | slice t x lo hi mx =>
    refine says_wo fun v hv => ?_
    obtain ⟨p1, p2⟩ := ro_ok hf hv
    simp only [run_thenV, p1]
    exact xSlice_ok hr hf t p2 lo hi mx
  | fieldAddr s x f =>
    refine says_wo fun v hv => ?_
    obtain ⟨p1, p2⟩ := ro_ok hf hv
    simp only [run_thenV, p1]
    exact xFieldAddr_ok hr p2
  | field s x f =>
    refine says_wo fun v hv => ?_
    obtain ⟨p1, p2⟩ := ro_ok hf hv
    simp only [run_thenV, p1]
    exact xField_ok hr p2
  | indexAddr t x i =>
    refine says_wo fun x' hx => says_wo fun y' hy => ?_
    obtain ⟨p1, p2⟩ := ro_ok hf hx
    obtain ⟨q1, q2⟩ := ro_ok hf hy
    simp only [run_thenV, p1, q1]
    exact xIndexAddr_ok hr p2
  | index t x i =>
    refine says_wo fun x' hx => says_wo fun y' hy => ?_
    obtain ⟨p1, p2⟩ := ro_ok hf hx
    obtain ⟨q1, q2⟩ := ro_ok hf hy
    simp only [run_thenV, p1, q1]
    exact xIndex_ok hr p2
  | lookup t m k ok =>
    refine says_wo fun x' hx => says_wo fun y' hy => ?_
    obtain ⟨p1, p2⟩ := ro_ok hf hx
    obtain ⟨q1, q2⟩ := ro_ok hf hy
    simp only [run_thenV, p1, q1]
    exact xLookup_ok hr t ok
  | mapUpdate t m k v =>
    refine says_wo fun m' hm => says_wo fun k' hk => says_wo fun v' hv => ?_
    obtain ⟨p1, p2⟩ := ro_ok hf hm
    obtain ⟨q1, q2⟩ := ro_ok hf hk
    obtain ⟨r1, r2⟩ := ro_ok hf hv
    simp only [run_thenU, p1, q1, r1]
    exact xMapUpdate_ok hr t q2 r2
  | range t x =>
    refine says_wo fun v hv => ?_
    obtain ⟨p1, p2⟩ := ro_ok hf hv
    simp only [run_thenV, p1]
    exact xRange_ok hr t p2
  | entry x =>
    refine says_wo fun v hv => ?_
    obtain ⟨p1, p2⟩ := ro_ok hf hv
    simp only [run_thenV, p1]
    exact xEntry_ok hr
  | next x s =>
    refine says_wo fun v hv => ?_
    obtain ⟨p1, p2⟩ := ro_ok hf hv
    simp only [run_thenV, p1]
    exact xNext_ok hr s o.type
  | typeAssert x xt t ok =>
    refine says_wo fun v hv => ?_
    obtain ⟨p1, p2⟩ := ro_ok hf hv
    simp only [run_thenV, p1]
    exact xTypeAssert_ok hr p2 xt t ok
  | extract x i =>
    refine says_wo fun v hv => ?_
    obtain ⟨p1, p2⟩ := ro_ok hf hv
    simp only [run_thenV, p1]
    exact xExtract_ok hr p2
  | call c => exact xCall_ok hg hr hf c o.type
  | defer c => exact xDefer_ok hf c o.type
  | panic x =>
    refine says_wo fun v hv => ?_
    obtain ⟨p1, p2⟩ := ro_ok hf hv
    simp only [run_thenV, p1]
    exact xPanic_ok p2
  | _ => trivial

end Go.Ev
