/- Hooks of the evaluator: slices.Sorted over the keys of a map of integers. -/
import Derived.Test.YtakejcabekdhcaaGreatDoorH1
import Derived.Lib.Builder
namespace Go.Proofs.YtakejcabekdhcaaGreatDoor
open Go.Ev Go.RowKit Go.Maps Go.Sort Go.Shelf

/-! Sorting -/
noncomputable def insI (n : Int) : List Int → List Int
  | [] => [n]
  | m :: r => bif ltF m n then m :: insI n r else n :: m :: r
noncomputable def sortI : List Int → List Int
  | [] => []
  | n :: r => insI n (sortI r)
theorem insI_perm (n : Int) : ∀ l, (insI n l).Perm (n :: l)
  | [] => List.Perm.refl _
  | m :: r => by
    unfold insI
    cases ltF m n with
    | false => exact List.Perm.refl _
    | true => exact ((insI_perm n r).cons m).trans (List.Perm.swap n m r)
theorem sortI_perm : ∀ l, (sortI l).Perm l
  | [] => List.Perm.refl _
  | n :: r => (insI_perm n (sortI r)).trans ((sortI_perm r).cons n)
theorem insI_sorted (n : Int) : ∀ l, l.Pairwise (· ≤ ·) → (insI n l).Pairwise (· ≤ ·)
  | [], _ => by simp [insI]
  | m :: r, h => by
    unfold insI
    cases hl : ltF m n with
    | false =>
      have hmn : ¬ m < n := by
        rw [ltF_eq] at hl
        simpa using hl
      refine List.pairwise_cons.2 ⟨fun x hx => ?_, h⟩
      rcases List.mem_cons.1 hx with rfl | hx
      · omega
      · have := (List.pairwise_cons.1 h).1 x hx
        omega
    | true =>
      have hmn : m < n := by
        rw [ltF_eq] at hl
        simpa using hl
      obtain ⟨h1, h2⟩ := List.pairwise_cons.1 h
      refine List.pairwise_cons.2 ⟨fun x hx => ?_, insI_sorted n r h2⟩
      rcases List.mem_cons.1 ((insI_perm n r).mem_iff.1 hx) with rfl | hx
      · omega
      · exact h1 x hx
theorem sortI_sorted : ∀ l, (sortI l).Pairwise (· ≤ ·)
  | [] => List.Pairwise.nil
  | n :: r => insI_sorted n _ (sortI_sorted r)
theorem sorted_eq : ∀ (l m : List Int), l.Pairwise (· ≤ ·) → m.Pairwise (· ≤ ·) → l.Perm m → l = m
  | [], m, _, _, h => (List.nil_perm.1 h).symm
  | a :: l, [], _, _, h => absurd h.length_eq (by simp)
  | a :: l, b :: m, hl, hm, h => by
    obtain ⟨l1, l2⟩ := List.pairwise_cons.1 hl
    obtain ⟨m1, m2⟩ := List.pairwise_cons.1 hm
    have hab : a = b := by
      have ha : a ∈ b :: m := h.mem_iff.1 (by simp)
      have hb : b ∈ a :: l := h.mem_iff.2 (by simp)
      rcases List.mem_cons.1 ha with ha | ha
      · exact ha
      · rcases List.mem_cons.1 hb with hb | hb
        · exact hb.symm
        · have := m1 a ha
          have := l1 b hb
          omega
    subst hab
    rw [sorted_eq l m l2 m2 (List.Perm.cons_inv h)]
theorem merge_eq {ss ks : List Int} (h : ss.Perm ks) : ss.mergeSort (fun x y => decide (x ≤ y)) = sortI ks := by
  refine sorted_eq _ _ ?_ (sortI_sorted ks) (((List.mergeSort_perm ss _).trans h).trans (sortI_perm ks).symm)
  have := List.pairwise_mergeSort (le := fun x y : Int => decide (x ≤ y)) (fun a b c h1 h2 => by simp at h1 h2 ⊢; omega) (fun a b => by simp; omega) ss
  exact this.imp fun {a b} hab => by simpa using hab

/-! Maps of integers -/
noncomputable def keysI : List AEnt → Option (List Int)
  | [] => some []
  | e :: r => match e.key with
    | .int .i64 (.ofNat n) => (match keysI r with
      | some l => bif Nat.blt n 1000000 then some (.ofNat n :: l) else none
      | none => none)
    | _ => none
noncomputable def notInI (n : Int) : List Int → Bool
  | [] => true
  | m :: r => !eqF n m && notInI n r
noncomputable def distI : List Int → Bool
  | [] => true
  | n :: r => notInI n r && distI r
noncomputable def notBorn (n : Nat) : List AEnt → Bool
  | [] => true
  | e :: r => !Nat.beq n e.born && notBorn n r
noncomputable def born (clock : Nat) : List AEnt → Bool
  | [] => true
  | e :: r => Nat.blt e.born clock && notBorn e.born r && born clock r

theorem keysI_map : ∀ (es : List AEnt) (ks : List Int), keysI es = some ks → ∀ (ρ : Rho), es.map (fun e => conc ρ e.key) = ks.map encZ ∧ (∀ k ∈ ks, 0 ≤ k ∧ k < 1000000) ∧ ks.length = es.length
  | [], ks, h, ρ => by injection h with h; subst h; simp
  | e :: r, ks, h, ρ => by
    unfold keysI at h
    split at h
    · rename_i n hk
      split at h
      · rename_i l hl
        cases hb : Nat.blt n 1000000 with
        | false => rw [hb] at h; cases h
        | true =>
          rw [hb] at h
          injection h with h
          subst h
          obtain ⟨q1, q2, q3⟩ := keysI_map r l hl ρ
          refine ⟨?_, ?_, by simp [q3]⟩
          · rw [List.map_cons, List.map_cons, q1, hk]
            rfl
          · intro k hk'
            rcases List.mem_cons.1 hk' with rfl | hk'
            · have := blt_lt hb
              constructor
              · exact Int.natCast_nonneg n
              · show (n : Int) < 1000000
                omega
            · exact q2 k hk'
      · cases h
    · cases h
theorem notInI_mem {n : Int} : ∀ {l : List Int}, notInI n l = true → n ∉ l
  | [], _ => by simp
  | m :: r, h => by
    simp only [notInI, Bool.and_eq_true, Bool.not_eq_true', eqF_eq, decide_eq_false_iff_not] at h
    intro hm
    rcases List.mem_cons.1 hm with e | hm
    · exact h.1 e
    · exact notInI_mem h.2 hm
theorem distI_nodup : ∀ {l : List Int}, distI l = true → l.Nodup
  | [], _ => List.nodup_nil
  | n :: r, h => by
    simp only [distI, Bool.and_eq_true] at h
    exact List.nodup_cons.2 ⟨notInI_mem h.1, distI_nodup h.2⟩
theorem notBorn_mem {n : Nat} : ∀ {l : List AEnt}, notBorn n l = true → n ∉ l.map (·.born)
  | [], _ => by simp
  | e :: r, h => by
    simp only [notBorn, Bool.and_eq_true, Bool.not_eq_true'] at h
    intro hm
    rcases List.mem_cons.1 hm with e' | hm
    · rw [e', Nat.beq_refl] at h; cases h.1
    · exact notBorn_mem h.2 hm
theorem born_ok {c : Nat} : ∀ {l : List AEnt}, born c l = true → (∀ e ∈ l, e.born < c) ∧ (l.map (·.born)).Nodup
  | [], _ => by simp
  | e :: r, h => by
    simp only [born, Bool.and_eq_true] at h
    obtain ⟨q1, q2⟩ := born_ok h.2
    refine ⟨fun x hx => ?_, List.nodup_cons.2 ⟨notBorn_mem h.1.2, q2⟩⟩
    rcases List.mem_cons.1 hx with rfl | hx
    · exact blt_lt h.1.1
    · exact q1 x hx

def rdAny : Value → Option (DataW Unit × List MemPlace) := fun _ => some (.nil, [])
theorem insert_perm {H : Type} (x : Lit × DataW H) : ∀ l, (DataW.insert x l).Perm (x :: l)
  | [] => List.Perm.refl _
  | y :: r => by
    unfold DataW.insert
    split
    · exact List.Perm.refl _
    · exact ((insert_perm x r).cons y).trans (List.Perm.swap x y r)
theorem foldr_perm {H : Type} : ∀ (l : List (Lit × DataW H)), (l.foldr DataW.insert []).Perm l
  | [] => List.Perm.refl _
  | x :: r => (insert_perm x _).trans ((foldr_perm r).cons x)

theorem owns_map {ρ : Rho} {w : World} {b c : Nat} {es : List AEnt} {ks : List Int} (hb : w.heap[b]? = some (.map (es.map (concEnt ρ)).toArray c)) (hk : keysI es = some ks) (hd : distI ks = true) (hbn : born c es = true) (hl : es.length ≤ 1000) :
    ∃ D : DataW Unit, w.ownsMap Tryz.prog 3 rdAny b es.length D ∧ (intKeys D).Perm ks ∧ Maps.size D ≤ 1000 := by
  obtain ⟨k1, k2, k3⟩ := keysI_map es ks hk ρ
  obtain ⟨b1, b2⟩ := born_ok hbn
  have hkey : ∀ x ∈ es.map (concEnt ρ), ∃ n : Int, x.key = encZ n ∧ 0 ≤ n ∧ n < 1000000 := fun x hx => by
    obtain ⟨e, he, rfl⟩ := List.mem_map.1 hx
    have : conc ρ e.key ∈ es.map (fun e => conc ρ e.key) := List.mem_map.2 ⟨e, he, rfl⟩
    rw [k1] at this
    obtain ⟨n, hn, e'⟩ := List.mem_map.1 this
    exact ⟨n, e'.symm, k2 n hn⟩
  have hko : ∀ n : Int, 0 ≤ n → n < 1000000 → keyOf Tryz.prog 3 (encZ n) = some (.int .i64 n) := fun n h0 h1 => by
    refine keyOf_int_mk Tryz.underlying3 ?_
    simp [Lit.wf, IntKind.min, IntKind.max, IntKind.bits, IntKind.signed]
    omega
  have hrd : ∀ x ∈ es.map (concEnt ρ), ∀ n : Int, x.key = encZ n → 0 ≤ n → n < 1000000 → WideElems.rd Tryz.prog 3 rdAny x = some (.int .i64 n, .nil) := fun x _ n hn h0 h1 => by
    unfold WideElems.rd
    simp only [hn, hko n h0 h1, Option.bind_some, rdAny, Option.map_some]
  have hrg : (es.map (concEnt ρ)).map (WideElems.rg Tryz.prog 3 rdAny) = ks.map fun n => (Lit.int .i64 n, (DataW.nil : DataW Unit)) := by
    have : ∀ (l : List AEnt) (m : List Int), l.map (fun e => conc ρ e.key) = m.map encZ → (∀ n ∈ m, 0 ≤ n ∧ n < 1000000) → (l.map (concEnt ρ)).map (WideElems.rg Tryz.prog 3 rdAny) = m.map fun n => (Lit.int .i64 n, (DataW.nil : DataW Unit)) := by
      intro l
      induction l with
      | nil =>
        intro m hm _
        cases m with
        | nil => rfl
        | cons _ _ => simp at hm
      | cons e r ih =>
        intro m hm hb'
        cases m with
        | nil => simp at hm
        | cons n m =>
          simp only [List.map_cons, List.cons.injEq] at hm
          have hn := hb' n (by simp)
          have h1 : WideElems.rg Tryz.prog 3 rdAny (concEnt ρ e) = (Lit.int .i64 n, (DataW.nil : DataW Unit)) := by
            unfold WideElems.rg WideElems.rd
            simp only [concEnt, hm.1, hko n hn.1 hn.2, Option.bind_some, rdAny, Option.map_some, Option.getD_some]
          rw [List.map_cons, List.map_cons, List.map_cons, ih m hm.2 (fun x hx => hb' x (by simp [hx])), h1]
    exact this es ks k1 k2
  have hnd : (es.map (fun e => conc ρ e.key)).Nodup := by
    rw [k1]
    have := distI_nodup hd
    exact List.Pairwise.map encZ (fun a b hab => fun e => hab (encZ_inj e)) this
  refine ⟨.map (((es.map (concEnt ρ)).map (WideElems.rg Tryz.prog 3 rdAny)).foldr DataW.insert []), ⟨_, c, hb, ⟨?_, ⟨?_, ?_, ?_⟩, ?_⟩, ?_, ?_⟩, ?_, ?_⟩
  · simp [maxLen]; omega
  · intro x hx
    obtain ⟨e, he, rfl⟩ := List.mem_map.1 (by simpa using hx)
    exact b1 e he
  · simpa [Function.comp_def, concEnt] using b2
  · simpa [Function.comp_def, concEnt] using hnd
  · intro x hx
    have hx' : x ∈ es.map (concEnt ρ) := by simpa using hx
    obtain ⟨n, hn, h0, h1⟩ := hkey x hx'
    exact ⟨_, hrd x hx' n hn h0 h1⟩
  · simp
  · simp
  · rw [hrg]
    have := (foldr_perm (ks.map fun n => (Lit.int .i64 n, (DataW.nil : DataW Unit)))).map fun p => Go.intOf p.1
    simpa [intKeys, Function.comp_def, Go.intOf] using this
  · rw [hrg]
    have := (foldr_perm (ks.map fun n => (Lit.int .i64 n, (DataW.nil : DataW Unit)))).length_eq
    simp only [Maps.size, this, List.length_map]
    omega


/-! slices.Sorted -/
noncomputable def sortedA (es : List AEnt) (c : Nat) (h : Heap) : Res CO := match keysI es with
  | some ks => bif distI ks && born c es && Nat.ble es.length 1000 then (match ks with
      | [] => .one (.ret .nils h)
      | _ :: _ => .one (.ret (.slu h.nx 0 (sortI ks).length 1 0) (h.new (rowQ 3 ((sortI ks).map (fun n => AV.int .i64 n)) 0 false))))
    else .fail
  | none => .fail
noncomputable def sortedHk (args : List AV) (h : Heap) : Res CO := match args with
  | [.fn 42 [] [.ptr b 0]] => (match h.m.get b with
    | some (.cap m _) => (match h.m.get m with
      | some (.map es c) => sortedA es c h
      | _ => .fail)
    | _ => .fail)
  | _ => .fail

theorem sorted_any (Bm b n : Nat) (D0 : DataW Unit) (W : World) (hm : W.cell? ⟨Bm, 0, none⟩ = some (.map (some b))) (hown : W.ownsMap Tryz.prog 3 rdAny b n D0) (hmax : Maps.size D0 ≤ 1000) :
    Calls Tryz.prog 28 #[.func (.func 42) #[] #[.pointer (some ⟨Bm, 0, none⟩)]] W fun e w' => ∃ (v : Value) (ss : List Int), e = .returned v ∧ ss.Perm (intKeys D0) ∧
      w'.ownsRow W.heap.size 3 1 v ss.length ((ss.mergeSort (fun x y => decide (x ≤ y))).map encZ) ∧ (v = .slice none 0 0 ↔ ss = []) ∧ Below W.heap.size W w' := by
  refine (callsIn_wide (n := 5)).1 ?_
  have hseq : SeqGives Fence.wide 2 Tryz.prog 42 #[.pointer (some ⟨Bm, 0, none⟩)] encZ (fun ss => ss.Perm (intKeys D0)) (Maps.size D0) W :=
    AnyZI.keys_gives (ρ := Tryz.keysA_ren) { Tryz.keysA with } Fence.wide _ trivial rfl (by omega) Bm b n D0 W (World.block_lt_of_cell? _ _ hm) hm hown
  exact AnyZI.sorted_in Tryz.sortedA Fence.wide 5 trivial trivial trivial trivial rfl (by omega) (Tryz.sortsA _) (enters_of Tryz.func41 (by kernel_rfl) rfl) 42 #[.pointer (some ⟨Bm, 0, none⟩)] trivial (enters_of Tryz.func42 (by kernel_rfl) rfl) _ _ (by unfold maxLen; omega) (by omega) W hseq

theorem sorted_hook (args : List AV) (h : Heap) (ρ : Rho) (w : World) (R : Ending → World → Prop) (hr : Rel ρ h w) (hs : scL ρ h.nx args) (hall : (sortedHk args h).All (CPost ρ h w R)) : Calls Tryz.prog 28 (args.map (conc ρ)).toArray w R := by
  unfold sortedHk at hall
  split at hall
  · rename_i b
    cases hb : h.m.get b with
    | none => rw [hb] at hall; exact hall.elim
    | some x =>
      rw [hb] at hall
      cases x with
      | cap m t =>
        simp only [] at hall
        cases hm : h.m.get m with
        | none => rw [hm] at hall; exact hall.elim
        | some y =>
          rw [hm] at hall
          cases y with
          | map es c =>
            simp only [] at hall
            unfold sortedA at hall
            cases hk : keysI es with
            | none => rw [hk] at hall; exact hall.elim
            | some ks =>
              rw [hk] at hall
              simp only [] at hall
              cases hc : (distI ks && born c es && Nat.ble es.length 1000) with
              | false => rw [hc] at hall; exact hall.elim
              | true =>
                rw [hc] at hall
                simp only [Bool.and_eq_true] at hc
                simp only [cond_true] at hall
                obtain ⟨⟨hc1, hc2⟩, hc3⟩ := hc
                obtain ⟨o, ho, he, hbase, _⟩ := hr.is b _ hb
                subst he
                obtain ⟨o', ho', he', _⟩ := hr.is m _ hm
                subst he'
                obtain ⟨D, hown, hperm, hsz⟩ := owns_map ho' hk hc1 hc2 (ble_le hc3)
                have hcell : w.cell? ⟨ρ.blk b, 0, none⟩ = some (.map (some (ρ.blk m))) := by
                  rw [Lib.cell_of_heap ho]; rfl
                have hconc : (([AV.fn 42 [] [.ptr b 0]] : List AV).map (conc ρ)).toArray = #[.func (.func 42) #[] #[.pointer (some ⟨ρ.blk b, 0, none⟩)]] := by
                  simp [conc, concL, Rho.at, hbase]
                rw [hconc]
                refine (sorted_any (ρ.blk b) (ρ.blk m) es.length D w hcell hown hsz).mono ?_
                rintro e w' ⟨v, ss, rfl, hS, hrow, hnil, hbl⟩
                have hp : ss.Perm ks := hS.trans hperm
                rw [merge_eq hp] at hrow
                obtain ⟨q1, q2⟩ := rel_below hr hbl
                cases ks with
                | nil =>
                  have hss : ss = [] := List.perm_nil.1 hp
                  have hv := hnil.2 hss
                  subst hv
                  exact hall ρ w' q1 q2 trivial
                | cons k0 kr =>
                  have hne : ss ≠ [] := fun e => by rw [e] at hp; exact absurd (List.nil_perm.1 hp) (by simp)
                  obtain ⟨r1, r2⟩ := hrow
                  rcases r2 with ⟨r2, _⟩ | ⟨g, cap, cur, r2, r3, r4, r5, r6, r7, r8⟩
                  · exact absurd (hnil.1 r2) hne
                  · subst r2
                    generalize hso : sortI (k0 :: kr) = so at *
                    have hlen : so.length = ss.length := by
                      rw [← hso, (sortI_perm (k0 :: kr)).length_eq, hp.length_eq]
                    have hcap : cur.size = cap := by omega
                    have hvs : ∀ (ρ' : Rho) (i : Nat) (u : AV), (so.map (fun n => AV.int .i64 n))[i]? = some u → cur[i]? = some (conc ρ' u) := fun ρ' i u hu => by
                      rw [List.getElem?_map] at hu
                      cases hi : so[i]? with
                      | none => rw [hi] at hu; cases hu
                      | some n =>
                        rw [hi] at hu
                        simp only [Option.map_some, Option.some.injEq] at hu
                        subst hu
                        have hil : i < so.length := (List.getElem?_eq_some_iff.1 hi).1
                        have : (cur.toList.take (ss.length * 1))[i]? = some (encZ n) := by rw [r8, List.getElem?_map, hi]; rfl
                        rw [List.getElem?_take_of_lt (by omega), Array.getElem?_toList] at this
                        exact this
                    have hblk : (rowQ 3 (so.map (fun n => AV.int .i64 n)) 0 false).is (ρ.upd h.nx g 0 cap) (h.nx + 1) h.nx (.cells cur 3 (0, 0)) := by
                      refine row_is h.nx ?_ ?_ ?_ ?_ ?_ (0, 0) ?_ (fun _ => Or.inl rfl)
                      · rw [Rho.upd_base, Rho.upd_cap]; omega
                      · rw [Rho.upd_cap, List.length_map]; omega
                      · intro i u hu
                        rw [Rho.upd_base, Nat.zero_add]
                        exact hvs _ i u hu
                      · have : ∀ l : List Int, allOne (l.map (fun n => AV.int .i64 n)) = true := fun l => by
                          induction l with
                          | nil => rfl
                          | cons x r ih => rw [List.map_cons, allOne, ih]; rfl
                        exact this so
                      · intro u hu
                        obtain ⟨n, _, rfl⟩ := List.mem_map.1 hu
                        trivial
                      · intro i _ _ hh
                        exact absurd hh.2 (by simp)
                    have hg : ∀ b y, h.m.get b = some y → ρ.blk b ≠ g := fun b y hy e => by
                      obtain ⟨o2, ho2, _⟩ := hr.is b y hy
                      have := (Array.getElem?_eq_some_iff.1 ho2).1
                      omega
                    have s1 := q1.name _ _ g cap r4 hg hblk
                    have s2 := q2.name (rowQ 3 (so.map (fun n => AV.int .i64 n)) 0 false) g cap r3
                    have hroom : (ρ.upd h.nx g 0 cap).room h.nx 0 1 = cap := by
                      unfold Rho.room
                      rw [Rho.upd_cap]
                      simp
                    have hv := hall (ρ.upd h.nx g 0 cap) w' s1 s2 ⟨Nat.lt_succ_self _, by rw [hroom]; omega⟩
                    have hcv : conc (ρ.upd h.nx g 0 cap) (.slu h.nx 0 so.length 1 0) = .slice (some ⟨g, 0, none⟩) ss.length cap := by
                      simp only [conc, hroom, ite_self, Rho.at, Rho.upd_blk, Rho.upd_base, hlen, Nat.add_zero]
                    rw [hcv] at hv
                    exact hv
          | _ => exact hall.elim
      | _ => exact hall.elim
  · exact hall.elim

end Go.Proofs.YtakejcabekdhcaaGreatDoor
