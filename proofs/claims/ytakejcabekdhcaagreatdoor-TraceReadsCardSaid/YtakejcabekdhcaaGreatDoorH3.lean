/- Hooks of the evaluator: trace.Line at fields without a quote; the examples of the chapter hold. -/
import Derived.Test.YtakejcabekdhcaaGreatDoorH2
import Derived.Test.YtakejcabekdhcaaGreatDoorW3
namespace Go.Proofs.YtakejcabekdhcaaGreatDoor
open Go.Ev Go.RowKit

noncomputable def noQ : Bs → Bool
  | [] => true
  | c :: r => !Nat.beq c.toNat 39 && noQ r
theorem noQ_mem : ∀ {l : Bs}, noQ l = true → (39 : UInt8) ∉ l
  | [], _ => by simp
  | c :: r, h => by
    simp only [noQ, Bool.and_eq_true, Bool.not_eq_true'] at h
    intro hm
    rcases List.mem_cons.1 hm with e | hm
    · rw [← e] at h
      exact absurd h.1 (by decide)
    · exact noQ_mem h.2 hm
noncomputable def fieldsA : List AV → Option (List Bs)
  | [] => some []
  | v :: r => match v with
    | .str n x => bif Nat.ble n 1000 && noQ (unpack n x) then (match fieldsA r with
        | some l => some (unpack n x :: l)
        | none => none)
      else none
    | _ => none
theorem fieldsA_ok : ∀ {l : List AV} {fs : List Bs}, fieldsA l = some fs → ∀ (ρ : Rho), l.map (conc ρ) = fs.map (fun f => Value.string ⟨f.toArray⟩) ∧ ∀ f ∈ fs, f.length ≤ 1000 ∧ (39 : UInt8) ∉ f
  | [], fs, h, ρ => by injection h with h; subst h; simp
  | v :: r, fs, h, ρ => by
    unfold fieldsA at h
    cases v with
    | str n x =>
      simp only [] at h
      cases hc : (Nat.ble n 1000 && noQ (unpack n x)) with
      | false => rw [hc] at h; cases h
      | true =>
        rw [hc] at h
        simp only [Bool.and_eq_true] at hc
        simp only [cond_true] at h
        cases hr : fieldsA r with
        | none => rw [hr] at h; cases h
        | some l =>
          rw [hr] at h
          injection h with h
          subst h
          obtain ⟨q1, q2⟩ := fieldsA_ok hr ρ
          refine ⟨by rw [List.map_cons, List.map_cons, q1]; rfl, fun f hf => ?_⟩
          rcases List.mem_cons.1 hf with rfl | hf
          · exact ⟨by rw [unpack_length]; exact ble_le hc.1, noQ_mem hc.2⟩
          · exact q2 f hf
    | _ => cases h

noncomputable def lineRow (b o n : Nat) (h : Heap) : Res CO := bif Nat.ble n 100 then (match h.load b o n with
    | some l => (match fieldsA l with
      | some fs => .one (.ret (.str (lineS fs).length (packL (lineS fs))) h)
      | none => .fail)
    | none => .fail) else .fail
noncomputable def lineHk (args : List AV) (h : Heap) : Res CO := match args with
  | [.sl b o n _] => lineRow b o n h
  | _ => .fail

theorem ldc_get {c : Tr AV} : ∀ (k o : Nat) (l : List AV), ldc c o k = some l → ∀ i (hi : i < l.length), c.get (o + i) = some l[i]
  | 0, o, l, h, i, hi => by injection h with h; subst h; simp at hi
  | k + 1, o, l, h, i, hi => by
    unfold ldc at h
    cases hv : c.get o with
    | none => rw [hv] at h; cases h
    | some v =>
      rw [hv] at h
      simp only [] at h
      cases hr : ldc c (o + 1) k with
      | none => rw [hr] at h; cases h
      | some r =>
        rw [hr] at h
        injection h with h
        subst h
        cases i with
        | zero => simpa using hv
        | succ i =>
          have := ldc_get k (o + 1) r hr i (by simpa using hi)
          rw [show o + (i + 1) = o + 1 + i by omega]
          simpa using this

theorem line_hook (args : List AV) (h : Heap) (ρ : Rho) (w : World) (R : Ending → World → Prop) (hr : Rel ρ h w) (hs0 : scL ρ h.nx args) (hall : (lineHk args h).All (CPost ρ h w R)) : Calls Tryz.prog 6 (args.map (conc ρ)).toArray w R := by
  unfold lineHk at hall
  split at hall
  · rename_i b o n cap
    unfold lineRow at hall
    cases hn : Nat.ble n 100 with
    | false => rw [hn] at hall; exact hall.elim
    | true =>
      rw [hn] at hall
      simp only [cond_true] at hall
      cases hl : h.load b o n with
      | none => rw [hl] at hall; exact hall.elim
      | some l =>
        rw [hl] at hall
        simp only [] at hall
        cases hf : fieldsA l with
        | none => rw [hf] at hall; exact hall.elim
        | some fs =>
          rw [hf] at hall
          obtain ⟨_, q2, _, t, c, m, fz, q, hb, hld, hm⟩ := load_run (P := Tryz.prog) hr hl
          obtain ⟨f1, f2⟩ := fieldsA_ok hf ρ
          have hlen : fs.length = n := by
            have := congrArg List.length f1
            rw [List.length_map, List.length_map] at this
            omega
          have hbytes : bytesOf (fs.map fun f => (⟨f.toArray⟩ : ByteArray)) = fs := by
            unfold bytesOf
            rw [List.map_map]
            conv => rhs; rw [← List.map_id fs]
            apply List.map_congr_left
            intro f _
            rfl
          have hA : Strs w w.heap.size (some (ρ.at b o)) n (fs.map fun f => (⟨f.toArray⟩ : ByteArray)) := by
            refine ⟨by rw [List.length_map]; exact hlen.symm, fun h0 => ⟨ρ.blk b, ρ.base b + o, rfl, ?_, fun k hk => ?_⟩⟩
            · obtain ⟨o', ho', _⟩ := hr.is b _ hb
              exact (Array.getElem?_eq_some_iff.1 ho').1
            · have hk' : k < fs.length := by simpa using hk
              have hkl : k < l.length := by omega
              have hg := ldc_get n o l hld k hkl
              obtain ⟨g1, _, _⟩ := hr.cell hb (by omega) hg
              have e1 : ρ.at b (o + k) = ⟨ρ.blk b, ρ.base b + o + k, none⟩ := by unfold Rho.at; rw [Nat.add_assoc]
              rw [e1] at g1
              rw [g1]
              have e2 : (l.map (conc ρ))[k]? = (fs.map fun f => Value.string ⟨f.toArray⟩)[k]? := by rw [f1]
              rw [List.getElem?_map, List.getElem?_map, List.getElem?_eq_getElem hkl, List.getElem?_eq_getElem hk'] at e2
              simp only [Option.map_some, Option.some.injEq] at e2
              rw [e2]
              simp
          have hR : ∀ s ∈ (fs.map fun f => (⟨f.toArray⟩ : ByteArray)), ReplOk s w := fun s hs => by
            obtain ⟨f, hf', rfl⟩ := List.mem_map.1 hs
            intro W _
            exact replaceAll_none _ W (f2 f hf').2
          have hz : ∀ s ∈ (fs.map fun f => (⟨f.toArray⟩ : ByteArray)), s.size ≤ 1000 := fun s hs => by
            obtain ⟨f, hf', rfl⟩ := List.mem_map.1 hs
            have := (f2 f hf').1
            show f.toArray.size ≤ 1000
            simpa using this
          have hc : (([AV.sl b o n cap] : List AV).map (conc ρ)).toArray = #[.slice (some (ρ.at b o)) n cap] := rfl
          rw [hc]
          refine (line_any _ (some (ρ.at b o)) n cap w hA (ble_le hn) hz hR).mono ?_
          rintro e w' ⟨rfl, hbl⟩
          obtain ⟨s1, s2⟩ := rel_below hr hbl
          have hv := hall ρ w' s1 s2 trivial
          have he : conc ρ (.str (lineS fs).length (packL (lineS fs))) = .string ⟨(lineS fs).toArray⟩ := by
            simp only [conc, unpack_pack]
          rw [he] at hv
          rw [hbytes]
          exact hv
  · exact hall.elim

/-! The three hooks -/
noncomputable def hkK (f : Nat) (args : List AV) (h : Heap) : Res CO := bif Nat.beq f 28 then sortedHk args h else bif Nat.beq f 29 then keysHk args h else lineHk args h
noncomputable def hk : Hook := ⟨fun f => Nat.beq f 28 || Nat.beq f 29 || Nat.beq f 6, hkK⟩
theorem hook_ok : HookOk Tryz.prog hk := by
  intro f hf args h ρ w R hr hs hall
  have hf' : (Nat.beq f 28 || Nat.beq f 29 || Nat.beq f 6) = true := hf
  have hall' : (hkK f args h).All (CPost ρ h w R) := hall
  unfold hkK at hall'
  cases h28 : Nat.beq f 28 with
  | true =>
    have := beq_eq h28
    subst this
    exact sorted_hook args h ρ w R hr hs hall'
  | false =>
    rw [h28] at hall' hf'
    cases h29 : Nat.beq f 29 with
    | true =>
      have := beq_eq h29
      subst this
      exact keys_hook args h ρ w R hr hs hall'
    | false =>
      rw [h29] at hall' hf'
      have h6 : f = 6 := beq_eq (by simpa using hf')
      subst h6
      exact line_hook args h ρ w R hr hs hall'

end Go.Proofs.YtakejcabekdhcaaGreatDoor
