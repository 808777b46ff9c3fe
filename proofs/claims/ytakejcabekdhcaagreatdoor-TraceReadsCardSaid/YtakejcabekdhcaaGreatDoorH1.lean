/- Hooks of the evaluator: maps.Keys and slices.Sorted, by their contracts. -/
import Derived.Test.YtakejcabekdhcaaGreatDoorG1
import Derived.Test.YtakejcabekdhcaaGreatDoorS2
namespace Go.Proofs.YtakejcabekdhcaaGreatDoor
open Go.Ev Go.RowKit Go.Maps Go.Sort Go.Shelf

/-- What lay before stands: so does what it stands for. -/
theorem rel_below {ρ : Rho} {h : Heap} {w w' : World} (hr : Rel ρ h w) (hb : Below w.heap.size w w') : Rel ρ h w' ∧ Ext ρ h w ρ h w' := by
  have hlt : ∀ b x, h.m.get b = some x → ρ.blk b < w.heap.size := fun b x hx => by
    obtain ⟨o, ho, _⟩ := hr.is b x hx
    exact (Array.getElem?_eq_some_iff.1 ho).1
  refine ⟨⟨hr.lt, fun b x hx => ?_, hr.inj⟩, ⟨hb.size, hb.os, hb.tape, hb.output, Nat.le_refl _, fun _ _ => ⟨rfl, rfl, rfl⟩, fun k hk _ => hb.block k hk, fun b x hx => Or.inl ⟨b, x, hx, rfl⟩⟩⟩
  obtain ⟨o, ho, hi⟩ := hr.is b x hx
  exact ⟨o, (hb.block _ (hlt b x hx)).trans ho, hi⟩

/-! maps.Keys -/
noncomputable def keysHk (args : List AV) (h : Heap) : Res CO := match args with
  | [.map m] => .one (.ret (.fn 42 [] [.ptr h.nx 0]) (h.new (.cap m 52)))
  | _ => .fail
theorem keys_any (mb : Option Nat) (W : World) : Calls Tryz.prog 29 #[.map mb] W fun e w' => e = .returned (.func (.func 42) #[] #[.pointer (some ⟨W.heap.size, 0, none⟩)]) ∧ w' = W.alloc (.cells #[.map mb] 52) :=
  (callsIn_wide (n := 5)).1 (AnyZI.keys_in Tryz.keysA Fence.wide 5 trivial rfl mb W)

theorem keys_hook (args : List AV) (h : Heap) (ρ : Rho) (w : World) (R : Ending → World → Prop) (hr : Rel ρ h w) (hs : scL ρ h.nx args) (hall : (keysHk args h).All (CPost ρ h w R)) : Calls Tryz.prog 29 (args.map (conc ρ)).toArray w R := by
  unfold keysHk at hall
  split at hall
  · rename_i m
    have hm : m < h.nx := hs.1
    show Calls Tryz.prog 29 #[.map (some (ρ.blk m))] w R
    refine (keys_any (some (ρ.blk m)) w).mono ?_
    rintro e w' ⟨rfl, rfl⟩
    have hsame := ρ.upd_same h.nx w.heap.size 0 0
    have hblk : (Blk.cap m 52).is (ρ.upd h.nx w.heap.size 0 0) (h.nx + 1) h.nx (.cells #[.map (some (ρ.blk m))] 52 (0, 0)) :=
      ⟨by rw [(hsame m hm).1], Rho.upd_base _ _ _ _ _, by omega⟩
    obtain ⟨q1, q2⟩ := hr.alloc (.cap m 52) _ 0 hblk
    have hv := hall (ρ.upd h.nx w.heap.size 0 0) { w with heap := w.heap.push (.cells #[.map (some (ρ.blk m))] 52 (0, 0)) } q1 q2 ⟨trivial, Nat.lt_succ_self _, trivial⟩
    have hc : conc (ρ.upd h.nx w.heap.size 0 0) (.fn 42 [] [.ptr h.nx 0]) = .func (.func 42) #[] #[.pointer (some ⟨w.heap.size, 0, none⟩)] := by
      simp [conc, concL, Rho.at, Rho.upd_blk, Rho.upd_base]
    rw [hc] at hv
    exact hv
  · exact hall.elim

end Go.Proofs.YtakejcabekdhcaaGreatDoor
