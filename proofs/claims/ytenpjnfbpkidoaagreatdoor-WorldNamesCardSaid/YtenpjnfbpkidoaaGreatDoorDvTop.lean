/- What a run by the kernel says of a call without arguments: it returns, and the world has at most new blocks. -/
import Derived.Test.YtenpjnfbpkidoaaGreatDoorDvCall
import Derived.Below
import Derived.RowKit3
import Derived.ChangeSame
set_option linter.unusedVariables false
namespace Go.Det
open Go.RowKit
variable {P : Program}

def noNames : Names := ⟨fun _ => none, fun _ _ => none⟩
theorem st0_HR (w : World) : HR noNames st0 w := by
  refine ⟨?_, ?_, ?_, (fun _ _ _ h => by cases h), (fun _ _ _ h => by cases h), fun g l h => by simp [st0, Tr.get] at h⟩
  · intro b L h; cases h
  · intro b o h; simp [st0, Tr.get] at h
  · intro b b' o o' L L' h; simp [st0, Tr.get] at h

/-- A closed run. -/
theorem closed (hm : P.follows .mixedOrders = true) {n f : Nat} {v : AV} {st : St} (h : (run P n).call f [] st0 = some (v, st)) (w : World) :
    Calls P f #[] w fun e w' => ∃ ρ v', e = .returned v' ∧ VR ρ v v' ∧ HR ρ st w' ∧ Goes noNames st0 w ρ st w' := by
  obtain ⟨_, hc⟩ := (run_sound hm n).2 f [] st0 v st h
  intro cs
  obtain ⟨ρ', w', v', fr', G, H, V, s, l⟩ := hc noNames w [] cs (st0_HR w) .nil
  obtain ⟨l1, l2, l3, l4, l5⟩ := l
  subst l1
  exact ⟨.returned v', w', fr', ⟨ρ', v', rfl, V, H, G⟩, s, rfl, l3, l4, l2, l5⟩

theorem Goes.below {ρ : Names} {st : St} {w w' : World} (h : Goes noNames st0 w ρ st w') : Below w.heap.size w w' :=
  ⟨h.os, h.tape, h.output, h.size, fun k hk => h.same k hk fun b o L hb => by simp [st0, Tr.get] at hb⟩

/-- The kernel has found that the call answers true. -/
theorem closed_true (hm : P.follows .mixedOrders = true) {n f : Nat} (h : answersTrue ((run P n).call f [] st0) = true) (w : World) :
    Calls P f #[] w fun e w' => e = .returned (.bool true) ∧ Below w.heap.size w w' := by
  unfold answersTrue at h
  split at h
  · rename_i st hr
    refine (closed hm hr w).mono ?_
    rintro e w' ⟨ρ, v', rfl, V, H, G⟩
    cases V
    exact ⟨rfl, G.below⟩
  · cases h

/-! A row whose call makes new blocks and touches none that was there. -/
section
open Go.ChangeShapes Go.WideShapes
variable {H : Type} {enc : TypeId × Value → H}
theorem post_of_below {f : Func} {s : ChangeSpec} {apart fresh handsOn again : Bool} {W W' : World} {args : Array Value} {v : Value} {ds gs : List (DataW H)} {before pa pv : List MemPlace}
    (hW : DataW.Whole enc P f.params.toList s.vars apart W args.toList ds gs before) (hb : Below W.heap.size W W')
    (hres : ∀ (b : Nat) (sp : Nat → Bool) (hd : Bool), DataW.TrodAll enc P W' b sp hd f.resultTypes.toList (v.resultList f.resultTypes.size) (s.fn H (ds ++ gs)).results [])
    (hargs : ∀ sp : Nat → Bool, (∀ p ∈ before, sp p.block = true) → DataW.TrodAll enc P W' 0 sp true f.params.toList args.toList (s.fn H (ds ++ gs)).args pa)
    (hvars : ∀ sp : Nat → Bool, (∀ p ∈ before, sp p.block = true) → DataW.TrodVars enc P W' sp s.vars (s.fn H (ds ++ gs)).vars pv)
    (hps : before = pa ++ pv)
    (hok : ∀ (j : Nat) (t : TypeId) (r : Value), f.resultTypes[j]? = some t → (v.resultList f.resultTypes.size)[j]? = some r → Value.okWide P W' .any 0 t r) :
    s.post enc P f apart fresh handsOn again W args v W' := by
  have hold : ∀ p ∈ before, (fun b => decide (b < W.heap.size)) p.block = true := fun p hp => by simpa using hW.lt p hp
  have hlt := hW.lt
  refine ⟨ds, gs, before, [], pa, pv, hW, hres _ _ _, hargs _ hold, hvars _ hold, World.keptBut_mono (fun p hp => ⟨hp, ?_⟩) (hb.frame _), fun _ => ?_⟩
  · rw [hps, List.mem_append] at hp
    exact Or.inr hp
  · obtain ⟨_, _, _, _, _, hz, hn⟩ := hW
    refine ⟨hok, _, _, ([] ++ pa) ++ pv, ⟨[] ++ pa, pv, trodAll_append (hargs _ (fun _ _ => rfl)) (hres _ _ _), hvars _ (fun _ _ => rfl), rfl, ?_, ?_⟩, ?_⟩
    · intro b off hp
      have hp' : MemPlace.cell b off ∈ before := by rw [hps]; simpa using hp
      rw [hb.frozen (hlt _ hp')]
      exact hz b off hp'
    · intro ha
      have := hn ha
      rw [hps] at this
      simpa using this
    · intro p hp _
      rw [hps]
      simpa using hp
end

end Go.Det
