/- A closed run over package-level tables whose contents are known, and over a table of calls. -/
import Derived.Test.YtenpjnfbpkidoaaGreatDoorDvTie
import Derived.Test.YtenpjnfbpkidoaaGreatDoorDvKeysS
set_option linter.unusedVariables false
namespace Go.Det
open Go.RowKit
variable {P : Program}
theorem closed_tabT {tab : Tab} (hm : P.follows .mixedOrders = true) (ht : TabOk P tab) {n f g : Nat} {k : IntKind} {zs : List Int} (h : answersTrue ((runTab tab P n).call f [] (stG g k zs)) = true) (w : World)
    (hg : ∀ (i : Nat) (v : Value), (zs.map fun z => Value.int k z)[i]? = some v → w.cell? ⟨g, i, none⟩ = some v) :
    Calls P f #[] w fun e w' => e = .returned (.bool true) ∧ Below w.heap.size w w' := by
  unfold answersTrue at h
  split at h
  · rename_i st hr
    refine (((runTab_sound ht hm n).2.1 f [] (stG g k zs) _ st hr).calls (stG_HR hg) (args' := []) .nil).mono ?_
    rintro e w' ⟨ρ, v', rfl, V, H, G⟩
    cases V
    exact ⟨rfl, G.os, G.tape, G.output, G.size, fun k hk => G.same k hk fun b o L hb => by simp [stG, Tr.get] at hb⟩
  · cases h
/-! A call without arguments that answers an array of numbers. -/
theorem ints_any {ρ ρ' : Names} {k : IntKind} : ∀ {zs : List Int} {l : List Value}, VRs ρ (zs.map fun z => AV.int k z) l → VRs ρ' (zs.map fun z => AV.int k z) l
  | [], _, h => by cases h; exact .nil
  | z :: zs, _, h => by
    cases h with
    | cons hv t => cases hv; exact .cons (.int _ _) (ints_any t)
theorem CallS.closedInts {f : FuncId} {k : IntKind} {zs : List Int} {st1 : St} (h : CallS P f [] st0 (.agg (zs.map fun z => .int k z)) st1) (st : St) : CallS P f [] st (.agg (zs.map fun z => .int k z)) st := by
  refine ⟨h.1, fun ρ w args' cs hH hA => ?_⟩
  cases hA
  obtain ⟨ρ1, w1, v', fr', G, H, V, s, l⟩ := h.2 noNames w [] cs (st0_HR w) .nil
  cases V with
  | agg hv =>
  have hb : Below w.heap.size w w1 := ⟨G.os, G.tape, G.output, G.size, fun k hk => G.same k hk fun b o L hb => by simp [st0, Tr.get] at hb⟩
  obtain ⟨a, c⟩ := hH.beside hb
  exact ⟨ρ, w1, _, fr', c, a, .agg (ints_any hv), s, l⟩
noncomputable def intsAre (k : IntKind) : List Int → List AV → Bool
  | [], [] => true
  | z :: zs, .int k' n :: l => and (and (eqKind k' k) (eqInt n z)) (intsAre k zs l)
  | _, _ => false
theorem intsAre_sound {k : IntKind} : ∀ {zs : List Int} {l : List AV}, intsAre k zs l = true → l = zs.map fun z => AV.int k z
  | [], [], _ => rfl
  | z :: zs, .int k' n :: l, h => by
    simp only [intsAre, Bool.and_eq_true] at h
    obtain ⟨⟨h1, h2⟩, h3⟩ := h
    rw [List.map_cons, intsAre_sound h3, eqKind_iff.1 h1, eqInt_iff.1 h2]
noncomputable def answersInts (k : IntKind) (zs : List Int) (r : Option (AV × St)) : Bool := match r with
  | some (.agg l, _) => intsAre k zs l
  | _ => false
theorem CallS.ranInts (hm : P.follows .mixedOrders = true) {n f : Nat} {k : IntKind} {zs : List Int} (h : answersInts k zs ((run P n).call f [] st0) = true) (st : St) : CallS P f [] st (.agg (zs.map fun z => .int k z)) st := by
  unfold answersInts at h
  split at h
  · rename_i l st1 hr
    obtain rfl := intsAre_sound h
    exact CallS.closedInts ((run_sound hm n).2 f [] st0 _ st1 hr) st
  · cases h
noncomputable def tabInts (f : Nat) (k : IntKind) (zs : List Int) (tab : Tab) : Tab := fun g => Bool.rec (tab g) (some fun args st => List.rec (some (.agg (zs.map fun z => .int k z), st)) (fun _ _ _ => none) args) (Nat.beq g f)
theorem tabInts_ok {tab : Tab} {f : Nat} {k : IntKind} {zs : List Int} (ht : TabOk P tab) (h : ∀ st, CallS P f [] st (.agg (zs.map fun z => .int k z)) st) : TabOk P (tabInts f k zs tab) := by
  intro g F hF args st v st' hr
  unfold tabInts at hF
  cases hb : Nat.beq g f with
  | false => rw [hb] at hF; exact ht g F hF args st v st' hr
  | true =>
    rw [hb] at hF
    injection hF with hF; subst hF
    obtain rfl : g = f := of_beq hb
    cases args with
    | nil => injection hr with hr; injection hr with h1 h2; subst h1; subst h2; exact h _
    | cons a l => cases hr
end Go.Det
