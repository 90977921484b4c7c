/- A closed run over package-level tables whose contents are known. -/
import Derived.Test.YtenpjnfbpkidoaaGreatDoorDvTop
import Derived.Lib.LaidTab
set_option linter.unusedVariables false
namespace Go.Det
open Go.RowKit
variable {P : Program}

/-- The state in which a table of bytes is known. -/
noncomputable def stG (g : Nat) (k : IntKind) (zs : List Int) : St := { heap := .leaf, next := 0, gl := Tr.set .leaf g (zs.map fun z => .int k z) }
def tabNames (g : Nat) (k : IntKind) (zs : List Int) : Names := ⟨fun _ => none, fun a i => if a = g then (zs.map fun z => Value.int k z)[i]? else none⟩
theorem tab_VRs {ρ : Names} {k : IntKind} : ∀ zs : List Int, VRs ρ (zs.map fun z => .int k z) (zs.map fun z => Value.int k z)
  | [] => .nil
  | z :: zs => .cons (.int k z) (tab_VRs zs)
theorem stG_HR {g : Nat} {k : IntKind} {zs : List Int} {w : World} (h : ∀ (i : Nat) (v : Value), (zs.map fun z => Value.int k z)[i]? = some v → w.cell? ⟨g, i, none⟩ = some v) : HR (tabNames g k zs) (stG g k zs) w := by
  refine ⟨?_, ?_, ?_, ?_, ?_, ?_⟩
  · intro b L h; cases h
  · intro b o h; simp [stG, Tr.get] at h
  · intro b b' o o' L L' h; simp [stG, Tr.get] at h
  · intro a i v hv
    change (if a = g then (zs.map fun z => Value.int k z)[i]? else none) = some v at hv
    by_cases e : a = g
    · rw [if_pos e] at hv; subst e; exact h i v hv
    · rw [if_neg e] at hv; cases hv
  · intro a i v _ b o L hb; simp [stG, Tr.get] at hb
  · intro g' l hl
    change (Tr.set Tr.leaf g (zs.map fun z => AV.int k z)).get g' = some l at hl
    rw [Tr.get_set] at hl
    by_cases e : g' = g
    · rw [if_pos e] at hl; injection hl with hl; subst hl; subst e
      refine ⟨_, tab_VRs zs, fun i v hv => ?_⟩
      show (if g' = g' then (zs.map fun z => Value.int k z)[i]? else none) = some v
      rw [if_pos rfl]; exact hv
    · rw [if_neg e] at hl; simp [Tr.get] at hl
theorem closed_tab (hm : P.follows .mixedOrders = true) {n f g : Nat} {k : IntKind} {zs : List Int} (h : answersTrue ((run P n).call f [] (stG g k zs)) = true) (w : World)
    (hg : ∀ (i : Nat) (v : Value), (zs.map fun z => Value.int k z)[i]? = some v → w.cell? ⟨g, i, none⟩ = some v) :
    Calls P f #[] w fun e w' => e = .returned (.bool true) ∧ Below w.heap.size w w' := by
  unfold answersTrue at h
  split at h
  · rename_i st hr
    obtain ⟨_, hc⟩ := (run_sound hm n).2 f [] (stG g k zs) _ st hr
    intro cs
    obtain ⟨ρ', w', v', fr', G, H, V, s, l⟩ := hc (tabNames g k zs) w [] cs (stG_HR hg) .nil
    obtain ⟨l1, l2, l3, l4, l5⟩ := l
    subst l1
    cases V
    exact ⟨.returned (.bool true), w', fr', ⟨rfl, G.os, G.tape, G.output, G.size, fun k hk => G.same k hk fun b o L hb => by simp [stG, Tr.get] at hb⟩, s, rfl, l3, l4, l2, l5⟩
  · cases h
theorem tab_cells {P : Program} {W : World} {name : String} {k : IntKind} {zs : List Int} {g : Nat} (h : Lib.TabIs P W name k zs) (hg : P.globalNamed name = some g) (i : Nat) (v : Value) (hv : (zs.map fun z => Value.int k z)[i]? = some v) : W.cell? ⟨g, i, none⟩ = some v := by
  have hi : i < zs.length := by
    rcases Nat.lt_or_ge i zs.length with q | q
    · exact q
    · rw [List.getElem?_eq_none (by simpa using q)] at hv; cases hv
  rw [h.cell hg i hi]
  rw [List.getElem?_map, List.getElem?_eq_getElem hi] at hv
  simp only [Option.map_some] at hv
  rw [← hv]; simp [List.getD, hi]
end Go.Det
