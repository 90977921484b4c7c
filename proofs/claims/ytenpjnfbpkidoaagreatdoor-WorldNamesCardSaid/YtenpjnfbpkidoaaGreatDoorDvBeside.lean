/- A call, and what stands beside it: from the contracts of the library to the machine's, and back. -/
import Derived.Test.YtenpjnfbpkidoaaGreatDoorDvTop
set_option linter.unusedVariables false
set_option linter.unusedSimpArgs false
namespace Go.Det
open Go.RowKit
variable {P : Program}

/-- The world has at most new blocks. -/
theorem HR.beside {ρ : Names} {st : St} {w w' : World} (h : HR ρ st w) (hb : Below w.heap.size w w') : HR ρ st w' ∧ Goes ρ st w ρ st w' := by
  have same : ∀ k, k < w.heap.size → w'.heap[k]? = w.heap[k]? := hb.block
  refine ⟨⟨fun b L hL => ⟨(h.lt b L hL).1, Nat.lt_of_lt_of_le (h.lt b L hL).2 hb.size⟩, fun b o hbo => ?_, h.inj, fun a i v hv => ?_, h.sep, h.glob⟩,
    ⟨Names.le_refl _, Nat.le_refl _, fun _ _ h => .inl h, hb.size, fun b o L h1 h2 _ => ⟨b, o, L, h1, h2, rfl⟩, fun x hx _ => same x hx, hb.os, hb.tape, hb.output, fun _ _ _ h => .inl h⟩⟩
  · obtain ⟨L, hL, hO⟩ := h.obj b o hbo
    exact ⟨L, hL, by rw [same _ (h.lt _ _ hL).2]; exact hO⟩
  · rw [cell_of (same a (h.mem_lt hv))]; exact h.mem _ _ _ hv

/-- A call that was run from nothing, and answers a truth, answers it anywhere. -/
theorem CallS.closed {f : FuncId} {b : Bool} {st1 : St} (h : CallS P f [] st0 (.bool b) st1) (st : St) : CallS P f [] st (.bool b) st := by
  refine ⟨h.1, fun ρ w args' cs hH hA => ?_⟩
  cases hA
  obtain ⟨ρ1, w1, v', fr', G, H, V, s, l⟩ := h.2 noNames w [] cs (st0_HR w) .nil
  cases V
  have hb : Below w.heap.size w w1 := ⟨G.os, G.tape, G.output, G.size, fun k hk => G.same k hk fun b o L hb => by simp [st0, Tr.get] at hb⟩
  obtain ⟨a, c⟩ := hH.beside hb
  exact ⟨ρ, w1, _, fr', c, a, .bool b, s, l⟩

/-- A contract of the library's, taken up. -/
theorem CallS.of_calls {f : FuncId} {args : List AV} {st st' : St} {v : AV} (hen : ∀ (X : Array Value) (w : World), (callFunc f X).run P w = .ok (.enter f X) w)
    (h : ∀ ρ w args', HR ρ st w → VRs ρ args args' → Calls P f ⟨args'⟩ w fun e w' => ∃ ρ' v', e = .returned v' ∧ Goes ρ st w ρ' st' w' ∧ HR ρ' st' w' ∧ VR ρ' v v') : CallS P f args st v st' := by
  refine ⟨hen, fun ρ w args' cs hH hA => ?_⟩
  obtain ⟨e, w', fr, ⟨ρ', v', rfl, G, H, V⟩, hs, hf, hl⟩ := h ρ w args' hH hA cs
  obtain ⟨l1, l2, l3, fn, l4, l5⟩ := hl
  subst hf
  exact ⟨ρ', w', v', fr, G, H, V, hs, rfl, l3, l1, l2, fn, l4, l5⟩
/-- And handed on. -/
theorem CallS.calls {f : FuncId} {args : List AV} {st st' : St} {v : AV} (h : CallS P f args st v st') {ρ : Names} {w : World} {args' : List Value} (hH : HR ρ st w) (hA : VRs ρ args args') :
    Calls P f ⟨args'⟩ w fun e w' => ∃ ρ' v', e = .returned v' ∧ VR ρ' v v' ∧ HR ρ' st' w' ∧ Goes ρ st w ρ' st' w' := by
  intro cs
  obtain ⟨ρ', w', v', fr', G, H, V, s, l1, l3, l4, l2, l5⟩ := h.2 ρ w args' cs hH hA
  subst l1
  exact ⟨.returned v', w', fr', ⟨ρ', v', rfl, V, H, G⟩, s, rfl, l4, l2, l3, l5⟩

end Go.Det
