/- slices.Clone of an empty slice that is not nil, at whatever address (after the library's proof of slices.Clone). -/
import Derived.Test.YteehkdejkemnmabDoorDvSort
import Derived.Shelf.SlicesE.Clone
set_option linter.unusedVariables false
set_option linter.unusedSimpArgs false
namespace Go.Det
open Go Go.Shelf Go.RowKit Go.Lib Go.Proofs
variable {P : Program} {ρ : Ren}
theorem wpList_append_none {w : World} {ops : Array Oper} {rest : List Oper} {o : Oper} {a : Act} {Q : Exit → Act → World → Prop} (hgd : o.guard = none) (s x : Operand) (t : TypeId)
    (ho : o.op = .call { callee := .builtin .append, args := #[s, x], argTypes := #[t, t] }) (e : TypeId) (i : TypeInfo) (ht : P.underlying t = some (.slice e)) (hi : P.info? e = some i)
    (b ad : Addr) (cap c : Nat) (hs : a.eval s = .slice (some b) 0 cap) (hx : a.eval x = .slice (some ad) 0 c)
    (h : wpList P ops Q rest (a.put o.dst (.slice (some b) 0 cap)) w) : wpList P ops Q (o :: rest) a w := by
  refine wpList_plain hgd fun K hK => ?_
  have hr : (Builtin.append_ #[t, t] o.type #[.slice (some b) 0 cap, .slice (some ad) 0 c]).run P w = .ok (.slice (some b) 0 cap) w :=
    append_fit (P := P) (A := #[t, t]) (X := #[.slice (some b) 0 cap, .slice (some ad) 0 c]) (new := []) (n := 0) rfl rfl rfl rfl ht hi
      (.plain (.inr ⟨t, _, rfl, ht, fun k => by simp⟩) (by simp [Builtin.lenOf]) (fun m => by simp [Builtin.firstCells, loadCells, loadCellsFrom])) (by omega) (fun a ha => by simp [storeCells]) (fun h => by cases h)
  unfold Oper.wp execOp
  simp only [ho, resolve, invoke, builtin, Sem.run_bind, Sem.run_pure, Result.andThen_ok, List.map_toArray, List.map_cons, List.map_nil, hs, hx, hr]
  exact hK _ _ h
set_option maxHeartbeats 2000000 in
set_option maxRecDepth 100000 in
theorem clone_zero (L : SlLaysE0.n41 P ρ) (i0 : TypeInfo) (z : Value) (size bytes : Nat) (hi : P.info? (ρ.t 23) = some i0) (hz0 : i0.zero = some z) (hz1 : i0.size = size) (hz2 : i0.bytes = bytes) (hzs : z.cells.size = size) (hsz : 0 < size)
    (z23 : ∀ w, (Go.sizeOf (ρ.t 23)).run P w = .ok size w) (a : Addr) (c : Nat) (w : World) :
    Calls P (ρ.f 41) #[.slice (some a) 0 c] w fun e w' => ∃ v', e = .returned v' ∧ w'.ownsRow w.heap.size (ρ.t 23) size v' 0 [] ∧ v' ≠ .slice none 0 0 ∧ Below w.heap.size w w' ∧ w.drawn ≤ w'.drawn := by
  have mixed := L.mixed; have t4 := L.t4; have a4 := L.a4; have z4 := L.z4; have v4 := L.v4; have t22 := L.t22; have a22 := L.a22; have z22 := L.z22; have v22 := L.v22
  have q22 : ∀ (w : World) (a : Option Addr) (n c n' c' : Nat), (binOp .eql (ρ.t 22) (.slice a n c) (.slice none n' c')).run P w = .ok (.bool a.isNone) w := fun w a n c n' c' => Lib.run_eql_slice_nil w _ _ a n c n' c' L.t22
  have u22 : ∀ w, Sem.run P (underlying (ρ.t 22)) w = .ok (TypeDesc.slice (ρ.t 23)) w := run_underlying t22
  obtain ⟨_, _, FG⟩ := L.f41
  go_enter FG, SlBodyN.n41_ntmps ρ
  go_wp2_with (at_builtin; refine wpList_append_none rfl _ _ (ρ.t 22) rfl (ρ.t 23) i0 t22 hi _ a _ c rfl rfl ?_)
  go_wp2
  go_ret
  refine ⟨_, rfl, ?_, ?_, ?_, ?_⟩
  · exact World.ownsRow_made w #[] 0 (Nat.le_refl _) (Nat.zero_le _) (by simp)
  · simp
  · exact (Below.refl _ w).alloc (Nat.le_refl _) _
  · exact Nat.le_refl _
/-- The copy of an empty slice, be it nil or not. -/
theorem clone_empty (L : SlLaysE0.n41 P ρ) (i0 : TypeInfo) (z : Value) (size bytes : Nat) (hi : P.info? (ρ.t 23) = some i0) (hz0 : i0.zero = some z) (hz1 : i0.size = size) (hz2 : i0.bytes = bytes) (hzs : z.cells.size = size) (hsz : 0 < size)
    (z23 : ∀ w, (Go.sizeOf (ρ.t 23)).run P w = .ok size w) (hen : ∀ (X : Array Value) (w : World), (callFunc (ρ.f 41) X).run P w = .ok (.enter (ρ.f 41) X) w) (e : Nat) :
    Val P (ρ.f 41) [.vs [] 0 0 false none e] (.vs [] 0 0 false none e) := fun st => CallS.of_calls hen fun σ w args' hH hA => by
  cases hA with
  | cons hs hA =>
    cases hA
    cases hs with
    | vs h hsc hl h1 h2 h3 h4 h5 =>
      refine Calls.mono (clone_zero L i0 z size bytes hi hz0 hz1 hz2 hzs hsz z23 _ _ w) ?_
      rintro ev w' ⟨v', rfl, ⟨_, hown⟩, hne, hb, hd⟩
      obtain ⟨hH', hG⟩ := hH.beside hb hd
      rcases hown with ⟨h0, _⟩ | ⟨g, cap, cur, rfl, _⟩
      · exact absurd h0 hne
      · exact ⟨σ, _, rfl, hG, hH', .vs (blk := g) (off := 0) .nil rfl (by simp) (Nat.le_refl _) (Nat.zero_le _) (by simp) (.inr ⟨rfl, by simp⟩) (by simp)⟩
    | vsNil =>
      refine Calls.mono (AnyE.slices_Clone_nil L 0 0 w) ?_
      rintro ev w' ⟨rfl, rfl⟩
      exact ⟨σ, _, rfl, Goes.refl, hH, .vsNil⟩
end Go.Det
