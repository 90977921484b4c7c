/- Laws over tables that are laid. -/
import Derived.Test.YteehkdejkemnmabDoorDvTie
import Derived.Test.YteehkdejkemnmabDoorDvArg
import Derived.Test.YteehkdejkemnmabDoorDvUse
set_option linter.unusedVariables false
namespace Go.Det
open Go.RowKit
variable {P : Program}

/-- The table g, and no other that is not free of names. -/
structure GlIs (g : Nat) (k : IntKind) (zs : List Int) (gl : Tr (List AV)) : Prop where
  got : gl.get g = some (zs.map fun z => .int k z)
  fr : ∀ g l, gl.get g = some l → AV.frees l = true
noncomputable def glT (g : Nat) (k : IntKind) (zs : List Int) : Tr (List AV) := Tr.set .leaf g (zs.map fun z => .int k z)
theorem frees_ints {k : IntKind} : ∀ zs : List Int, AV.frees (zs.map fun z => AV.int k z) = true
  | [] => rfl
  | z :: zs => by simp only [List.map_cons, AV.frees]; rw [show AV.free (.int k z) = true from rfl, ifb_true]; exact frees_ints zs
theorem glT_inv {g : Nat} {k : IntKind} {zs : List Int} {g' : Nat} {l : List AV} (h : (glT g k zs).get g' = some l) : g' = g ∧ l = zs.map fun z => .int k z := by
  unfold glT at h
  rw [Tr.get_set] at h
  by_cases e : g' = g
  · rw [if_pos e] at h; injection h with h; exact ⟨e, h.symm⟩
  · rw [if_neg e] at h; simp [Tr.get] at h
theorem glT_is {g : Nat} {k : IntKind} {zs : List Int} : GlIs g k zs (glT g k zs) :=
  ⟨by unfold glT; rw [Tr.get_set, if_pos rfl], fun g' l h => by rw [(glT_inv h).2]; exact frees_ints zs⟩

noncomputable def stBg (b : Bool) (gl : Tr (List AV)) : St := { heap := .leaf, next := 0, vm := b, gl := gl }
theorem tab_HR {g : Nat} {k : IntKind} {zs : List Int} {w : World} (h : ∀ (i : Nat) (v : Value), (zs.map fun z => Value.int k z)[i]? = some v → w.cell? ⟨g, i, none⟩ = some v) (b : Bool) : HR (frozenAll w) (stBg b (glT g k zs)) w := by
  refine ⟨(fun b L h => by cases h), (fun b o h => by simp [stBg, Tr.get] at h), (fun b b' o o' L L' h => by simp [stBg, Tr.get] at h), (fun _ _ _ h => h), (fun a i v h b o L hb => by simp [stBg, Tr.get] at hb), fun g' l hl => ?_⟩
  obtain ⟨rfl, rfl⟩ := glT_inv (show (glT g k zs).get g' = some l from hl)
  exact ⟨_, tab_VRs zs, h⟩
theorem law_calls_g {g : Nat} {k : IntKind} {zs : List Int} {f : FuncId} {args : List AV} {st' : St} {b : Bool} (h : CallS P f args (stBg b (glT g k zs)) (.bool true) st') {w : World} {args' : List Value}
    (hg : ∀ (i : Nat) (v : Value), (zs.map fun z => Value.int k z)[i]? = some v → w.cell? ⟨g, i, none⟩ = some v) (hA : VRs (frozenAll w) args args') :
    Calls P f ⟨args'⟩ w fun e w' => e = .returned (.bool true) ∧ Below w.heap.size w w' := by
  refine (h.calls (tab_HR hg b) hA).mono ?_
  rintro e w' ⟨ρ, v', rfl, V, H, G⟩
  cases V
  exact ⟨rfl, G.os, G.tape, G.output, G.size, fun k hk => G.same k hk fun b o L hb => by simp [stBg, Tr.get] at hb⟩
/-- A law over a table, its arguments told plainly. -/
theorem law_plain_g {g : Nat} {k : IntKind} {zs : List Int} (hm : P.follows .mixedOrders = true) {K : Known} (hK : KnownOk P K) {n f : Nat} {shapes : List Sh} {b : Bool}
    (h : ∀ y : ShPls shapes, ShPlOks shapes y → callW P (runW P K n) f (ShPlAvs shapes y) (stBg b (glT g k zs)) fun v _ => yesQ v)
    {x : ShVs shapes} (hx : ShOks shapes x) {w : World} {args' : List Value} (hg : ∀ (i : Nat) (v : Value), (zs.map fun z => Value.int k z)[i]? = some v → w.cell? ⟨g, i, none⟩ = some v) (hA : VRs (frozenAll w) (ShAvs shapes x) args') :
    Calls P f ⟨args'⟩ w fun e w' => e = .returned (.bool true) ∧ Below w.heap.size w w' := by
  obtain ⟨v, st', h1, h2⟩ := CallS.of_W hm hK n (h _ (ShPl_ok shapes x hx))
  obtain rfl := yesQ_eq h2
  exact law_calls_g h1 hg ((ShPl_wk shapes x).vrs hA)
/-- A run over the table, seen from where the table is known. -/
theorem CallS.tab {g : Nat} {k : IntKind} {zs : List Int} {f : FuncId} {args : List AV} {v : AV} {st1 : St} (h : CallS P f args (stG g k zs) v st1) {gl : Tr (List AV)} (hg : GlIs g k zs gl) (vm : Bool) : CallS P f args (stL vm [] gl) v st1 := by
  refine ⟨h.1, fun ρ w args' cs hH hA => ?_⟩
  have hH' : HR ρ (stG g k zs) w := by
    refine ⟨hH.lt, (fun b o h => by simp [stG, Tr.get] at h), (fun b b' o o' L L' h => by simp [stG, Tr.get] at h), hH.mem, (fun a i v h b o L hb => by simp [stG, Tr.get] at hb), fun g' l hl => ?_⟩
    obtain ⟨rfl, rfl⟩ := glT_inv (show (glT g k zs).get g' = some l from hl)
    exact hH.glob _ _ hg.got
  obtain ⟨ρ', w', v', fr', G, H, V, s, l⟩ := h.2 ρ w args' cs hH' hA
  exact ⟨ρ', w', v', fr', ⟨G.le, G.next, G.fresh, G.size, G.img, G.same, G.os, G.tape, G.output, G.drawn, G.grew⟩, H, V, s, l⟩
theorem closed_gl (hm : P.follows .mixedOrders = true) {n f g : Nat} {k : IntKind} {zs : List Int} (h : answersTrue ((run P n).call f [] (stG g k zs)) = true) {gl : Tr (List AV)} (hg : GlIs g k zs gl) (vm : Bool) :
    ∃ st1, CallS P f [] (stL vm [] gl) (.bool true) st1 := by
  unfold answersTrue at h
  split at h
  · rename_i st hr
    exact ⟨st, CallS.tab ((run_sound hm n).2 f [] (stG g k zs) _ st hr) hg vm⟩
  · cases h
/-- It answers the number. -/
noncomputable def answersInt (q : IntKind) (z : Int) (r : Option (AV × St)) : Bool := match r with | some (.int q' z', _) => and (eqKind q' q) (eqInt z' z) | _ => false
theorem int_gl (hm : P.follows .mixedOrders = true) {n f g : Nat} {k : IntKind} {zs : List Int} {args : List AV} {q : IntKind} {z : Int} (h : answersInt q z ((run P n).call f args (stG g k zs)) = true) {gl : Tr (List AV)} (hg : GlIs g k zs gl) (vm : Bool) :
    ∃ st1, CallS P f args (stL vm [] gl) (.int q z) st1 := by
  unfold answersInt at h
  split at h
  · rename_i q' z' st hr
    rw [Bool.and_eq_true] at h
    obtain rfl := eqKind_iff.1 h.1
    obtain rfl := eqInt_iff.1 h.2
    exact ⟨st, CallS.tab ((run_sound hm n).2 f args (stG g k zs) _ st hr) hg vm⟩
  · cases h
/-- A closed law over the table, as a contract. -/
noncomputable def livesG (gl : Tr (List AV)) : CallC := callCg gl 0 Tel.nil BTel.nil (fun _ => True) [⟨_, _, .cons 0 (.con (.bool true) rfl) .nil, BTel.nil, fun _ _ _ => True⟩]
theorem livesG_ok (hm : P.follows .mixedOrders = true) {n f g : Nat} {k : IntKind} {zs : List Int} (h : answersTrue ((run P n).call f [] (stG g k zs)) = true) {gl : Tr (List AV)} (hg : GlIs g k zs gl) : CcOk P f (livesG gl) :=
  call_ok_ofg (vm := false) (rw' := fun _ => false) hg.fr rfl fun z _ => by
    obtain ⟨st1, h1⟩ := closed_gl hm h hg false
    refine ⟨_, st1, h1, ?_⟩
    show resAt 0 _ z (.bool true) st1
    unfold resAt one1
    refine (ifp_iff.2 (Or.inl ⟨rfl, ?_⟩))
    exact ⟨rfl, rfl, trivial⟩
end Go.Det
