/- Functions of values: what they answer, and tables of them. -/
import Derived.Test.YtenpjnfbpkidoaaGreatDoorDvShape
set_option linter.unusedVariables false
namespace Go.Det
variable {P : Program}

/-- Whatever the memory, the call answers so, and nothing turns. -/
def Val (P : Program) (f : FuncId) (args : List AV) (v : AV) : Prop := ∀ st, CallS P f args st v st
abbrev FT := List (FuncId × (List AV → Option AV))
noncomputable def look : FT → Nat → Option (List AV → Option AV)
  | [], _ => none
  | (g, F) :: l, f => ifb (Nat.beq f g) (some F) (look l f)
def FtOk (P : Program) (ft : FT) : Prop := ∀ g F, (g, F) ∈ ft → ∀ args v, F args = some v → Val P g args v
theorem look_mem : ∀ {ft : FT} {f : Nat} {F : List AV → Option AV}, look ft f = some F → (f, F) ∈ ft
  | [], f, F, h => by cases h
  | (g, G) :: l, f, F, h => by
    simp only [look] at h
    cases hb : Nat.beq f g with
    | true =>
      rw [hb] at h
      injection h with h; subst h
      obtain rfl : f = g := of_beq hb
      simp
    | false => rw [hb] at h; exact List.mem_cons_of_mem _ (look_mem h)
noncomputable def knowV (ft : FT) : FuncId → Option CallC := fun f => om (fun F args st Q => obW (F args) fun v => Q v st) (look ft f)
noncomputable def KV (ft : FT) : Known := { tab := knowV ft, lp := fun _ _ => none }
noncomputable def KE (ft : FT) : Known := { tab := knowV ft, lp := fun _ _ => none, eqs := true }
theorem knowV_ok {ft : FT} {lp : FuncId → Nat → Option LoopC} {e : Bool} (h : FtOk P ft) : KnownOk P { tab := knowV ft, lp := lp, eqs := e } := by
  intro g C args st Q hC hr
  change om _ (look ft g) = some C at hC
  rw [om_eq] at hC
  cases hl : look ft g with
  | none => rw [hl] at hC; cases hC
  | some F =>
    rw [hl] at hC
    injection hC with hC; subst hC
    obtain ⟨v, h1, h2⟩ := obW_iff.1 hr
    exact ⟨v, st, h _ _ (look_mem hl) _ _ h1 st, h2⟩
theorem FtOk.nil : FtOk P [] := fun g F h => by cases h
theorem FtOk.cons {ft : FT} {g : FuncId} {F : List AV → Option AV} (h : ∀ args v, F args = some v → Val P g args v) (h' : FtOk P ft) : FtOk P ((g, F) :: ft) := by
  intro g' F' hm
  rcases List.mem_cons.1 hm with e | hm
  · injection e with e1 e2; subst e1; subst e2; exact h
  · exact h' _ _ hm
theorem FtOk.append {a b : FT} (h : FtOk P a) (h' : FtOk P b) : FtOk P (a ++ b) := fun g F hm => by
  rcases List.mem_append.1 hm with hm | hm
  · exact h _ _ hm
  · exact h' _ _ hm

/-- What is reckoned ahead of the call, at nothing, holds anywhere. -/
theorem Val.of {ft : FT} (hm : P.follows .mixedOrders = true) (hft : FtOk P ft) {n : Nat} {f : FuncId} {args : List AV} {v : AV} {X : (AV → Prop) → Prop} (ha : AV.frees args = true) (hv : AV.free v = true) (hd : AV.drop v = v)
    (e : ∀ Q : AV → Prop, (callW P (runW P (KV ft) n) f args (stE false) fun x _ => Q x) = X Q) (h : X fun x => x = v) : Val P f args v := by
  intro st
  have h' : callW P (runW P (KV ft) n) f args (stE false) (fun x _ => x = v) := (e _) ▸ h
  obtain ⟨v1, st1, h1, h2⟩ := CallS.of_W hm (knowV_ok hft) n h'
  subst h2
  have := CallS.lift h1 ha (by rw [hd]; exact hv) st
  rwa [hd] at this

theorem Val.ofE {ft : FT} (hm : P.follows .mixedOrders = true) (hft : FtOk P ft) {n : Nat} {f : FuncId} {args : List AV} {v : AV} {X : (AV → Prop) → Prop} (ha : AV.frees args = true) (hv : AV.free v = true) (hd : AV.drop v = v)
    (e : ∀ Q : AV → Prop, (callW P (runW P (KE ft) n) f args (stE false) fun x _ => Q x) = X Q) (h : X fun x => x = v) : Val P f args v := by
  intro st
  have h' : callW P (runW P (KE ft) n) f args (stE false) (fun x _ => x = v) := (e _) ▸ h
  obtain ⟨v1, st1, h1, h2⟩ := CallS.of_W hm (knowV_ok hft) n h'
  subst h2
  have := CallS.lift h1 ha (by rw [hd]; exact hv) st
  rwa [hd] at this

theorem ifp_if {b : Bool} {x y : Prop} : ifp b x y = if b = true then x else y := by cases b <;> simp [ifp]
theorem ifp_le {a b : Int} {x y : Prop} : ifp (leInt a b) x y = if a ≤ b then x else y := by rw [ifp_if, leInt_eq]; by_cases h : a ≤ b <;> simp [h]
theorem ifp_nle {a b : Int} {x y : Prop} : ifp (!leInt a b) x y = if a ≤ b then y else x := by rw [ifp_if, leInt_eq]; by_cases h : a ≤ b <;> simp [h]
theorem ifp_eq {a b : Int} {x y : Prop} : ifp (eqInt a b) x y = if a = b then x else y := by rw [ifp_if, eqInt_eq]; by_cases h : a = b <;> simp [h]
theorem ifp_ne {a b : Int} {x y : Prop} : ifp (!eqInt a b) x y = if a = b then y else x := by rw [ifp_if, eqInt_eq]; by_cases h : a = b <;> simp [h]
theorem ifb_le {α : Type} {a b : Int} {x y : α} : ifb (leInt a b) x y = if a ≤ b then x else y := by rw [ifb_eq, leInt_eq]; by_cases h : a ≤ b <;> simp [h]
theorem same_int {k : IntKind} {a b : Int} (h : a = b) : AV.int k a = AV.int k b := by rw [h]
theorem same_bool {a b : Bool} (h : a = b) : AV.bool a = AV.bool b := by rw [h]
theorem wr64 {z : Int} (h1 : -9223372036854775808 ≤ z) (h2 : z < 9223372036854775808) : wrapF .i64 z = z := by
  rw [wrapF_eq]
  show (if (true && decide (z % 18446744073709551616 ≥ 9223372036854775808)) = true then z % 18446744073709551616 - 18446744073709551616 else z % 18446744073709551616) = z
  rw [Bool.true_and]
  by_cases h : z % 18446744073709551616 ≥ 9223372036854775808
  · rw [if_pos (decide_eq_true h)]; omega
  · rw [if_neg (by rw [decide_eq_false h]; simp)]; omega

theorem wadd {a b : Int} (h1 : -9223372036854775808 ≤ a + b) (h2 : a + b < 9223372036854775808) : wrapF .i64 (Int.add a b) = a + b := wr64 h1 h2
theorem wsub {a b : Int} (h1 : -9223372036854775808 ≤ a - b) (h2 : a - b < 9223372036854775808) : wrapF .i64 (Int.sub a b) = a - b := wr64 h1 h2
theorem wmul {a b : Int} (h1 : -9223372036854775808 ≤ a * b) (h2 : a * b < 9223372036854775808) : wrapF .i64 (Int.mul a b) = a * b := wr64 h1 h2

end Go.Det
