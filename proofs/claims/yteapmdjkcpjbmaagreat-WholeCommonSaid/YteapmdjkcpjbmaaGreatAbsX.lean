/- The abstract evaluator: the theorem for a call. -/
import Derived.Test.YteapmdjkcpjbmaaGreatAbsR
import Derived.Below
namespace Go.Abs
open Go.RowKit
section
variable {P : Program} {f : FuncId} {args : List V} {xs : List Value} {fuel : Nat} {w : World}

def env0 : Env := ⟨fun _ => none, fun _ => False⟩
theorem hg0 (w : World) : HG w (fun _ => False) env0 .nil 0 w :=
  ⟨⟨fun n o h => by simp [Tr.get_nil] at h, fun n m o p B C h => by simp [Tr.get_nil] at h, fun n o B h => by simp [Tr.get_nil] at h, fun b h => h.elim⟩, fun _ _ => rfl,
    ⟨rfl, rfl, rfl, Nat.le_refl _, fun _ _ _ => rfl, fun n o B h => by simp [Tr.get_nil] at h⟩⟩

/-- A call that the evaluator has run to its end. -/
theorem calls_of_eval (hg : goodB P = true) {v : V} {H' : Heap} {nx' : Nat} (h : eval P fuel (.call f args .nil 0) = .ret v H' nx') (w : World) (hx : Rds env0 w args xs) :
    Calls P f ⟨xs⟩ w fun
      | .returned x, w' => (∃ E', HInv E' H'.get w' ∧ Rd E' w' v x) ∧ Below w.heap.size w w'
      | _, _ => False := by
  have hs := eval_ok hg fuel (.call f args .nil 0)
  rw [h] at hs
  refine callsIn_wide.1 (CallsIn.mono (hs w _ env0 w xs (hg0 w) hx) (fun e w' hR => ?_))
  cases e with
  | returned x =>
    obtain ⟨E', h1, h2, h3⟩ := hR
    exact ⟨⟨E', h2.inv, h3⟩, ⟨h2.G.os, h2.G.tape, h2.G.output, h2.G.size, fun k hk => h2.G.block k hk (fun h => h)⟩⟩
  | panicked c => exact hR
  | outgrown => exact hR

/-- Is it a return of a truth value? -/
def retB : Out → Option Bool
  | .ret (.bool b) _ _ => some b
  | _ => none
theorem calls_bool (hg : goodB P = true) {b : Bool} (h : retB (eval P fuel (.call f args .nil 0)) = some b) (w : World) (hx : Rds env0 w args xs) :
    Calls P f ⟨xs⟩ w fun
      | .returned x, w' => x = .bool b ∧ Below w.heap.size w w'
      | _, _ => False := by
  cases ho : eval P fuel (.call f args .nil 0) with
  | ret v H nx =>
    rw [ho] at h
    have hv : v = .bool b := by
      cases v <;> simp [retB] at h
      rw [h]
    subst hv
    have := (callsIn_wide (n := 0)).2 (calls_of_eval hg ho w hx)
    refine callsIn_wide.1 (CallsIn.mono this (fun e w' hR => ?_))
    cases e with
    | returned x =>
      obtain ⟨⟨E', _, hr⟩, hb⟩ := hR
      cases hr
      exact ⟨rfl, hb⟩
    | panicked c => exact hR
    | outgrown => exact hR
  | code e s => rw [ho] at h; cases h
  | fail m => rw [ho] at h; cases h
end
end Go.Abs
