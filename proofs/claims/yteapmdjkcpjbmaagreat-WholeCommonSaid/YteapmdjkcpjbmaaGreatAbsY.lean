/- The abstract evaluator: with calls that are known already. -/
import Derived.Test.YteapmdjkcpjbmaaGreatAbsX
namespace Go.Abs
open Go.RowKit

def lookM (f : FuncId) : List (FuncId × Bool) → Option Bool
  | [] => none
  | (g, b) :: r => bif Nat.beq f g then some b else lookM f r
def withMemo (m : List (FuncId × Bool)) (rec : Task → Out) (t : Task) : Out :=
  match t with
  | .call f [] H nx => match lookM f m with
    | some b => .ret (.bool b) H nx
    | none => rec t
  | t => rec t
def evalM (P : Program) (m : List (FuncId × Bool)) : Nat → Task → Out
  | 0 => fun _ => .fail "fuel"
  | n + 1 => withMemo m (stepTask P (evalM P m n))

/-- What is known of calls without arguments: they return a truth value and leave what was there. -/
def MemoOk (P : Program) (m : List (FuncId × Bool)) : Prop :=
  ∀ f b, lookM f m = some b → ∀ w : World, Calls P f ⟨[]⟩ w fun
    | .returned x, w' => x = .bool b ∧ Below w.heap.size w w'
    | _, _ => False

theorem hg_below {w0 w w' : World} {O : Nat → Prop} {E : Env} {H : Heap} {nx : Nat} (h : HG w0 O E H nx w) (hb : Below w.heap.size w w') : HG w0 O E H nx w' ∧ Gro E w nx E w' nx := by
  have k : Evo E w E w' := ⟨fun _ _ h => h, fun _ h => h, fun b hI => hb.block b (h.inv.Ilt b hI)⟩
  refine ⟨⟨⟨fun n o ho => ?_, h.inv.inj, h.inv.notI, fun b hI => Nat.lt_of_lt_of_le (h.inv.Ilt b hI) hb.size⟩, h.fresh, ⟨hb.os.trans h.G.os, hb.tape.trans h.G.tape, hb.output.trans h.G.output, Nat.le_trans h.G.size hb.size, fun b hlt hO => (hb.block b (Nat.lt_of_lt_of_le hlt h.G.size)).trans (h.G.block b hlt hO), h.G.own⟩⟩, k, Nat.le_refl _, fun _ _ => rfl, fun _ h => h⟩
  obtain ⟨B, hB, hr⟩ := h.inv.obj n o ho
  exact ⟨B, hB, hr.evo k (hb.block _ hr.lt)⟩

theorem memo_ok {P : Program} {rec : Task → Out} {m : List (FuncId × Bool)} (hm : MemoOk P m) (hr : SoundR P rec) : SoundR P (withMemo m rec) := by
  intro t
  unfold withMemo
  split
  · rename_i f H nx
    split
    · rename_i b hb
      intro w0 O E w xs hh hx
      cases hx
      refine CallsIn.mono (F := FF none) (n := 0) ((callsIn_wide (n := 0)).2 (hm f b hb w)) (fun e w' hR => ?_)
      cases e with
      | returned x =>
        obtain ⟨rfl, hbl⟩ := hR
        obtain ⟨h1, h2⟩ := hg_below hh hbl
        exact ⟨E, h2, h1, .bool b⟩
      | panicked c => exact hR
      | outgrown => exact hR
    · exact hr _
  · exact hr _
theorem evalM_ok {P : Program} {m : List (FuncId × Bool)} (hg : goodB P = true) (hm : MemoOk P m) : ∀ n, SoundR P (evalM P m n)
  | 0 => fun t => by cases t <;> trivial
  | n + 1 => memo_ok hm (step_ok hg (evalM_ok hg hm n))

theorem memo_nil (P : Program) : MemoOk P [] := fun f b h => by simp [lookM] at h

theorem callsM_bool {P : Program} {f : FuncId} {args : List V} {xs : List Value} {fuel : Nat} {m : List (FuncId × Bool)} (hg : goodB P = true) (hm : MemoOk P m) {b : Bool} (h : retB (evalM P m fuel (.call f args .nil 0)) = some b) (w : World) (hx : Rds env0 w args xs) :
    Calls P f ⟨xs⟩ w fun
      | .returned x, w' => x = .bool b ∧ Below w.heap.size w w'
      | _, _ => False := by
  have hs := evalM_ok hg hm fuel (.call f args .nil 0)
  cases ho : evalM P m fuel (.call f args .nil 0) with
  | ret v H nx =>
    rw [ho] at h hs
    have hv : v = .bool b := by
      cases v <;> simp [retB] at h
      rw [h]
    subst hv
    refine callsIn_wide.1 (CallsIn.mono (hs w _ env0 w xs (hg0 w) hx) (fun e w' hR => ?_))
    cases e with
    | returned x =>
      obtain ⟨E', h1, h2, h3⟩ := hR
      cases h3
      exact ⟨rfl, ⟨h2.G.os, h2.G.tape, h2.G.output, h2.G.size, fun k hk => h2.G.block k hk (fun h => h)⟩⟩
    | panicked c => exact hR
    | outgrown => exact hR
  | code e s => rw [ho] at h; cases h
  | fail m => rw [ho] at h; cases h

theorem memo_cons {P : Program} {m : List (FuncId × Bool)} {f : FuncId} {b : Bool} (hm : MemoOk P m) (h : ∀ w : World, Calls P f ⟨[]⟩ w fun
    | .returned x, w' => x = .bool b ∧ Below w.heap.size w w'
    | _, _ => False) : MemoOk P ((f, b) :: m) := by
  intro g c hl w
  simp only [lookM] at hl
  cases hb : Nat.beq g f with
  | true =>
    have : g = f := by simpa using hb
    subst this
    simp [hb] at hl
    subst hl
    exact h w
  | false => simp only [hb, cond_false] at hl; exact hm g c hl w
end Go.Abs
