/- The abstract evaluator: soundness of code, calls, loops, ranges over functions. -/
import Derived.Test.YteapmdjkcpjbmaaGreatAbsP
import Derived.RangeFuncLeaves
import Derived.ScopeJumps
namespace Go.Abs

/-- The fence of everything, in a round's frame or not. -/
def FF (ro : Option Nat) : Fence := { fn := fun _ => True, depth := none, alive := false, round := ro }
def RO (E : Env) (ro ro' : Option Nat) : Prop := match ro with
  | none => ro' = none
  | some n => ∃ B, E.σ n = some B ∧ ro' = some B.b
theorem RO.mono {E E' : Env} {w w' : World} (k : Evo E w E' w') {ro ro' : Option Nat} (h : RO E ro ro') : RO E' ro ro' := by
  cases ro with
  | none => exact h
  | some n => obtain ⟨B, hB, h⟩ := h; exact ⟨B, k.σ _ _ hB, h⟩

def DRel (E : Env) : List AD → List Deferred → Prop
  | [], [] => True
  | .mark n :: ds, d :: es => (∃ B, E.σ n = some B ∧ d.target = .collected B.b) ∧ DRel E ds es
  | _, _ => False
theorem DRel.evo {E E' : Env} {w w' : World} (k : Evo E w E' w') : ∀ {l : List AD} {m : List Deferred}, DRel E l m → DRel E' l m
  | [], [], _ => trivial
  | .mark _ :: _, _ :: _, ⟨⟨B, hB, h⟩, ht⟩ => ⟨⟨B, k.σ _ _ hB, h⟩, DRel.evo k ht⟩

/-- A state of an activation. -/
structure SI (w0 : World) (O : Nat → Prop) (E : Env) (s : St) (a : Act) (w : World) : Prop where
  T : TRel E w s.T a.tmps
  nt : a.tmps.size = s.nt
  D : DRel E s.D a.defers
  hg : HG w0 O E s.H s.nx w

def Ex.to : Ex → Exit
  | .normal => .normal
  | .exit i => .exit i
  | .goto l => .goto l
  | .ret => .ret

def CPost (w0 : World) (O : Nat → Prop) (E : Env) (w : World) (nx : Nat) (e : Ex) (s' : St) : Exit → Act → World → Prop :=
  fun e' a' w' => e' = e.to ∧ ∃ E', Gro E w nx E' w' s'.nx ∧ SI w0 O E' s' a' w'
def RPost (w0 : World) (O : Nat → Prop) (E : Env) (w : World) (nx : Nat) (v : V) (H' : Heap) (nx' : Nat) : Ending → World → Prop
  | .returned x, w' => ∃ E', Gro E w nx E' w' nx' ∧ HG w0 O E' H' nx' w' ∧ Rd E' w' v x
  | _, _ => False

/-- A loop from the beginning of a pass on. -/
def LoopFrom (F : Fence) (P : Program) (c : Code) (Q : Exit → Act → World → Prop) (a : Act) (w : World) : Prop :=
  ∀ (b : Frame) (k : List Item) (cs : List Frame), b.roundOf = F.round → F.fn b.fn → F.room (cs.length + 1 + 0) →
    ∃ e a' w', Q e a' w' ∧ ArrivesIn (Machine.fenced P F) P (lone (b.atR a (.code c :: .inLoop c :: k)) cs w) b k cs e a' w'

section
variable {F : Fence} {P : Program} {Q : Exit → Act → World → Prop} {a : Act} {w : World}
theorem loop_of_from {c : Code} (h : LoopFrom F P c Q a w) : (Code.loop c).wpIn F 0 P Q a w := by
  intro b k cs hro hb hr
  obtain ⟨e, a', w', hq, harr⟩ := h b k cs hro hb hr
  exact ⟨e, a', w', hq, .of_steps (.one (fenced_calm hb hr rfl) stepR_loop) harr⟩
theorem loopFrom_step {c : Code} (h : c.wpIn F 0 P (Exit.then (LoopFrom F P c Q) Q) a w) : LoopFrom F P c Q a w := by
  intro b k cs hro hb hr
  obtain ⟨e, a₁, w₁, hq, harr⟩ := h b (.inLoop c :: k) cs hro hb hr
  cases e with
  | normal =>
    obtain ⟨e₂, a₂, w₂, hq₂, harr₂⟩ := hq b k cs hro hb hr
    exact ⟨e₂, a₂, w₂, hq₂, .of_steps (StepsIn.trans harr (.one (fenced_calm hb hr rfl) stepR_inLoop)) harr₂⟩
  | exit id => exact ⟨_, a₁, w₁, hq, .pass (x := .inLoop c) rfl (fun _ _ => .inl (by simp)) harr⟩
  | goto l => exact ⟨_, a₁, w₁, hq, .pass (x := .inLoop c) rfl (fun _ _ => .inl (by simp)) harr⟩
  | ret => exact ⟨_, a₁, w₁, hq, .pass (x := .inLoop c) rfl (fun _ _ => .inl (by simp)) harr⟩
  | panic ch => exact ⟨_, a₁, w₁, hq, .pass (x := .inLoop c) rfl (fun _ _ => .inl (by simp)) harr⟩
  | outgrown => exact ⟨_, a₁, w₁, hq, .pass (x := .inLoop c) rfl (fun _ _ => .inl (by simp)) harr⟩
theorem loopFrom_mono {c : Code} {Q' : Exit → Act → World → Prop} (h : LoopFrom F P c Q a w) (hq : ∀ e a w, Q e a w → Q' e a w) : LoopFrom F P c Q' a w :=
  fun b k cs hro hb hr => let ⟨e, a', w', q, r⟩ := h b k cs hro hb hr; ⟨e, a', w', hq _ _ _ q, r⟩

theorem stepR_scope {b : Frame} {k : List Item} {cs : List Frame} {c : Code} : step P (lone (b.atR a (.code (.scope c) :: k)) cs w) = .next (lone (b.atR a (.code c :: .inScope c :: k)) cs w) :=
  step_lone_go (by simp [stepG, stepG.exec, Frame.atR])
theorem stepR_inScope {b : Frame} {k : List Item} {cs : List Frame} {c : Code} : step P (lone (b.atR a (.inScope c :: k)) cs w) = .next (lone (b.atR a k) cs w) :=
  step_lone_go (by simp [stepG, stepG.exec, Frame.atR])
theorem wpIn_scope_straight {n : Nat} {c : Code} (h : c.wpIn F n P (Exit.noGoto Q) a w) : (Code.scope c).wpIn F n P Q a w := by
  intro b k cs hro hb hr
  have h0 : (lone (b.atR a (.code (.scope c) :: k)) cs w).fenced P F := fenced_calm hb hr rfl
  obtain ⟨e, a₁, w₁, hq, harr⟩ := h b (.inScope c :: k) cs hro hb hr
  cases e with
  | normal => exact ⟨.normal, a₁, w₁, hq, .head h0 stepR_scope (StepsIn.trans harr (.one (fenced_calm hb hr rfl) stepR_inScope))⟩
  | exit id =>
    have hx : exitTo id (.inScope c :: k) = exitTo id k := by simp [exitTo]
    exact ⟨.exit id, a₁, w₁, hq, fun k' hk => .head h0 stepR_scope (harr.1 k' (by rw [hx]; exact hk)),
      fun hr' hk => let ⟨k₁, h1, h2⟩ := harr.2 hr' (by rw [hx]; exact hk); ⟨k₁, h1, .head h0 stepR_scope h2⟩⟩
  | goto l => exact hq.elim
  | ret => exact ⟨_, a₁, w₁, hq, .of_steps (.one h0 stepR_scope) harr⟩
  | panic ch => exact ⟨_, a₁, w₁, hq, .of_steps (.one h0 stepR_scope) harr⟩
  | outgrown => exact ⟨_, a₁, w₁, hq, .of_steps (.one h0 stepR_scope) harr⟩
end

/-- What it is that a task comes out as the evaluator says. -/
def SoundT (P : Program) (t : Task) (r : Out) : Prop :=
  match t, r with
  | .call f args H nx, .ret v H' nx' => ∀ (w0 : World) (O : Nat → Prop) (E : Env) (w : World) (xs : List Value), HG w0 O E H nx w → Rds E w args xs →
      CallsIn (FF none) 0 P f ⟨xs⟩ w (RPost w0 O E w nx v H' nx')
  | .loop ro b s, .code e s' => ∀ (w0 : World) (O : Nat → Prop) (E : Env) (w : World) (a : Act) (ro' : Option Nat), RO E ro ro' → SI w0 O E s a w →
      LoopFrom (FF ro') P b (CPost w0 O E w s.nx e s') a w
  | .round n args H nx, .ret v H' nx' => ∀ (w0 : World) (O : Nat → Prop) (E : Env) (w : World) (xs : List Value) (B : Blk), HG w0 O E H nx w → E.σ n = some B → Rds E w args xs →
      ∃ f tmps as b, (Instr.yield B.b ⟨xs⟩).run P w = .ok (.round B.b f tmps as b) w ∧ RoundIn (FF none) 0 P B.b f tmps as b w (RPost w0 O E w nx v H' nx')
  | _, _ => True
def SoundR (P : Program) (rec : Task → Out) : Prop := ∀ t, SoundT P t (rec t)

section
variable {P : Program} {rec : Task → Out} {E : Env} {w0 w : World} {O : Nat → Prop} {s s' : St} {a : Act}

theorem ev_rd {T : Tr V} {tmps : Array Value} {d : List Deferred} (h : TRel E w T tmps) (x : Operand) : Rd E w (ev T x) ((⟨tmps, d⟩ : Act).eval x) := by
  cases x with
  | tmp t =>
    simp only [ev]
    cases ht : T.get t with
    | none => exact .any _
    | some v =>
      obtain ⟨y, hy, hr⟩ := h t v ht
      have : (⟨tmps, d⟩ : Act).eval (.tmp t) = y := by simp [Act.eval, Array.getD_eq_getD_getElem?, hy]
      rw [this]; exact hr
  | const v => exact Rd.ofValue v
  | global g => exact .any _
  | func f => exact .func f [] [] [] [] .nil .nil

theorem guard_ok {ops : Array Oper} {T : Tr V} {o : Oper} {b : Bool} {tmps : Array Value} (hT : TRel E w T tmps) (h : guardV ops.toList T o = some b) : Region.wanted o (yielded ops tmps) = b := by
  unfold guardV at h
  unfold Region.wanted
  split at h
  · rename_i hg
    simp only [Option.some.injEq] at h
    simp only [hg, h]
  · rename_i j want hg
    simp only [hg]
    split at h
    · rename_i p hp
      split at h
      · rename_i d hd
        have hp' : ops[j]? = some p := by simpa using hp
        split at h
        · rename_i c hc
          obtain ⟨y, hy, hr⟩ := hT d _ hc
          cases hr
          simp only [Option.some.injEq] at h
          rw [← h, eqB_eq]
          simp [yielded, hp', hd, hy]
        · rename_i l hc
          obtain ⟨y, hy, hr⟩ := hT d _ hc
          cases hr
          simp only [Option.some.injEq] at h
          rw [← h]
          simp [yielded, hp', hd, hy]
        · cases h
      · cases h
    · cases h

theorem trel_set {T : Tr V} {tmps : Array Value} {d : Nat} {v : V} {x : Value} (h : TRel E w T tmps) (hd : d < tmps.size) (hv : Rd E w v x) : TRel E w (T.set d v) (tmps.setIfInBounds d x) := by
  intro i u hu
  rw [Tr.get_set] at hu
  by_cases hi : i = d
  · subst hi
    simp at hu; subst hu
    exact ⟨x, by simp [hd], hv⟩
  · rw [if_neg hi] at hu
    obtain ⟨y, hy, hr⟩ := h i u hu
    exact ⟨y, by rw [Array.getElem?_setIfInBounds]; simp [Ne.symm hi, hy], hr⟩

theorem SI.put {d : Option Nat} {v : V} {x : Value} (h : SI w0 O E s a w) (hv : Rd E w v x) (hp : s.put d v = some s') : SI w0 O E s' (a.put d x) w := by
  cases d with
  | none => simp [St.put] at hp; subst hp; exact h
  | some d =>
    simp only [St.put] at hp
    cases hb : Nat.blt d s.nt with
    | false => simp [hb] at hp
    | true =>
      simp [hb] at hp
      subst hp
      have hd : d < a.tmps.size := by rw [h.nt]; simpa [Nat.blt_eq] using hb
      exact ⟨trel_set h.T hd hv, by simpa [Act.put] using h.nt, h.D, h.hg⟩
theorem put_nx {d : Option Nat} {v : V} (hp : s.put d v = some s') : s'.nx = s.nx := by
  cases d with
  | none => simp [St.put] at hp; subst hp; rfl
  | some d =>
    simp only [St.put] at hp
    cases hb : Nat.blt d s.nt with
    | false => simp [hb] at hp
    | true => simp [hb] at hp; subst hp; rfl

/-- One operation. -/
theorem op_ok (hg : goodB P = true) (hr : SoundR P rec) {o : Oper} {H H' : Heap} {nx nx' : Nat} {v : V} {ro' : Option Nat} {next : Act → World → Prop} {Q : Exit → Act → World → Prop} {ρ : Operand → V}
    (hh : HG w0 O E H nx w) (hρ : ∀ x ∈ o.op.operands, Rd E w (ρ x) (a.eval x)) (h : stepEff rec H nx (evalOp P ρ H o) = .done v H' nx')
    (hn : ∀ x w' E', Gro E w nx E' w' nx' → HG w0 O E' H' nx' w' → Rd E' w' v x → next (a.put o.dst x) w') :
    o.wpIn (FF ro') 0 P a w next Q := by
  refine ⟨fun _ _ => trivial, ?_⟩
  have hnd : ∀ c, o.op ≠ .defer c := fun c hc => by simp [evalOp, hc, stepEff, applyEff] at h
  have hro : (FF ro').round = ro' := rfl
  rw [Oper.semAt_eq _ _ _ hnd]
  have hs := opSound (P := P) (o := o) (ρ' := a.eval) hg hh.inv hρ
  generalize he : evalOp P ρ H o = e at h hs
  generalize hrr : (execOp a.eval o).run P w = r at hs
  have simple : applyEff H nx e = .done v H' nx' → o.uponIn (FF ro') 0 P a next Q r := by
    intro h
    obtain ⟨y, x, w', E', rfl, hv, hgro, hhg, hrd⟩ := applyEff_ok hh hs h
    rcases hv with rfl | ⟨rfl, rfl⟩
    · exact hn x w' E' hgro hhg hrd
    · exact hn undef w' E' hgro hhg hrd
  cases e <;> simp only [stepEff] at h <;> try exact simple h
  case enter f args =>
    obtain ⟨xs, rfl, hxs⟩ := hs
    have hc := hr (.call f args H nx)
    cases ho : rec (.call f args H nx) with
    | ret u K m =>
      rw [ho] at h hc
      simp only [Step1.done.injEq] at h
      obtain ⟨rfl, rfl, rfl⟩ := h
      rw [Oper.uponIn_enter]
      refine ⟨fun h => by simp [FF] at h, ?_⟩
      have := hc w0 O E w xs hh hxs
      refine CallsIn.mono (F := FF ro') (n := 0) this (fun e w' hR => ?_)
      cases e with
      | returned x => obtain ⟨E', h1, h2, h3⟩ := hR; exact hn x w' E' h1 h2 h3
      | panicked c => exact hR.elim
      | outgrown => exact hR.elim
    | code e s => rw [ho] at h; simp at h
    | fail m => rw [ho] at h; simp at h
  case round n args =>
    obtain ⟨xs, B, rfl, hB, hxs⟩ := hs
    have hc := hr (.round n args H nx)
    cases ho : rec (.round n args H nx) with
    | ret u K m =>
      rw [ho] at h hc
      simp only [Step1.done.injEq] at h
      obtain ⟨rfl, rfl, rfl⟩ := h
      obtain ⟨f, tmps, as, b, hy, hro⟩ := hc w0 O E w xs B hh hB hxs
      rw [hy, Oper.uponIn_round]
      refine ⟨fun h => by simp [FF] at h, ?_⟩
      refine RoundIn.mono (F := FF ro') (n := 0) hro (fun e w' hR => ?_)
      cases e with
      | returned x => obtain ⟨E', h1, h2, h3⟩ := hR; exact hn x w' E' h1 h2 h3
      | panicked c => exact hR.elim
      | outgrown => exact hR.elim
    | code e s => rw [ho] at h; simp at h
    | fail m => rw [ho] at h; simp at h

theorem ops_ok (hg : goodB P = true) (hr : SoundR P rec) {ops : Array Oper} {ro' : Option Nat} {Q : Exit → Act → World → Prop} : ∀ (rest : List Oper) (l : List Nat), l.map (ops[·]?) = rest.map some →
    ∀ (s : St) (e : Ex) (s' : St), evalOps P rec ops.toList rest s = .code e s' → ∀ (E : Env) (a : Act) (w : World), SI w0 O E s a w →
    (∀ a' w' E', Gro E w s.nx E' w' s'.nx → SI w0 O E' s' a' w' → Q e.to a' w') → wpOpsIn (FF ro') 0 P ops Q l a w
  | [], l, hl, s, e, s', h, E, a, w, hs, hQ => by
    have : l = [] := by simpa using hl
    subst this
    simp only [evalOps, Out.code.injEq] at h
    obtain ⟨rfl, rfl⟩ := h
    exact hQ a w E (.refl _ _ _) hs
  | o :: rest, l, hl, s, e, s', h, E, a, w, hs, hQ => by
    cases l with
    | nil => simp at hl
    | cons i l =>
      simp only [List.map_cons, List.cons.injEq] at hl
      obtain ⟨hi, hl⟩ := hl
      simp only [wpOpsIn, hi]
      have more : ∀ (s1 s2 : St) (v : V) (x : Value) (w' : World) (E' : Env), Gro E w s.nx E' w' s1.nx → SI w0 O E' s1 a w' → Rd E' w' v x → s1.put o.dst v = some s2 → evalOps P rec ops.toList rest s2 = .code e s' →
          wpOpsIn (FF ro') 0 P ops Q l (a.put o.dst x) w' := by
        intro s1 s2 v x w' E' hgro hsi hrd hput hrest
        exact ops_ok hg hr rest l hl s2 e s' hrest E' _ w' (hsi.put hrd hput) (fun a' w'' E'' h1 h2 => hQ a' w'' E'' (hgro.trans (by rwa [put_nx hput] at h1)) h2)
      unfold evalOps at h
      split at h
      · cases h
      · rename_i hgu
        rw [if_neg (by rw [guard_ok hs.T hgu]; simp)]
        refine ⟨fun _ _ => trivial, ?_⟩
        split at h
        · rename_i s1 hp
          exact more s s1 (.tuple []) undef w E (.refl _ _ _) hs (.tuple [] [] .nil) hp h
        · cases h
      · rename_i hgu
        rw [if_pos (guard_ok hs.T hgu)]
        split at h
        · rename_i v H nx hst
          split at h
          · rename_i s1 hp
            refine op_ok hg hr hs.hg (fun x _ => ev_rd hs.T x) hst (fun x w' E' h1 h2 h3 => ?_)
            exact more { s with H := H, nx := nx } s1 v x w' E' h1 ⟨hs.T.evo h1.evo, hs.nt, hs.D.evo h1.evo, h2⟩ h3 hp h
          · cases h
        · cases h
end
end Go.Abs
