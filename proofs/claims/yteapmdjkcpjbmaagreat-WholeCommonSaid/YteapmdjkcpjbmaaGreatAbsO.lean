/- The abstract evaluator: heaps along an evaluation: what a new block, a changed object, an append make of the assignment. -/
import Derived.Test.YteapmdjkcpjbmaaGreatAbsN
namespace Go.Abs

/-- A heap of an evaluation that began in w0, with O as the blocks that it may write. -/
structure HG (w0 : World) (O : Nat → Prop) (E : Env) (H : Heap) (nx : Nat) (w : World) : Prop where
  inv : HInv E H.get w
  fresh : ∀ n, nx ≤ n → E.σ n = none
  G : GInv w0 O E H.get w

/-- A later assignment and a later world; the names that were below a bound are as they were. -/
structure Gro (E : Env) (w : World) (nx : Nat) (E' : Env) (w' : World) (nx' : Nat) : Prop where
  evo : Evo E w E' w'
  le : nx ≤ nx'
  low : ∀ n, n < nx → E'.σ n = E.σ n
  I : ∀ b, E'.I b → E.I b
theorem Gro.refl (E : Env) (w : World) (nx : Nat) : Gro E w nx E w nx := ⟨.refl _ _, Nat.le_refl _, fun _ _ => rfl, fun _ h => h⟩
theorem Gro.trans {E E' E'' : Env} {w w' w'' : World} {nx nx' nx'' : Nat} (h : Gro E w nx E' w' nx') (k : Gro E' w' nx' E'' w'' nx'') : Gro E w nx E'' w'' nx'' :=
  ⟨h.evo.trans k.evo, Nat.le_trans h.le k.le, fun n hn => (k.low n (Nat.lt_of_lt_of_le hn h.le)).trans (h.low n hn), fun b hb => h.I b (k.I b hb)⟩

/-- The assignment with one name more. -/
def Env.add (E : Env) (n : Nat) (B : Blk) : Env := ⟨fun m => if m = n then some B else E.σ m, E.I⟩
theorem Env.add_same (E : Env) (n : Nat) (B : Blk) : (E.add n B).σ n = some B := by simp [Env.add]
theorem Env.add_ne (E : Env) {n m : Nat} (B : Blk) (h : m ≠ n) : (E.add n B).σ m = E.σ m := by simp [Env.add, h]

section
variable {P : Program} {E : Env} {w0 w w' : World} {O : Nat → Prop} {H : Heap} {nx : Nat}

theorem HG.dom (h : HG w0 O E H nx w) {n : Nat} {o : AObj} (ho : H.get n = some o) : n < nx := by
  obtain ⟨B, hB, _⟩ := h.inv.obj n o ho
  rcases Nat.lt_or_ge n nx with h1 | h1
  · exact h1
  · rw [h.fresh n h1] at hB; cases hB
theorem evo_add {B : Blk} (hf : E.σ nx = none) (w : World) : Evo E w (E.add nx B) w :=
  ⟨fun n C hC => by
    by_cases h : n = nx
    · subst h; rw [hf] at hC; cases hC
    · rw [Env.add_ne E B h]; exact hC, fun _ h => h, fun _ _ => rfl⟩

/-- A new block under the next name. -/
theorem hg_new {B : Blk} {o : AObj} (h : HG w0 O E H nx w) (hn : NewB w w' B) (ho : ObjRep E w' B o) :
    HG w0 O (E.add nx B) (H.set nx o) (nx + 1) w' ∧ Gro E w nx (E.add nx B) w' (nx + 1) := by
  have hf := h.fresh nx (Nat.le_refl _)
  have k1 := evo_new h.inv.Ilt hn
  have k2 := evo_add (B := B) hf w'
  have k := k1.trans k2
  have hlt : ∀ n p C, H.get n = some p → E.σ n = some C → C.b < w.heap.size := fun n p C hp hC => by
    obtain ⟨C', hC', hr⟩ := h.inv.obj n p hp
    rw [hC] at hC'; cases hC'
    exact hr.lt
  have hold : ∀ n p C, (H.set nx o).get n = some p → (E.add nx B).σ n = some C → (n = nx ∧ p = o ∧ C = B) ∨ (n ≠ nx ∧ H.get n = some p ∧ E.σ n = some C) := by
    intro n p C hp hC
    rw [Tr.get_set] at hp
    by_cases hnn : n = nx
    · subst hnn
      simp at hp
      rw [Env.add_same] at hC
      exact .inl ⟨rfl, hp.symm, (Option.some.inj hC).symm⟩
    · rw [if_neg hnn] at hp
      rw [Env.add_ne E B hnn] at hC
      exact .inr ⟨hnn, hp, hC⟩
  refine ⟨⟨⟨?_, ?_, ?_, ?_⟩, ?_, ?_⟩, k, by omega, fun n hn => Env.add_ne E B (by omega), fun _ h => h⟩
  · intro n p hp
    rw [Tr.get_set] at hp
    by_cases hnn : n = nx
    · subst hnn
      simp at hp; subst hp
      exact ⟨B, Env.add_same E _ B, ho.evo k2 rfl⟩
    · rw [if_neg hnn] at hp
      obtain ⟨C, hC, hr⟩ := h.inv.obj n p hp
      exact ⟨C, k.σ n C hC, hr.evo k (hn.old C.b hr.lt)⟩
  · intro n m p q C D hp hq hC hD e
    rcases hold n p C hp hC with ⟨rfl, _, rfl⟩ | ⟨hne, hp', hC'⟩
    · rcases hold m q D hq hD with ⟨rfl, _, rfl⟩ | ⟨hme, hq', hD'⟩
      · rfl
      · have := hlt m q D hq' hD'; rw [← e, hn.b] at this; omega
    · rcases hold m q D hq hD with ⟨rfl, _, rfl⟩ | ⟨hme, hq', hD'⟩
      · have := hlt n p C hp' hC'; rw [e, hn.b] at this; omega
      · exact h.inv.inj n m p q C D hp' hq' hC' hD' e
  · intro n p C hp hC hI
    rcases hold n p C hp hC with ⟨rfl, _, rfl⟩ | ⟨hne, hp', hC'⟩
    · have := h.inv.Ilt _ hI; rw [hn.b] at this; omega
    · exact h.inv.notI n p C hp' hC' hI
  · intro b hb; have := h.inv.Ilt b hb; rw [hn.size]; omega
  · intro n hle
    rw [Env.add_ne E B (by omega)]
    exact h.fresh n (by omega)
  · refine ⟨hn.os.trans h.G.os, hn.tape.trans h.G.tape, hn.output.trans h.G.output, by rw [hn.size]; have := h.G.size; omega, fun b hb hO => (hn.old b (by have := h.G.size; omega)).trans (h.G.block b hb hO), ?_⟩
    intro n p C hp hC
    rcases hold n p C hp hC with ⟨rfl, _, rfl⟩ | ⟨hne, hp', hC'⟩
    · right; rw [hn.b]; exact h.G.size
    · exact h.G.own n p C hp' hC'

/-- An object put anew under its name. -/
theorem hg_upd {B : Blk} {n : Nat} {o o0 : AObj} (h : HG w0 O E H nx w) (h0 : H.get n = some o0) (hB : E.σ n = some B) (hc : Chg w w' B.b) (ho : ObjRep E w' B o) :
    HG w0 O E (H.set n o) nx w' ∧ Gro E w nx E w' nx := by
  have k := evo_chg (h.inv.notI n _ B h0 hB) hc
  have hget : ∀ m p, (H.set n o).get m = some p → ∃ q, H.get m = some q := by
    intro m p hp
    rw [Tr.get_set] at hp
    by_cases hm : m = n
    · subst hm; exact ⟨_, h0⟩
    · rw [if_neg hm] at hp; exact ⟨_, hp⟩
  refine ⟨⟨⟨?_, ?_, ?_, ?_⟩, h.fresh, ?_⟩, k, Nat.le_refl _, fun _ _ => rfl, fun _ h => h⟩
  · intro m p hp
    rw [Tr.get_set] at hp
    by_cases hm : m = n
    · subst hm; simp at hp; subst hp; exact ⟨B, hB, ho⟩
    · rw [if_neg hm] at hp
      obtain ⟨C, hC, hr⟩ := h.inv.obj m p hp
      exact ⟨C, hC, hr.evo k (hc.other _ (fun e => hm (h.inv.inj m n _ _ C B hp h0 hC hB e)))⟩
  · intro a b p q C D hp hq hC hD e
    obtain ⟨p', hp'⟩ := hget a p hp
    obtain ⟨q', hq'⟩ := hget b q hq
    exact h.inv.inj a b p' q' C D hp' hq' hC hD e
  · intro a p C hp hC
    obtain ⟨p', hp'⟩ := hget a p hp
    exact h.inv.notI a p' C hp' hC
  · intro b hb; rw [hc.size]; exact h.inv.Ilt b hb
  · refine ⟨hc.os.trans h.G.os, hc.tape.trans h.G.tape, hc.output.trans h.G.output, by rw [hc.size]; exact h.G.size, ?_, ?_⟩
    · intro b hb hO
      refine (hc.other b (fun e => ?_)).trans (h.G.block b hb hO)
      rcases h.G.own n _ B h0 hB with h1 | h1
      · exact hO (e ▸ h1)
      · omega
    · intro a p C hp hC
      obtain ⟨p', hp'⟩ := hget a p hp
      exact h.G.own a p' C hp' hC

/-- A name struck. -/
theorem hg_del (h : HG w0 O E H nx w) (k : Nat) : HG w0 O E (H.del k) nx w := by
  have hg : ∀ n o, (H.del k).get n = some o → H.get n = some o := fun n o ho => by
    rw [Tr.get_del] at ho
    by_cases hn : n = k
    · simp [hn] at ho
    · rwa [if_neg hn] at ho
  exact ⟨h.inv.sub hg, h.fresh, ⟨h.G.os, h.G.tape, h.G.output, h.G.size, h.G.block, fun n o B ho hB => h.G.own n o B (hg n o ho) hB⟩⟩

/-- An append in place: the next name lies in the block of one that is struck. -/
theorem hg_move {B Bk : Blk} {k : Nat} {o o0 : AObj} (h : HG w0 O E H nx w) (h0 : H.get k = some o0) (hBk : E.σ k = some Bk) (hb : B.b = Bk.b) (hc : Chg w w' B.b) (ho : ObjRep E w' B o) :
    HG w0 O (E.add nx B) ((H.del k).set nx o) (nx + 1) w' ∧ Gro E w nx (E.add nx B) w' (nx + 1) := by
  have hf := h.fresh nx (Nat.le_refl _)
  have hnI : ¬ E.I B.b := by rw [hb]; exact h.inv.notI k _ Bk h0 hBk
  have k1 := evo_chg hnI hc
  have k2 := evo_add (B := B) hf w'
  have kk := k1.trans k2
  have hold : ∀ n p C, ((H.del k).set nx o).get n = some p → (E.add nx B).σ n = some C → (n = nx ∧ p = o ∧ C = B) ∨ (n ≠ nx ∧ n ≠ k ∧ H.get n = some p ∧ E.σ n = some C) := by
    intro n p C hp hC
    rw [Tr.get_set] at hp
    by_cases hnn : n = nx
    · subst hnn
      simp at hp
      rw [Env.add_same] at hC
      exact .inl ⟨rfl, hp.symm, (Option.some.inj hC).symm⟩
    · rw [if_neg hnn, Tr.get_del] at hp
      rw [Env.add_ne E B hnn] at hC
      by_cases hnk : n = k
      · simp [hnk] at hp
      · rw [if_neg hnk] at hp
        exact .inr ⟨hnn, hnk, hp, hC⟩
  have hne : ∀ n p C, H.get n = some p → E.σ n = some C → n ≠ k → C.b ≠ B.b := fun n p C hp hC hn e => hn (h.inv.inj n k p o0 C Bk hp h0 hC hBk (e.trans hb))
  refine ⟨⟨⟨?_, ?_, ?_, ?_⟩, ?_, ?_⟩, kk, by omega, fun n hn => Env.add_ne E B (by omega), fun _ h => h⟩
  · intro n p hp
    rw [Tr.get_set] at hp
    by_cases hnn : n = nx
    · subst hnn
      simp at hp; subst hp
      exact ⟨B, Env.add_same E _ B, ho.evo k2 rfl⟩
    · rw [if_neg hnn, Tr.get_del] at hp
      by_cases hnk : n = k
      · simp [hnk] at hp
      · rw [if_neg hnk] at hp
        obtain ⟨C, hC, hr⟩ := h.inv.obj n p hp
        exact ⟨C, kk.σ n C hC, hr.evo kk (hc.other _ (hne n p C hp hC hnk))⟩
  · intro n m p q C D hp hq hC hD e
    rcases hold n p C hp hC with ⟨rfl, _, rfl⟩ | ⟨hne1, hnk, hp', hC'⟩
    · rcases hold m q D hq hD with ⟨rfl, _, rfl⟩ | ⟨hme, hmk, hq', hD'⟩
      · rfl
      · exact absurd e.symm (hne m q D hq' hD' hmk)
    · rcases hold m q D hq hD with ⟨rfl, _, rfl⟩ | ⟨hme, hmk, hq', hD'⟩
      · exact absurd e (hne n p C hp' hC' hnk)
      · exact h.inv.inj n m p q C D hp' hq' hC' hD' e
  · intro n p C hp hC hI
    rcases hold n p C hp hC with ⟨rfl, _, rfl⟩ | ⟨hne1, hnk, hp', hC'⟩
    · exact hnI hI
    · exact h.inv.notI n p C hp' hC' hI
  · intro b hb'; rw [hc.size]; exact h.inv.Ilt b hb'
  · intro n hle
    rw [Env.add_ne E B (by omega)]
    exact h.fresh n (by omega)
  · have hown := h.G.own k _ Bk h0 hBk
    refine ⟨hc.os.trans h.G.os, hc.tape.trans h.G.tape, hc.output.trans h.G.output, by rw [hc.size]; exact h.G.size, ?_, ?_⟩
    · intro b hb' hO
      refine (hc.other b (fun e => ?_)).trans (h.G.block b hb' hO)
      rw [hb] at e
      rcases hown with h1 | h1
      · exact hO (e ▸ h1)
      · omega
    · intro n p C hp hC
      rcases hold n p C hp hC with ⟨rfl, _, rfl⟩ | ⟨hne1, hnk, hp', hC'⟩
      · rw [hb]; exact hown
      · exact h.G.own n p C hp' hC'

/-- The value of what is new. -/
theorem mk_rd {mk : Mk} {B : Blk} {x : Value} {n : Nat} (h : E.σ n = some B) (hm : MkRel mk B x) : Rd E w (mk.v n) x := by
  cases mk with
  | ptr => simp only [MkRel] at hm; subst hm; simpa [Mk.v] using Rd.ptr (w := w) n 0 B h
  | map => simp only [MkRel] at hm; subst hm; exact .map n B h
  | slice len s =>
    obtain ⟨cap, rfl, h1, h2, h3⟩ := hm
    simpa [Mk.v] using Rd.slice (w := w) n 0 len s cap B h h1 h2 (by omega)
end

/-- What a value, a new block, a changed object, an append make of a heap. -/
inductive Step1 where
  | done (v : V) (H : Heap) (nx : Nat)
  | fail (why : String)
def applyEff (H : Heap) (nx : Nat) : Eff → Step1
  | .val v => .done v H nx
  | .new o mk => .done (mk.v nx) (H.set nx o) (nx + 1)
  | .upd n o v => match H.get n with
    | some _ => .done v (H.set n o) nx
    | none => .fail "upd"
  | .app none o len s => .done ((Mk.slice len s).v nx) (H.set nx o) (nx + 1)
  | .app (some k) o len s => match H.get k with
    | some _ => .done ((Mk.slice len s).v nx) ((H.del k).set nx o) (nx + 1)
    | none => .fail "app"
  | _ => .fail "op"

theorem applyEff_ok {P : Program} {E : Env} {w0 w : World} {O : Nat → Prop} {H H' : Heap} {nx nx' : Nat} {e : Eff} {v : V} {r : Result Next} (h : HG w0 O E H nx w) (he : EffOk P E w r e) (ha : applyEff H nx e = .done v H' nx') :
    ∃ y x w' E', r = .ok y w' ∧ IsVal y x ∧ Gro E w nx E' w' nx' ∧ HG w0 O E' H' nx' w' ∧ Rd E' w' v x := by
  cases e with
  | val u =>
    obtain ⟨y, x, hr, hv, hrd⟩ := he
    simp [applyEff] at ha
    obtain ⟨rfl, rfl, rfl⟩ := ha
    exact ⟨y, x, w, E, hr, hv, .refl _ _ _, h, hrd⟩
  | new o mk =>
    obtain ⟨x, w', B, hr, hn, ho, hm⟩ := he
    simp [applyEff] at ha
    obtain ⟨rfl, rfl, rfl⟩ := ha
    obtain ⟨hg, k⟩ := hg_new h hn ho
    exact ⟨_, x, w', _, hr, .mk x, k, hg, mk_rd (Env.add_same _ _ _) hm⟩
  | upd n o u =>
    obtain ⟨y, x, w', B, hr, hv, hB, hc, ho, hrd⟩ := he
    simp only [applyEff] at ha
    split at ha
    · rename_i o0 h0
      simp at ha
      obtain ⟨rfl, rfl, rfl⟩ := ha
      obtain ⟨hg, k⟩ := hg_upd h h0 hB hc ho
      exact ⟨y, x, w', E, hr, hv, k, hg, hrd.evo k.evo⟩
    · cases ha
  | app kill o len s =>
    obtain ⟨x, w', B, hr, hcase, ho, hm⟩ := he
    cases kill with
    | none =>
      simp [applyEff] at ha
      obtain ⟨rfl, rfl, rfl⟩ := ha
      rcases hcase with ⟨k, Bk, hk, _⟩ | hn
      · cases hk
      · obtain ⟨hg, k⟩ := hg_new h hn ho
        exact ⟨_, x, w', _, hr, .mk x, k, hg, mk_rd (Env.add_same _ _ _) hm⟩
    | some k0 =>
      simp only [applyEff] at ha
      split at ha
      · rename_i o0 h0
        simp at ha
        obtain ⟨rfl, rfl, rfl⟩ := ha
        rcases hcase with ⟨k, Bk, hk, hBk, hb, hc⟩ | hn
        · cases hk
          obtain ⟨hg, kk⟩ := hg_move h h0 hBk hb hc ho
          exact ⟨_, x, w', _, hr, .mk x, kk, hg, mk_rd (Env.add_same _ _ _) hm⟩
        · obtain ⟨hg, kk⟩ := hg_new (hg_del h k0) hn ho
          exact ⟨_, x, w', _, hr, .mk x, kk, hg, mk_rd (Env.add_same _ _ _) hm⟩
      · cases ha
  | _ => simp [applyEff] at ha
end Go.Abs
