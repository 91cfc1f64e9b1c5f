/- The abstract evaluator: regions that draw their order: the invariant over what has been done. -/
import Derived.Test.YteapmdjkcpjbmaaGreatAbsT
namespace Go.Abs

theorem mono_cntE {R : Tr RI} : ∀ {j l : Nat}, j ≤ l → cntE R j ≤ cntE R l
  | j, 0, h => by have : j = 0 := by omega
                  subst this; exact Nat.le_refl _
  | j, l + 1, h => by
    rcases Nat.lt_or_ge j (l + 1) with h1 | h1
    · exact Nat.le_trans (mono_cntE (by omega : j ≤ l)) (by simp only [cntE]; omega)
    · have : j = l + 1 := by omega
      subst this; exact Nat.le_refl _
theorem cntE_succ {R : Tr RI} {j : Nat} {q : RI} (hq : R.get j = some q) (he : isEff q.k = true) : cntE R (j + 1) = cntE R j + 1 := by simp [cntE, hq, he]
theorem cntE_lt {R : Tr RI} {j l : Nat} {q : RI} (hq : R.get j = some q) (he : isEff q.k = true) (h : j < l) : cntE R j < cntE R l := by
  have := mono_cntE (R := R) (show j + 1 ≤ l from h)
  rw [cntE_succ hq he] at this; omega
theorem eff_at {R : Tr RI} : ∀ {n c : Nat}, c < cntE R n → ∃ j q, j < n ∧ R.get j = some q ∧ isEff q.k = true ∧ cntE R j = c
  | 0, c, h => by simp [cntE] at h
  | n + 1, c, h => by
    rcases Nat.lt_or_ge c (cntE R n) with h1 | h1
    · obtain ⟨j, q, h2, h3⟩ := eff_at h1
      exact ⟨j, q, by omega, h3⟩
    · simp only [cntE] at h
      cases hq : R.get n with
      | none => simp [hq] at h; omega
      | some q =>
        cases he : isEff q.k with
        | false => simp [hq, he] at h; omega
        | true => simp [hq, he] at h; exact ⟨n, q, by omega, hq, he, by omega⟩

/-- The heap when the operations of X are done. -/
def HF (R : Tr RI) (nx0 N : Nat) (X : Nat → Bool) (st : Stg) (n : Nat) : Option AObj :=
  match st.K.get n with
  | some o => some o
  | none => if nx0 ≤ n ∧ n < nx0 + N ∧ X (n - nx0) = true ∧ st.core.testBit (n - nx0) = false then (match R.get (n - nx0) with | some q => isAlloc q.k | none => none) else none

section
variable {R : Tr RI} {nx0 N : Nat} {X : Nat → Bool} {st : Stg}
theorem HF_get {n : Nat} {o : AObj} (h : HF R nx0 N X st n = some o) : st.K.get n = some o ∨ (st.K.get n = none ∧ ∃ l q, l < N ∧ n = nx0 + l ∧ X l = true ∧ st.core.testBit l = false ∧ R.get l = some q ∧ isAlloc q.k = some o) := by
  unfold HF at h
  split at h
  · rename_i o' ho; rw [ho]; exact .inl h
  · rename_i ho
    split at h
    · rename_i hc
      split at h
      · rename_i q hq
        exact .inr ⟨ho, n - nx0, q, by omega, by omega, hc.2.2.1, hc.2.2.2, hq, h⟩
      · cases h
    · cases h
theorem HF_K {n : Nat} {o : AObj} (h : st.K.get n = some o) : HF R nx0 N X st n = some o := by simp [HF, h]
theorem HF_alloc {l : Nat} {q : RI} {o : AObj} (hl : l < N) (hX : X l = true) (hc : st.core.testBit l = false) (hq : R.get l = some q) (ha : isAlloc q.k = some o) (hK : st.K.get (nx0 + l) = none) : HF R nx0 N X st (nx0 + l) = some o := by
  simp [HF, hK, hl, hX, hc, hq, ha]
theorem HF_congr {X' : Nat → Bool} (h : ∀ l q o, l < N → R.get l = some q → isAlloc q.k = some o → X l = X' l) : HF R nx0 N X st = HF R nx0 N X' st := by
  funext n
  unfold HF
  split
  · rfl
  · by_cases hn : nx0 ≤ n ∧ n < nx0 + N
    · cases hq : R.get (n - nx0) with
      | none => simp
      | some q =>
        cases ha : isAlloc q.k with
        | none => simp [ha]
        | some o =>
          rw [h (n - nx0) q o (by omega) hq ha]
    · rw [if_neg (fun h => hn ⟨h.1, h.2.1⟩), if_neg (fun h => hn ⟨h.1, h.2.1⟩)]
theorem HF_merge {m j n : Nat} {o : AObj} (hj : j ≤ N) (hm : ∀ l, l < j → m.testBit l = true → X l = true) (hkn : ∀ l, l < N → st.core.testBit l = false → st.K.get (nx0 + l) = none)
    (h : (mergeH R nx0 st.core m j st.K).get n = some o) : HF R nx0 N X st n = some o := by
  rcases mergeH_get h with h | ⟨l, q, h1, rfl, h3, h4, h5, h6⟩
  · exact HF_K h
  · exact HF_alloc (by omega) (hm l h1 h3) h4 h5 h6 (hkn l (by omega) h4)
end

/-- One object more, under a name that was free. -/
theorem inv_new {w0 w w' : World} {O : Nat → Prop} {E : Env} {H H' : Nat → Option AObj} {m : Nat} {B : Blk} {o : AObj} (hi : HInv E H w) (hG : GInv w0 O E H w) (hf : E.σ m = none) (hn : NewB w w' B) (ho : ObjRep E w' B o)
    (hne : ∀ n, n ≠ m → H' n = H n) (hm : H' m = some o) : HInv (E.add m B) H' w' ∧ GInv w0 O (E.add m B) H' w' ∧ Evo E w (E.add m B) w' := by
  have k1 := evo_new hi.Ilt hn
  have k2 : Evo E w' (E.add m B) w' := ⟨fun n C hC => by
    by_cases h : n = m
    · subst h; rw [hf] at hC; cases hC
    · rw [Env.add_ne E B h]; exact hC, fun _ h => h, fun _ _ => rfl⟩
  have k := k1.trans k2
  have hlt : ∀ n p C, H n = some p → E.σ n = some C → C.b < w.heap.size := fun n p C hp hC => by
    obtain ⟨C', hC', hr⟩ := hi.obj n p hp
    rw [hC] at hC'; cases hC'
    exact hr.lt
  have hold : ∀ n p C, H' n = some p → (E.add m B).σ n = some C → (n = m ∧ p = o ∧ C = B) ∨ (n ≠ m ∧ H n = some p ∧ E.σ n = some C) := by
    intro n p C hp hC
    by_cases hnn : n = m
    · subst hnn
      rw [hm] at hp
      rw [Env.add_same] at hC
      exact .inl ⟨rfl, (Option.some.inj hp).symm, (Option.some.inj hC).symm⟩
    · rw [hne n hnn] at hp
      rw [Env.add_ne E B hnn] at hC
      exact .inr ⟨hnn, hp, hC⟩
  refine ⟨⟨?_, ?_, ?_, ?_⟩, ?_, k⟩
  · intro n p hp
    by_cases hnn : n = m
    · subst hnn
      rw [hm] at hp; cases hp
      exact ⟨B, Env.add_same E _ B, ho.evo k2 rfl⟩
    · rw [hne n hnn] at hp
      obtain ⟨C, hC, hr⟩ := hi.obj n p hp
      exact ⟨C, k.σ n C hC, hr.evo k (hn.old C.b hr.lt)⟩
  · intro n l p q C D hp hq hC hD e
    rcases hold n p C hp hC with ⟨rfl, _, rfl⟩ | ⟨_, hp', hC'⟩
    · rcases hold l q D hq hD with ⟨rfl, _, rfl⟩ | ⟨_, hq', hD'⟩
      · rfl
      · have := hlt l q D hq' hD'; rw [← e, hn.b] at this; omega
    · rcases hold l q D hq hD with ⟨rfl, _, rfl⟩ | ⟨_, hq', hD'⟩
      · have := hlt n p C hp' hC'; rw [e, hn.b] at this; omega
      · exact hi.inj n l p q C D hp' hq' hC' hD' e
  · intro n p C hp hC hI
    rcases hold n p C hp hC with ⟨rfl, _, rfl⟩ | ⟨_, hp', hC'⟩
    · have := hi.Ilt _ hI; rw [hn.b] at this; omega
    · exact hi.notI n p C hp' hC' hI
  · intro b hb; have := hi.Ilt b hb; rw [hn.size]; omega
  · refine ⟨hn.os.trans hG.os, hn.tape.trans hG.tape, hn.output.trans hG.output, by rw [hn.size]; have := hG.size; omega, fun b hb hO => (hn.old b (by have := hG.size; omega)).trans (hG.block b hb hO), ?_⟩
    intro n p C hp hC
    rcases hold n p C hp hC with ⟨rfl, _, rfl⟩ | ⟨_, hp', hC'⟩
    · right; rw [hn.b]; exact hG.size
    · exact hG.own n p C hp' hC'

/-- What holds when the operations of X are done. -/
structure RInv (s : St) (R : Tr RI) (S : Tr Stg) (N : Nat) (w0 : World) (O : Nat → Prop) (E0 : Env) (wb : World) (X : Nat → Bool) (E : Env) (c : Nat) (st : Stg) (a : Act) (w : World) : Prop where
  cN : c ≤ cntE R N
  hst : S.get c = some st
  xN : ∀ j, X j = true → j < N
  cl : ∀ j q, X j = true → R.get j = some q → ∀ l, q.pm.testBit l = true → X l = true
  ef : ∀ j q, j < N → R.get j = some q → isEff q.k = true → (X j = true ↔ cntE R j < c)
  tA : ∀ l r d, X l = true → R.get l = some r → r.dst = some d → ∃ x, a.tmps[d]? = some x ∧ Rd E w r.v x
  tB : ∀ t v, s.T.get t = some v → (∀ l r, X l = true → R.get l = some r → r.dst ≠ some t) → ∃ x, a.tmps[t]? = some x ∧ Rd E w v x
  sz : a.tmps.size = s.nt
  D : DRel E s.D a.defers
  inv : HInv E (HF R s.nx N X st) w
  fresh : ∀ n, st.nx ≤ n → E.σ n = none
  G : GInv w0 O E (HF R s.nx N X st) w
  gro : Gro E0 wb s.nx E w st.nx
  nxN : s.nx + N ≤ st.nx
  fr : ∀ l, l < N → (∀ q o, R.get l = some q → isAlloc q.k = some o → X l = false) → E.σ (s.nx + l) = none
  core : ∀ l, st.core.testBit l = true → X l = true
  kn : ∀ l, l < N → st.core.testBit l = false → st.K.get (s.nx + l) = none

/-- X with one operation more. -/
def addX (X : Nat → Bool) (i : Nat) (j : Nat) : Bool := decide (j = i) || X j
theorem addX_same (X : Nat → Bool) (i : Nat) : addX X i i = true := by simp [addX]
theorem addX_ne (X : Nat → Bool) {i j : Nat} (h : j ≠ i) : addX X i j = X j := by simp [addX, h]
theorem addX_of (X : Nat → Bool) {i j : Nat} (h : X j = true) : addX X i j = true := by simp [addX, h]
theorem addX_cases {X : Nat → Bool} {i j : Nat} (h : addX X i j = true) : j = i ∨ X j = true := by simpa [addX] using h

section
variable {P : Program} {rec : Task → Out} {L : List Oper} {s : St} {R : Tr RI} {S : Tr Stg} {w0 wb w w' : World} {O : Nat → Prop} {E0 E E' : Env} {X : Nat → Bool} {c : Nat} {st st' : Stg} {a : Act}

/-- All facts of the pass. -/
def Facts (P : Program) (rec : Task → Out) (L : List Oper) (s : St) (R : Tr RI) (S : Tr Stg) : Prop :=
  ∀ j, j < L.length → ∃ o q, L[j]? = some o ∧ R.get j = some q ∧ Loc P rec L s R S j o q

theorem Facts.of {j : Nat} {q : RI} (F : Facts P rec L s R S) (hj : j < L.length) (hq : R.get j = some q) : ∃ o, L[j]? = some o ∧ Loc P rec L s R S j o q := by
  obtain ⟨o, q', h1, h2, h3⟩ := F j hj
  rw [hq] at h2; cases h2
  exact ⟨o, h1, h3⟩
theorem Facts.pm_lt (F : Facts P rec L s R S) : ∀ (j : Nat) (q : RI), j < L.length → R.get j = some q → ∀ b, q.pm.testBit b = true → b < j := by
  intro j
  induction j using Nat.strongRecOn with
  | _ j ih =>
    intro q hj hq b hb
    obtain ⟨o, _, hl⟩ := F.of hj hq
    exact pmOf_lt (fun l q' hl' hq' => ih l hl' q' (by omega) hq') _ _ hl.pm b hb
theorem Facts.dst_ne {i l : Nat} {q r : RI} {d : Nat} (F : Facts P rec L s R S) (hi : i < L.length) (hl : l < L.length) (hq : R.get i = some q) (hr : R.get l = some r) (hne : l ≠ i) (hd : q.dst = some d) : r.dst ≠ some d := by
  obtain ⟨oi, _, hli⟩ := F.of hi hq
  obtain ⟨ol, _, hll⟩ := F.of hl hr
  rcases Nat.lt_or_ge l i with h | h
  · exact (hli.ord l r h hr).2 d (by rw [← hli.dst]; exact hd) |>.1
  · intro e
    exact ((hll.ord i q (by omega) hq).2 d (by rw [← hll.dst]; exact e)).1 hd

theorem put_get {d : Nat} {x : Value} (h : d < a.tmps.size) : (a.put (some d) x).tmps[d]? = some x := by simp [Act.put, h]
theorem put_get_ne {dst : Option Nat} {t : Nat} {x : Value} (h : dst ≠ some t) : (a.put dst x).tmps[t]? = a.tmps[t]? := by
  cases dst with
  | none => rfl
  | some d => rw [Act.put]; simp only; rw [Array.getElem?_setIfInBounds_ne (fun e => h (by rw [e]))]
theorem put_size {dst : Option Nat} {x : Value} : (a.put dst x).tmps.size = a.tmps.size := by cases dst <;> simp [Act.put]
theorem put_defers {dst : Option Nat} {x : Value} : (a.put dst x).defers = a.defers := by cases dst <;> rfl

/-- The temporaries after one operation more. -/
theorem RInv.tmps {i : Nat} {o : Oper} {q : RI} {x : Value} (F : Facts P rec L s R S) (h : RInv s R S L.length w0 O E0 wb X E c st a w) (hi : i < L.length) (hq : R.get i = some q) (hl : Loc P rec L s R S i o q) (k : Evo E w E' w') (hx : Rd E' w' q.v x) :
    (∀ l r d, addX X i l = true → R.get l = some r → r.dst = some d → ∃ y, (a.put o.dst x).tmps[d]? = some y ∧ Rd E' w' r.v y) ∧
    (∀ t v, s.T.get t = some v → (∀ l r, addX X i l = true → R.get l = some r → r.dst ≠ some t) → ∃ y, (a.put o.dst x).tmps[t]? = some y ∧ Rd E' w' v y) := by
  refine ⟨fun l r d hX hr hd => ?_, fun t v ht hno => ?_⟩
  · by_cases hli : l = i
    · subst hli
      rw [hq] at hr; cases hr
      rw [← hl.dst, hd]
      exact ⟨x, put_get (by rw [h.sz]; exact hl.dlt d (by rw [← hl.dst]; exact hd)), hx⟩
    · rw [addX_ne X hli] at hX
      obtain ⟨y, h1, h2⟩ := h.tA l r d hX hr hd
      refine ⟨y, ?_, h2.evo k⟩
      rw [put_get_ne]
      · exact h1
      · rw [← hl.dst]
        exact F.dst_ne (h.xN l hX) hi hr hq (fun e => hli e.symm) hd
  · obtain ⟨y, h1, h2⟩ := h.tB t v ht (fun l r hX hr => hno l r (addX_of X hX) hr)
    refine ⟨y, ?_, h2.evo k⟩
    rw [put_get_ne]
    · exact h1
    · rw [← hl.dst]; exact hno i q (addX_same X i) hq

theorem RInv.cl' {i : Nat} {q : RI} (h : RInv s R S L.length w0 O E0 wb X E c st a w) (hq : R.get i = some q) (hpm : ∀ l, q.pm.testBit l = true → X l = true) :
    ∀ j q, addX X i j = true → R.get j = some q → ∀ l, q.pm.testBit l = true → addX X i l = true := by
  intro j r hX hr l hb
  rcases addX_cases hX with rfl | hX
  · rw [hq] at hr; cases hr
    exact addX_of X (hpm l hb)
  · exact addX_of X (h.cl j r hX hr l hb)

/-- One operation more that made nothing and turned nothing. -/
theorem RInv.plain {i : Nat} {o : Oper} {q : RI} {x : Value} (F : Facts P rec L s R S) (h : RInv s R S L.length w0 O E0 wb X E c st a w) (hi : i < L.length) (hq : R.get i = some q) (hl : Loc P rec L s R S i o q)
    (hpm : ∀ l, q.pm.testBit l = true → X l = true) (he : isEff q.k = false) (ha : isAlloc q.k = none) (hx : Rd E w q.v x) : RInv s R S L.length w0 O E0 wb (addX X i) E c st (a.put o.dst x) w := by
  have hHF : HF R s.nx L.length X st = HF R s.nx L.length (addX X i) st := HF_congr (fun l r o' hl' hr har => by
    rw [addX_ne]
    rintro rfl
    rw [hq] at hr; cases hr
    rw [ha] at har; cases har)
  obtain ⟨tA, tB⟩ := h.tmps F hi hq hl (.refl _ _) hx
  refine ⟨h.cN, h.hst, fun j hX => ?_, h.cl' hq hpm, fun j r hj hr hre => ?_, tA, tB, by rw [put_size]; exact h.sz, by rw [put_defers]; exact h.D, by rw [← hHF]; exact h.inv, h.fresh, by rw [← hHF]; exact h.G, h.gro, h.nxN, fun l hl' hno => ?_, fun l hb => addX_of X (h.core l hb), h.kn⟩
  · rcases addX_cases hX with rfl | hX
    · exact hi
    · exact h.xN j hX
  · have hji : j ≠ i := by
      rintro rfl
      rw [hq] at hr; cases hr
      rw [he] at hre; cases hre
    rw [addX_ne X hji]; exact h.ef j r hj hr hre
  · refine h.fr l hl' (fun q o hq' ha' => ?_)
    have := hno q o hq' ha'
    simp [addX] at this
    exact this.2

/-- One operation more that made a block. -/
theorem RInv.alloc {i : Nat} {o : Oper} {q : RI} {x : Value} {ob : AObj} {B : Blk} (F : Facts P rec L s R S) (h : RInv s R S L.length w0 O E0 wb X E c st a w) (hi : i < L.length) (hXi : X i = false) (hq : R.get i = some q) (hl : Loc P rec L s R S i o q)
    (hpm : ∀ l, q.pm.testBit l = true → X l = true) (hk : q.k = .alloc ob) (hn : NewB w w' B) (ho : ObjRep E w' B ob) (hx : Rd (E.add (s.nx + i) B) w' q.v x) :
    RInv s R S L.length w0 O E0 wb (addX X i) (E.add (s.nx + i) B) c st (a.put o.dst x) w' := by
  have hci : st.core.testBit i = false := by
    cases hb : st.core.testBit i with
    | false => rfl
    | true => rw [h.core i hb] at hXi; cases hXi
  have hKi := h.kn i hi hci
  have hσ := h.fr i hi (fun _ _ _ _ => hXi)
  have hne : ∀ n, n ≠ s.nx + i → HF R s.nx L.length (addX X i) st n = HF R s.nx L.length X st n := by
    intro n hn
    unfold HF
    split
    · rfl
    · by_cases hc : s.nx ≤ n
      · rw [addX_ne X (by omega)]
      · rw [if_neg (fun h => hc h.1), if_neg (fun h => hc h.1)]
  have hm : HF R s.nx L.length (addX X i) st (s.nx + i) = some ob := HF_alloc hi (addX_same X i) hci hq (by rw [hk]; rfl) hKi
  obtain ⟨h1, h2, h3⟩ := inv_new h.inv h.G hσ hn ho hne hm
  obtain ⟨tA, tB⟩ := h.tmps F hi hq hl h3 hx
  refine ⟨h.cN, h.hst, fun j hX => ?_, h.cl' hq hpm, fun j r hj hr hre => ?_, tA, tB, by rw [put_size]; exact h.sz, by rw [put_defers]; exact h.D.evo h3, h1, fun n hn' => ?_, h2, ?_, h.nxN, fun l hl' hno => ?_, fun l hb => addX_of X (h.core l hb), h.kn⟩
  · rcases addX_cases hX with rfl | hX
    · exact hi
    · exact h.xN j hX
  · have hji : j ≠ i := by
      rintro rfl
      rw [hq] at hr; cases hr
      rw [hk] at hre; cases hre
    rw [addX_ne X hji]; exact h.ef j r hj hr hre
  · rw [Env.add_ne E B (by have := h.nxN; omega)]; exact h.fresh n hn'
  · refine ⟨h.gro.evo.trans h3, h.gro.le, fun n hn' => ?_, h.gro.I⟩
    rw [Env.add_ne E B (by omega)]; exact h.gro.low n hn'
  · have hli : l ≠ i := by
      rintro rfl
      have := hno q ob hq (by rw [hk]; rfl)
      rw [addX_same] at this; cases this
    rw [Env.add_ne E B (by omega)]
    exact h.fr l hl' (fun q o hq' ha' => by have := hno q o hq' ha'; rwa [addX_ne X hli] at this)
end
end Go.Abs
