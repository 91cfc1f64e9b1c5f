/- The abstract evaluator: regions that draw their order: soundness. -/
import Derived.Test.YteapmdjkcpjbmaaGreatAbsU
namespace Go.Abs
section
variable {P : Program} {rec : Task → Out} {L : List Oper} {s : St} {R : Tr RI} {S : Tr Stg} {w0 wb w w' : World} {O : Nat → Prop} {E0 E E' : Env} {X : Nat → Bool} {c : Nat} {st st' : Stg} {a : Act}

/-- The blocks that a heap names. -/
def OwnB (E : Env) (H : Heap) (b : Nat) : Prop := ∃ n o B, H.get n = some o ∧ E.σ n = some B ∧ B.b = b

theorem sub_hg {H : Heap} {nx : Nat} {HH : Nat → Option AObj} (hi : HInv E HH w) (hs : ∀ n o, H.get n = some o → HH n = some o) (hf : ∀ n, nx ≤ n → E.σ n = none) : HG w (OwnB E H) E H nx w :=
  ⟨hi.sub hs, hf, rfl, rfl, rfl, Nat.le_refl _, fun _ _ _ => rfl, fun n o B ho hB => .inl ⟨n, o, B, ho, hB, rfl⟩⟩

/-- One effect more. -/
theorem RInv.eff {i : Nat} {o : Oper} {q : RI} {x : Value} (F : Facts P rec L s R S) (h : RInv s R S L.length w0 O E0 wb X E c st a w) (hi : i < L.length) (hXi : X i = false) (hq : R.get i = some q) (hl : Loc P rec L s R S i o q)
    (hpm : ∀ l, q.pm.testBit l = true → X l = true) (he : isEff q.k = true) (hc : c = cntE R i) (hst' : S.get (c + 1) = some st') (hcore : st'.core = Nat.lor st.core (allocM R q.pm i))
    (hgro : Gro E w st.nx E' w' st'.nx) (hhg : HG w (OwnB E (mergeH R s.nx st.core q.pm i st.K)) E' st'.K st'.nx w') (hx : Rd E' w' q.v x) :
    RInv s R S L.length w0 O E0 wb (addX X i) E' (c + 1) st' (a.put o.dst x) w' := by
  have hpl := F.pm_lt i q hi hq
  -- what lies in the sub-heap
  have hsub : ∀ n o, (mergeH R s.nx st.core q.pm i st.K).get n = some o → HF R s.nx L.length X st n = some o := fun n o hn => HF_merge (by omega) (fun l _ hb => hpm l hb) h.kn hn
  -- an object of the region's own that the effect did not see
  have extra : ∀ l r ob, l < L.length → X l = true → st'.core.testBit l = false → R.get l = some r → isAlloc r.k = some ob →
      ∃ B, E.σ (s.nx + l) = some B ∧ ObjRep E w B ob ∧ HF R s.nx L.length X st (s.nx + l) = some ob ∧ ¬ OwnB E (mergeH R s.nx st.core q.pm i st.K) B.b ∧ B.b < w.heap.size := by
    intro l r ob hl' hX hcl hr ha
    rw [hcore, tb_lor, Bool.or_eq_false_iff] at hcl
    have hKl := h.kn l hl' hcl.1
    have hH : HF R s.nx L.length X st (s.nx + l) = some ob := HF_alloc hl' hX hcl.1 hr ha hKl
    obtain ⟨B, hB, hrep⟩ := h.inv.obj _ _ hH
    refine ⟨B, hB, hrep, hH, ?_, hrep.lt⟩
    rintro ⟨n, o', C, hn, hC, hb⟩
    have := h.inv.inj n (s.nx + l) o' ob C B (hsub n o' hn) hH hC hB hb
    subst this
    rcases mergeH_get hn with h1 | ⟨l', r', h1, h2, h3, h4, h5, h6⟩
    · rw [hKl] at h1; cases h1
    · have : l' = l := by omega
      subst this
      have : (allocM R q.pm i).testBit l' = true := allocM_tb.2 ⟨h1, h3, r', o', h5, h6⟩
      rw [this] at hcl
      exact absurd hcl.2 (by simp)
  -- blocks that the effect left alone
  have keep : ∀ b, b < w.heap.size → ¬ OwnB E (mergeH R s.nx st.core q.pm i st.K) b → w'.heap[b]? = w.heap[b]? := fun b h1 h2 => hhg.G.block b h1 h2
  -- names of the region's own in the new heap
  have kn' : ∀ l, l < L.length → st'.core.testBit l = false → st'.K.get (s.nx + l) = none := by
    intro l hl' hcl
    cases hK : st'.K.get (s.nx + l) with
    | none => rfl
    | some ob =>
      exfalso
      obtain ⟨B', hB', hrep'⟩ := hhg.inv.obj _ _ hK
      have hlow : E'.σ (s.nx + l) = E.σ (s.nx + l) := hgro.low _ (by have := h.nxN; omega)
      by_cases hex : ∃ r ob, R.get l = some r ∧ isAlloc r.k = some ob ∧ X l = true
      · obtain ⟨r, ob', hr, ha, hX⟩ := hex
        obtain ⟨B, hB, _, _, h1, h2⟩ := extra l r ob' hl' hX hcl hr ha
        have e : B = B' := by rw [hlow, hB] at hB'; exact Option.some.inj hB'
        subst e
        rcases hhg.G.own _ _ B hK (hlow.trans hB) with h3 | h3
        · exact h1 h3
        · omega
      · have := h.fr l hl' (fun r ob' hr ha => by
          cases hX : X l with
          | false => rfl
          | true => exact absurd ⟨r, ob', hr, ha, hX⟩ hex)
        rw [hlow, this] at hB'
        cases hB'
  have hnotalloc : isAlloc q.k = none := by
    cases hk : q.k <;> simp [hk, isEff] at he <;> rfl
  -- the objects of the new heap
  have cases' : ∀ n ob, HF R s.nx L.length (addX X i) st' n = some ob → st'.K.get n = some ob ∨ ∃ l r B, l < L.length ∧ n = s.nx + l ∧ E.σ n = some B ∧ E'.σ n = some B ∧ ObjRep E w B ob ∧ HF R s.nx L.length X st n = some ob ∧
      ¬ OwnB E (mergeH R s.nx st.core q.pm i st.K) B.b ∧ B.b < w.heap.size ∧ R.get l = some r := by
    intro n ob hn
    rcases HF_get hn with h1 | ⟨_, l, r, h1, rfl, h3, h4, h5, h6⟩
    · exact .inl h1
    · right
      have hli : l ≠ i := by
        rintro rfl
        rw [hq] at h5; cases h5
        rw [hnotalloc] at h6; cases h6
      rw [addX_ne X hli] at h3
      obtain ⟨B, k1, k2, k3, k4, k5⟩ := extra l r ob h1 h3 h4 h5 h6
      exact ⟨l, r, B, h1, rfl, k1, (hgro.low _ (by have := h.nxN; omega)).trans k1, k2, k3, k4, k5, h5⟩
  obtain ⟨tA, tB⟩ := h.tmps F hi hq hl hgro.evo hx
  have hown : ∀ b, OwnB E (mergeH R s.nx st.core q.pm i st.K) b → O b ∨ w0.heap.size ≤ b := by
    rintro b ⟨n, o', C, hn, hC, rfl⟩
    exact h.G.own n o' C (hsub n o' hn) hC
  refine ⟨?_, hst', fun j hX => ?_, h.cl' hq hpm, fun j r hj hr hre => ?_, tA, tB, by rw [put_size]; exact h.sz, by rw [put_defers]; exact h.D.evo hgro.evo, ⟨?_, ?_, ?_, hhg.inv.Ilt⟩, hhg.fresh, ⟨hhg.G.os.trans h.G.os, hhg.G.tape.trans h.G.tape, hhg.G.output.trans h.G.output, Nat.le_trans h.G.size hhg.G.size, ?_, ?_⟩, h.gro.trans hgro, Nat.le_trans h.nxN hgro.le, fun l hl' hno => ?_, fun l hb => ?_, kn'⟩
  · rw [hc]; exact cntE_lt hq he hi
  · rcases addX_cases hX with rfl | hX
    · exact hi
    · exact h.xN j hX
  · by_cases hji : j = i
    · subst hji
      simp only [addX_same, true_iff]; omega
    · rw [addX_ne X hji, h.ef j r hj hr hre]
      constructor
      · intro h1; omega
      · intro h1
        rcases Nat.lt_or_ge j i with h2 | h2
        · have := cntE_lt hr hre h2; omega
        · have := cntE_lt hq he (show i < j by omega); omega
  · intro n ob hn
    rcases cases' n ob hn with h1 | ⟨l, r, B, _, _, k1, k2, k3, _, k4, k5, _⟩
    · exact hhg.inv.obj n ob h1
    · exact ⟨B, k2, k3.evo hgro.evo (keep _ k5 k4)⟩
  · intro n m p p' B C hn hm hB hC hb
    rcases cases' n p hn with h1 | ⟨l, r, B1, _, _, k1, k2, k3, k3', k4, k5, _⟩
    · rcases cases' m p' hm with h2 | ⟨l2, r2, B2, _, _, j1, j2, j3, j3', j4, j5, _⟩
      · exact hhg.inv.inj n m p p' B C h1 h2 hB hC hb
      · exfalso
        rw [hC] at j2; cases j2
        rcases hhg.G.own n p B h1 hB with q1 | q1
        · rw [hb] at q1; exact j4 q1
        · rw [hb] at q1; omega
    · rw [hB] at k2; cases k2
      rcases cases' m p' hm with h2 | ⟨l2, r2, B2, _, _, j1, j2, j3, j3', j4, j5, _⟩
      · exfalso
        rcases hhg.G.own m p' C h2 hC with q1 | q1
        · rw [← hb] at q1; exact k4 q1
        · rw [← hb] at q1; omega
      · rw [hC] at j2; cases j2
        exact h.inv.inj n m p p' B C k3' j3' k1 j1 hb
  · intro n p B hn hB hI
    rcases cases' n p hn with h1 | ⟨l, r, B1, _, _, k1, k2, k3, k3', k4, k5, _⟩
    · exact hhg.inv.notI n p B h1 hB hI
    · rw [hB] at k2; cases k2
      exact h.inv.notI n p B k3' k1 (hgro.I _ hI)
  · intro b hb hO
    refine (keep b (Nat.lt_of_lt_of_le hb h.G.size) (fun hown' => ?_)).trans (h.G.block b hb hO)
    rcases hown b hown' with h1 | h1
    · exact hO h1
    · omega
  · intro n p B hn hB
    rcases cases' n p hn with h1 | ⟨l, r, B1, _, _, k1, k2, k3, k3', k4, k5, _⟩
    · rcases hhg.G.own n p B h1 hB with h2 | h2
      · exact hown _ h2
      · right; exact Nat.le_trans h.G.size h2
    · rw [hB] at k2; cases k2
      exact h.G.own n p B k3' k1
  · rw [hgro.low _ (by have := h.nxN; omega)]
    refine h.fr l hl' (fun r ob hr ha => ?_)
    have := hno r ob hr ha
    simp [addX] at this
    exact this.2
  · rw [hcore, tb_lor, Bool.or_eq_true] at hb
    rcases hb with hb | hb
    · exact addX_of X (h.core l hb)
    · exact addX_of X (hpm l (allocM_tb.1 hb).2.1)

/-- What an operation reads. -/
theorem RInv.reads {i : Nat} {o : Oper} {q : RI} (F : Facts P rec L s R S) (h : RInv s R S L.length w0 O E0 wb X E c st a w) (hi : i < L.length) (hXi : X i = false) (hq : R.get i = some q) (hl : Loc P rec L s R S i o q)
    (hpm : ∀ l, q.pm.testBit l = true → X l = true) {t : Nat} {v : V} (ht : t ∈ q.reads) (hv : q.T.get t = some v) : ∃ x, a.tmps[t]? = some x ∧ Rd E w v x := by
  rcases hl.T t v hv with ⟨l, r, h1, h2, h3, rfl⟩ | ⟨h1, h2⟩
  · exact h.tA l r t (hpm l ((hl.ord l r h1 h2).1 t h3 ht)) h2 h3
  · refine h.tB t v h1 (fun l r hX hr hd => ?_)
    rcases Nat.lt_or_ge l i with h3 | h3
    · exact h2 l r h3 hr hd
    · have hli : l ≠ i := by rintro rfl; rw [hX] at hXi; cases hXi
      obtain ⟨ol, _, hll⟩ := F.of (h.xN l hX) hr
      have := ((hll.ord i q (by omega) hq).2 t (by rw [← hll.dst]; exact hd)).2 ht
      rw [h.cl l r hX hr i this] at hXi
      cases hXi

theorem readsOf_op {o : Oper} {rs : List Nat} (h : readsOf L o = some rs) {t : Nat} (ht : Operand.tmp t ∈ o.op.operands) : t ∈ rs := by
  have hm : t ∈ o.op.operands.toList.filterMap tmpOf := List.mem_filterMap.2 ⟨.tmp t, Array.mem_toList_iff.2 ht, rfl⟩
  unfold readsOf at h
  split at h
  · cases h; exact hm
  · split at h
    · split at h
      · cases h; exact List.mem_cons_of_mem _ hm
      · cases h
    · cases h

theorem ev_rd' {T : Tr V} {x : Operand} (h : ∀ t, x = .tmp t → ∀ v, T.get t = some v → ∃ y, a.tmps[t]? = some y ∧ Rd E w v y) : Rd E w (ev T x) (a.eval x) := by
  cases x with
  | tmp t =>
    simp only [ev]
    cases ht : T.get t with
    | none => exact .any _
    | some v =>
      obtain ⟨y, hy, hr⟩ := h t rfl v ht
      have : a.eval (.tmp t) = y := by simp [Act.eval, Array.getD_eq_getD_getElem?, hy]
      rw [this]; exact hr
  | const v => exact Rd.ofValue v
  | global g => exact .any _
  | func f => exact .func f [] [] [] [] .nil .nil

theorem guard_ok' {ops : Array Oper} {T : Tr V} {o : Oper} {b : Bool} {rs : List Nat} {tmps : Array Value} (hrs : readsOf ops.toList o = some rs) (hT : ∀ t ∈ rs, ∀ v, T.get t = some v → ∃ y, tmps[t]? = some y ∧ Rd E w v y) (h : guardV ops.toList T o = some b) : Region.wanted o (yielded ops tmps) = b := by
  unfold guardV at h
  unfold Region.wanted
  split at h
  · rename_i hg
    simp only [Option.some.injEq] at h
    simp only [hg, h]
  · rename_i j want hg
    simp only [hg]
    split at h
    · rename_i p hp
      split at h
      · rename_i d hd
        have hp' : ops[j]? = some p := by simpa using hp
        have hmem : d ∈ rs := by
          simp only [readsOf, hg, hp, hd, Option.some.injEq] at hrs
          subst hrs
          exact List.mem_cons_self ..
        split at h
        · rename_i c hc
          obtain ⟨y, hy, hr⟩ := hT d hmem _ hc
          cases hr
          simp only [Option.some.injEq] at h
          rw [← h, eqB_eq]
          simp [yielded, hp', hd, hy]
        · rename_i l hc
          obtain ⟨y, hy, hr⟩ := hT d hmem _ hc
          cases hr
          simp only [Option.some.injEq] at h
          rw [← h]
          simp [yielded, hp', hd, hy]
        · cases h
      · cases h
    · cases h

theorem val_op {o : Oper} {v : V} {ρ : Operand → V} {H : Heap} {ro' : Option Nat} {next : Act → World → Prop} {Q : Exit → Act → World → Prop} (hg : goodB P = true) (hH : HInv E H.get w) (hρ : ∀ x ∈ o.op.operands, Rd E w (ρ x) (a.eval x))
    (h : evalOp P ρ H o = .val v) (hn : ∀ x, Rd E w v x → next (a.put o.dst x) w) : o.wpIn (FF ro') 0 P a w next Q := by
  refine ⟨fun _ _ => trivial, ?_⟩
  have hnd : ∀ c, o.op ≠ .defer c := fun c hc => by simp [evalOp, hc] at h
  rw [Oper.semAt_eq _ _ _ hnd]
  have hs := opSound (P := P) (o := o) (ρ' := a.eval) hg hH hρ
  rw [h] at hs
  obtain ⟨y, x, hr, hv, hrd⟩ := hs
  rw [hr]
  rcases hv with rfl | ⟨rfl, rfl⟩
  · exact hn x hrd
  · exact hn undef hrd
theorem new_op {o : Oper} {ob : AObj} {mk : Mk} {ρ : Operand → V} {H : Heap} {ro' : Option Nat} {next : Act → World → Prop} {Q : Exit → Act → World → Prop} (hg : goodB P = true) (hH : HInv E H.get w) (hρ : ∀ x ∈ o.op.operands, Rd E w (ρ x) (a.eval x))
    (h : evalOp P ρ H o = .new ob mk) (hn : ∀ x w' B, NewB w w' B → ObjRep E w' B ob → MkRel mk B x → next (a.put o.dst x) w') : o.wpIn (FF ro') 0 P a w next Q := by
  refine ⟨fun _ _ => trivial, ?_⟩
  have hnd : ∀ c, o.op ≠ .defer c := fun c hc => by simp [evalOp, hc] at h
  rw [Oper.semAt_eq _ _ _ hnd]
  have hs := opSound (P := P) (o := o) (ρ' := a.eval) hg hH hρ
  rw [h] at hs
  obtain ⟨x, w', B, hr, h1, h2, h3⟩ := hs
  rw [hr]
  exact hn x w' B h1 h2 h3

theorem binds_any (e : Edge) : Region.binds .any e = bindsAny e := by
  unfold Region.binds bindsAny
  cases e.ground <;> rfl

/-- One operation that may come next. -/
theorem draw_op {ops : Array Oper} {ro' : Option Nat} {Q : Exit → Act → World → Prop} {K : Act → World → Prop} (hg : goodB P = true) (hr : SoundR P rec) (F : Facts P rec ops.toList s R S) (h : RInv s R S ops.toList.length w0 O E0 wb X E c st a w)
    {i : Nat} (hi : i < ops.toList.length) (hXi : X i = false) (hready : ∀ o, ops[i]? = some o → ∀ e ∈ o.after, Region.binds .any e = true → X e.on = true)
    (hK : ∀ a' w' E' c' st', RInv s R S ops.toList.length w0 O E0 wb (addX X i) E' c' st' a' w' → K a' w') : wpOpIn (FF ro') 0 P ops Q i K a w := by
  obtain ⟨o, q, ho, hq, hl⟩ := F i hi
  have ho' : ops[i]? = some o := by simpa using ho
  have hpm : ∀ l, q.pm.testBit l = true → X l = true := pmOf_cl (X := fun l => X l = true) (fun l r hX _ hr' => h.cl l r hX hr') _ _ hl.pm (fun e he hb => hready o ho' e (Array.mem_toList_iff.1 he) (by rw [binds_any]; exact hb))
  have hread : ∀ t ∈ q.reads, ∀ v, q.T.get t = some v → ∃ x, a.tmps[t]? = some x ∧ Rd E w v x := fun t ht v hv => h.reads F hi hXi hq hl hpm ht hv
  have hρ : ∀ x ∈ o.op.operands, Rd E w (ev q.T x) (a.eval x) := fun x hx => ev_rd' (fun t ht v hv => by subst ht; exact hread t (readsOf_op hl.reads hx) v hv)
  have hnil : HInv E (Tr.nil : Heap).get w := h.inv.sub (fun n o hn => by simp [Tr.get_nil] at hn)
  have hsub : ∀ n ob, (mergeH R s.nx st.core q.pm i st.K).get n = some ob → HF R s.nx ops.toList.length X st n = some ob := fun n ob hn => HF_merge (by omega) (fun l _ hb => hpm l hb) h.kn hn
  unfold wpOpIn
  simp only [ho']
  have hkf := hl.kf
  unfold KF at hkf
  cases hk : q.k with
  | skip =>
    simp only [hk] at hkf
    rw [if_neg (by rw [guard_ok' hl.reads hread hkf.1]; simp)]
    refine ⟨fun _ _ => trivial, hK _ _ E c st (h.plain F hi hq hl hpm (by rw [hk]; rfl) (by rw [hk]; rfl) ?_)⟩
    rw [hkf.2]; exact .tuple [] [] .nil
  | pure =>
    simp only [hk] at hkf
    rw [if_pos (guard_ok' hl.reads hread hkf.1)]
    exact val_op hg hnil hρ hkf.2 (fun x hx => hK _ _ E c st (h.plain F hi hq hl hpm (by rw [hk]; rfl) (by rw [hk]; rfl) hx))
  | alloc ob =>
    simp only [hk] at hkf
    obtain ⟨hgu, mk, hev, hv⟩ := hkf
    rw [if_pos (guard_ok' hl.reads hread hgu)]
    refine new_op hg hnil hρ hev (fun x w' B h1 h2 h3 => hK _ _ _ c st (h.alloc F hi hXi hq hl hpm hk h1 h2 ?_))
    rw [hv]
    exact mk_rd (Env.add_same _ _ _) h3
  | obs =>
    simp only [hk] at hkf
    obtain ⟨hgu, stj, hsj, hevj, hpast⟩ := hkf
    rw [if_pos (guard_ok' hl.reads hread hgu)]
    have hev : evalOp P (ev q.T) (mergeH R s.nx st.core q.pm i st.K) o = .val q.v := by
      rcases Nat.lt_trichotomy c (cntE R i) with hc | hc | hc
      · obtain ⟨nxt, stc, k1, k2, k3⟩ := hpast c hc
        rw [h.hst] at k2; cases k2
        rcases k3 with k3 | k3
        · exfalso
          obtain ⟨e, r, e1, e2, e3, e4⟩ := eff_at hc
          obtain ⟨oe, _, hle⟩ := F.of (by omega) e2
          have hkfe := hle.kf
          unfold KF at hkfe
          cases hre : r.k <;> simp [hre, isEff] at e3
          simp only [hre] at hkfe
          obtain ⟨_, _, st1, st2, _, f2, f3, _⟩ := hkfe
          rw [e4, k1] at f2; cases f2
          rw [f3] at k3
          have := (h.ef e r (by omega) e2 (by rw [hre]; rfl)).1 (hpm e k3)
          omega
        · exact k3
      · rw [← hc, h.hst] at hsj; cases hsj
        exact hevj
      · have hcN := h.cN
        obtain ⟨e, r, e1, e2, e3, e4⟩ := eff_at (R := R) (n := ops.toList.length) (c := c - 1) (by omega)
        have hei : i < e := by
          rcases Nat.lt_trichotomy e i with h1 | h1 | h1
          · have := cntE_lt e2 e3 h1; omega
          · subst h1
            rw [hq] at e2; cases e2
            rw [hk] at e3; cases e3
          · exact h1
        obtain ⟨oe, _, hle⟩ := F.of e1 e2
        have hkfe := hle.kf
        unfold KF at hkfe
        cases hre : r.k <;> simp [hre, isEff] at e3
        simp only [hre] at hkfe
        obtain ⟨_, _, st1, st2, _, f2, f3, _, _, _, f7⟩ := hkfe
        have hce : cntE R e + 1 = c := by omega
        rw [hce, h.hst] at f2; cases f2
        rcases f7 i q hei hq hk with g1 | ⟨ol, g1, g2⟩
        · exfalso
          have hXe : X e = true := (h.ef e r e1 e2 (by rw [hre]; rfl)).2 (by omega)
          rw [h.cl e r hXe e2 i g1] at hXi; cases hXi
        · rw [ho] at g1; cases g1
          exact g2
    exact val_op hg (h.inv.sub hsub) hρ hev (fun x hx => hK _ _ E c st (h.plain F hi hq hl hpm (by rw [hk]; rfl) (by rw [hk]; rfl) hx))
  | eff ce =>
    simp only [hk] at hkf
    obtain ⟨hgu, _, st0, st1, f1, f2, f3, f4, f5, f6, _⟩ := hkf
    rw [if_pos (guard_ok' hl.reads hread hgu)]
    have he : isEff q.k = true := by rw [hk]; rfl
    have hle : c ≤ cntE R i := by
      rcases Nat.lt_or_ge (cntE R i) c with h1 | h1
      · rw [(h.ef i q hi hq he).2 h1] at hXi; cases hXi
      · exact h1
    have hc : c = cntE R i := by
      rcases f4 with h0 | hb
      · omega
      · rcases Nat.eq_zero_or_pos (cntE R i) with h0 | h0
        · omega
        · obtain ⟨e, r, e1, e2, e3, e4⟩ := eff_at (R := R) (n := i) (c := cntE R i - 1) (by omega)
          obtain ⟨oe, _, hle'⟩ := F.of (by omega) e2
          have hkfe := hle'.kf
          unfold KF at hkfe
          cases hre : r.k <;> simp [hre, isEff] at e3
          simp only [hre] at hkfe
          obtain ⟨_, _, sa, sb, _, k2, k3, _⟩ := hkfe
          have : cntE R e + 1 = cntE R i := by omega
          rw [this, f1] at k2; cases k2
          rw [k3] at hb
          have := (h.ef e r (by omega) e2 (by rw [hre]; rfl)).1 (hpm e hb)
          omega
    have hst0 : st0 = st := by rw [← hc, h.hst] at f1; exact (Option.some.inj f1).symm
    subst hst0
    refine op_ok hg hr (sub_hg h.inv hsub h.fresh) hρ f5 (fun x w' E' h1 h2 h3 => hK _ _ E' (c + 1) st1 ?_)
    exact h.eff F hi hXi hq hl hpm he hc (by rw [hc]; exact f2) f6 h1 h2 h3

def cntU (X : Nat → Bool) : Nat → Nat
  | 0 => 0
  | n + 1 => cntU X n + (if X n then 0 else 1)
theorem cntU_le {X : Nat → Bool} {i : Nat} : ∀ n, cntU (addX X i) n ≤ cntU X n
  | 0 => Nat.le_refl _
  | n + 1 => by
    have := cntU_le (X := X) (i := i) n
    simp only [cntU]
    cases hX : X n with
    | true => rw [addX_of X hX]; simp; exact this
    | false => cases addX X i n <;> simp <;> omega
theorem cntU_add {X : Nat → Bool} {i : Nat} (hX : X i = false) : ∀ n, i < n → cntU (addX X i) n + 1 ≤ cntU X n
  | n + 1, h => by
    simp only [cntU]
    by_cases hin : i = n
    · subst hin
      have := cntU_le (X := X) (i := i) i
      rw [addX_same, hX]; simp; exact this
    · have := cntU_add hX n (by omega)
      rw [addX_ne X (fun e => hin e.symm)]; omega
theorem cntU_zero {X : Nat → Bool} : ∀ n, cntU X n = 0 → ∀ j, j < n → X j = true
  | n + 1, h, j, hj => by
    simp only [cntU] at h
    rcases Nat.lt_succ_iff_lt_or_eq.1 hj with h1 | rfl
    · exact cntU_zero n (by omega) j h1
    · cases hX : X j with
      | true => rfl
      | false => rw [hX] at h; simp at h

/-- When all has been done. -/
theorem RInv.done {T : Tr V} (hT : TF s R T L.length) (h : RInv s R S L.length w0 O E0 wb X E c st a w) (hX : ∀ j, j < L.length → X j = true) {m : Nat} {stk : Stg} (hk : S.get (cntE R L.length) = some stk) :
    ∃ E', Gro E0 wb s.nx E' w stk.nx ∧ SI w0 O E' { s with T := T, H := mergeH R s.nx stk.core m L.length stk.K, nx := stk.nx } a w := by
  have hc : c = cntE R L.length := by
    rcases Nat.lt_or_ge c (cntE R L.length) with h1 | h1
    · obtain ⟨e, r, e1, e2, e3, e4⟩ := eff_at h1
      have := (h.ef e r e1 e2 e3).1 (hX e e1)
      omega
    · have := h.cN; omega
  have hst := h.hst
  rw [hc, hk] at hst
  cases hst
  refine ⟨E, h.gro, ⟨fun t v ht => ?_, h.sz, h.D, ⟨h.inv.sub ?_, h.fresh, h.G.os, h.G.tape, h.G.output, h.G.size, h.G.block, ?_⟩⟩⟩
  · rcases hT t v ht with ⟨l, r, h1, h2, h3, rfl⟩ | ⟨h1, h2⟩
    · exact h.tA l r t (hX l h1) h2 h3
    · exact h.tB t v h1 (fun l r hXl hr => h2 l r (h.xN l hXl) hr)
  · exact fun n ob hn => HF_merge (Nat.le_refl _) (fun l hl _ => hX l hl) h.kn hn
  · intro n ob B hn hB
    exact h.G.own n ob B (HF_merge (Nat.le_refl _) (fun l hl _ => hX l hl) h.kn hn) hB

theorem draw_any {ops : Array Oper} {ro' : Option Nat} {Q : Exit → Act → World → Prop} (hg : goodB P = true) (hr : SoundR P rec) (F : Facts P rec ops.toList s R S)
    (hQ : ∀ X E c st a w, RInv s R S ops.toList.length w0 O E0 wb X E c st a w → (∀ j, j < ops.toList.length → X j = true) → Q .normal a w) :
    ∀ (fuel : Nat) (listed : Array Bool) (E : Env) (c : Nat) (st : Stg) (a : Act) (w : World), listed.size = ops.size → RInv s R S ops.toList.length w0 O E0 wb (fun j => listed.getD j false) E c st a w →
      cntU (fun j => listed.getD j false) ops.size ≤ fuel → wpAnyIn (FF ro') 0 P .any ops Q fuel listed a w := by
  have hlen : ops.toList.length = ops.size := by simp
  have allDone : ∀ (listed : Array Bool), listed.size = ops.size → Region.ready .any ops listed = [] → ∀ j, j < ops.size → listed.getD j false = true := by
    intro listed hs hnil j
    induction j using Nat.strongRecOn with
    | _ j ih =>
      intro hj
      cases hb : listed.getD j false with
      | true => rfl
      | false =>
        exfalso
        obtain ⟨o, q, ho, hq, hl⟩ := F j (by rw [hlen]; exact hj)
        have ho' : ops[j]? = some o := by simpa using ho
        have : j ∈ Region.ready .any ops listed := by
          refine mem_ready.2 ⟨?_, o, ho', fun e he hbi => ?_⟩
          · simp only [Array.getD_eq_getD_getElem?] at hb ⊢
            simp [hs, hj] at hb ⊢
            exact hb
          · have hlt := pmOf_edge _ _ hl.pm e (Array.mem_toList_iff.2 he) (by rw [← binds_any]; exact hbi)
            exact ih e.on hlt (by omega)
        rw [hnil] at this
        cases this
  intro fuel
  induction fuel with
  | zero =>
    intro listed E c st a w hs h hf
    have hall := cntU_zero ops.size (Nat.le_zero.1 hf)
    refine ⟨?_, hQ _ E c st a w h (fun j hj => hall j (by rwa [hlen] at hj))⟩
    cases hrd : Region.ready .any ops listed with
    | nil => rfl
    | cons i r =>
      have : i ∈ Region.ready .any ops listed := by rw [hrd]; exact List.mem_cons_self ..
      obtain ⟨h1, o, ho, _⟩ := mem_ready.1 this
      have hi : i < ops.size := (Array.getElem?_eq_some_iff.1 ho).1
      have := hall i hi
      simp only [Array.getD_eq_getD_getElem?] at h1 this
      simp [hs, hi] at h1 this
      rw [h1] at this; cases this
  | succ fuel ih =>
    intro listed E c st a w hs h hf
    refine ⟨fun hnil => hQ _ E c st a w h (fun j hj => allDone listed hs hnil j (by rwa [hlen] at hj)), fun i hir => ?_⟩
    obtain ⟨h1, o, ho, hall⟩ := mem_ready.1 hir
    have hi : i < ops.size := (Array.getElem?_eq_some_iff.1 ho).1
    have hXi : listed.getD i false = false := by
      simp only [Array.getD_eq_getD_getElem?] at h1 ⊢
      simp [hs, hi] at h1 ⊢
      exact h1
    have hadd : (fun j => (listed.setIfInBounds i true).getD j false) = addX (fun j => listed.getD j false) i := by
      funext j
      simp only [Array.getD_eq_getD_getElem?, addX, Array.getElem?_setIfInBounds]
      by_cases hji : j = i
      · subst hji; simp [hs, hi]
      · simp [hji, Ne.symm hji]
    refine draw_op hg hr F h (by rw [hlen]; exact hi) hXi (fun o' ho' e he hb => ?_) (fun a' w' E' c' st' hR => ?_)
    · rw [ho] at ho'; cases ho'
      exact hall e he hb
    · refine ih _ E' c' st' a' w' (by simpa using hs) (by rw [hadd]; exact hR) ?_
      rw [hadd]
      have := cntU_add (X := fun j => listed.getD j false) hXi ops.size hi
      omega

/-- A region that draws its order. -/
theorem draw_ok {ops : Array Oper} {ro' : Option Nat} {Q : Exit → Act → World → Prop} {s' : St} {e : Ex} {id : Nat} (hg : goodB P = true) (hr : SoundR P rec) (h : evalDraw P rec ops.toList s = .code e s') (hs : SI w0 O E s a w)
    (hQ : ∀ a' w' E', Gro E w s.nx E' w' s'.nx → SI w0 O E' s' a' w' → Q e.to a' w') : (Code.region id ops true).wpIn (FF ro') 0 P Q a w := by
  unfold evalDraw at h
  split at h
  · rename_i ds hgo
    split at h
    · rename_i stk hstk
      simp only [Out.code.injEq] at h
      obtain ⟨rfl, rfl⟩ := h
      obtain ⟨g1, g2, g3, g4, g5⟩ := drawGo_facts P rec ops.toList s ops.toList 0 _ ds hgo rfl (fun l hl => by omega) rfl (fun t v ht => .inr ⟨ht, fun l r hl => by omega⟩)
      rw [Nat.zero_add] at g3 g4
      have F : Facts P rec ops.toList s ds.R ds.S := fun j hj => g5 j (Nat.zero_le _) (by omega)
      have hS0 := g2 0 (Nat.le_refl _)
      simp only [Tr.get_set, if_true] at hS0
      refine wpIn_region_any (mixed hg) ?_
      let w1 : World := { w with drawn := w.drawn + 1 }
      have kw : Evo E w E w1 := ⟨fun _ _ h => h, fun _ h => h, fun _ _ => rfl⟩
      have hHF : HF ds.R s.nx ops.toList.length (fun j => (Array.replicate ops.size false).getD j false) ⟨s.H, s.nx + ops.toList.length, 0, 0⟩ = s.H.get := by
        funext n
        unfold HF
        split
        · rename_i o ho; exact ho.symm
        · rename_i ho
          rw [if_neg]
          · exact ho.symm
          · rintro ⟨_, _, h3, _⟩
            simp [Array.getD_eq_getD_getElem?, Array.getElem?_replicate] at h3
            split at h3 <;> simp at h3
      have hX0 : ∀ j, (Array.replicate ops.size false).getD j false = false := by
        intro j
        simp [Array.getD_eq_getD_getElem?, Array.getElem?_replicate]
        split <;> simp
      refine draw_any hg hr F (fun X E' c st a' w' hR hall => ?_) ops.size _ E 0 ⟨s.H, s.nx + ops.toList.length, 0, 0⟩ a w1 (by simp) (E0 := E) (wb := w) (w0 := w0) (O := O) ?_ ?_
      · rw [g3] at hstk
        obtain ⟨E'', k1, k2⟩ := hR.done g4 hall (m := Nat.shiftLeft 1 ops.toList.length - 1) hstk
        exact hQ a' w' E'' k1 k2
      · have no : ∀ {p : Prop} j, (Array.replicate ops.size false).getD j false = true → p := fun j hj => by rw [hX0] at hj; cases hj
        refine ⟨Nat.zero_le _, hS0, fun j hj => no j hj, fun j q hj => no j hj, fun j q _ _ _ => (by rw [hX0]; simp), fun l r d hX => no l hX, fun t v ht _ => ?_, hs.nt, hs.D, ?_, fun n hn => ?_, ?_, ?_, Nat.le_refl _, fun l hl _ => ?_, fun l hb => (by simp at hb), fun l hl _ => ?_⟩
        · obtain ⟨x, h1, h2⟩ := hs.T t v ht
          exact ⟨x, h1, h2.evo kw⟩
        · rw [hHF]
          refine ⟨fun n o ho => ?_, hs.hg.inv.inj, hs.hg.inv.notI, hs.hg.inv.Ilt⟩
          obtain ⟨B, h1, h2⟩ := hs.hg.inv.obj n o ho
          exact ⟨B, h1, h2.evo kw rfl⟩
        · exact hs.hg.fresh n (by simp only at hn; omega)
        · rw [hHF]
          exact ⟨hs.hg.G.os, hs.hg.G.tape, hs.hg.G.output, hs.hg.G.size, hs.hg.G.block, hs.hg.G.own⟩
        · exact ⟨kw, by simp only; omega, fun _ _ => rfl, fun _ h => h⟩
        · exact hs.hg.fresh _ (by omega)
        · cases hK : s.H.get (s.nx + l) with
          | none => rfl
          | some o => have := hs.hg.dom hK; omega
      · have : ∀ n, cntU (fun j => (Array.replicate ops.size false).getD j false) n ≤ n := by
          intro n
          induction n with
          | zero => exact Nat.le_refl _
          | succ n ih => simp only [cntU, hX0] at ih ⊢; simp; exact ih
        exact this _
    · cases h
  · cases h
end
end Go.Abs
