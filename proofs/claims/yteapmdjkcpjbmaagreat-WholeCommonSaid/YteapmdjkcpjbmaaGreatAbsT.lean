/- The abstract evaluator: regions that draw their order: the facts that the pass over the operations leaves. -/
import Derived.Test.YteapmdjkcpjbmaaGreatAbsS
namespace Go.Abs

def isEff : RK → Bool
  | .eff _ => true
  | _ => false
def cntE (R : Tr RI) : Nat → Nat
  | 0 => 0
  | j + 1 => cntE R j + (match R.get j with | some q => (if isEff q.k then 1 else 0) | none => 0)

section
variable (P : Program) (rec : Task → Out) (L : List Oper) (s : St)

/-- What is known of the kind of an operation. -/
def KF (R : Tr RI) (S : Tr Stg) (j : Nat) (o : Oper) (q : RI) (kj : Nat) : Prop :=
  match q.k with
  | .skip => guardV L q.T o = some false ∧ q.v = .tuple []
  | .pure => guardV L q.T o = some true ∧ evalOp P (ev q.T) .nil o = .val q.v
  | .alloc ob => guardV L q.T o = some true ∧ ∃ mk, evalOp P (ev q.T) .nil o = .new ob mk ∧ q.v = mk.v (s.nx + j)
  | .obs => guardV L q.T o = some true ∧ ∃ st, S.get kj = some st ∧ evalOp P (ev q.T) (mergeH R s.nx st.core q.pm j st.K) o = .val q.v ∧
      ∀ c, c < kj → ∃ nxt stc, S.get (c + 1) = some nxt ∧ S.get c = some stc ∧ (q.pm.testBit nxt.eff = true ∨ evalOp P (ev q.T) (mergeH R s.nx stc.core q.pm j stc.K) o = .val q.v)
  | .eff c => guardV L q.T o = some true ∧ c = kj + 1 ∧ ∃ st st', S.get kj = some st ∧ S.get (kj + 1) = some st' ∧ st'.eff = j ∧ (kj = 0 ∨ q.pm.testBit st.eff = true) ∧
      stepEff rec (mergeH R s.nx st.core q.pm j st.K) st.nx (evalOp P (ev q.T) (mergeH R s.nx st.core q.pm j st.K) o) = .done q.v st'.K st'.nx ∧
      st'.core = Nat.lor st.core (allocM R q.pm j) ∧
      ∀ l r, l < j → R.get l = some r → r.k = .obs → q.pm.testBit l = true ∨ ∃ ol, L[l]? = some ol ∧ evalOp P (ev r.T) (mergeH R s.nx st'.core r.pm l st'.K) ol = .val r.v

theorem KF_congr {R R' : Tr RI} {S S' : Tr Stg} {j : Nat} {o : Oper} {q : RI} {kj : Nat} (hR : ∀ l, l < j → R.get l = R'.get l) (hS : ∀ c, c ≤ kj + (if isEff q.k then 1 else 0) → S.get c = S'.get c)
    (h : KF P rec L s R S j o q kj) : KF P rec L s R' S' j o q kj := by
  have hm : ∀ (core m l : Nat) (K : Heap), l ≤ j → mergeH R s.nx core m l K = mergeH R' s.nx core m l K := fun core m l K hl => mergeH_congr (fun l' h' => hR l' (by omega))
  have ha : ∀ m, allocM R m j = allocM R' m j := fun m => allocM_congr hR
  unfold KF at h ⊢
  cases hk : q.k with
  | skip => simp only [hk] at h ⊢; exact h
  | pure => simp only [hk] at h ⊢; exact h
  | alloc ob => simp only [hk] at h ⊢; exact h
  | obs =>
    simp only [hk] at h ⊢
    have hS' : ∀ c, c ≤ kj → S.get c = S'.get c := fun c hc => hS c (by omega)
    obtain ⟨h0, st, h1, h2, h3⟩ := h
    refine ⟨h0, st, by rw [← hS' kj (Nat.le_refl _)]; exact h1, by rw [← hm _ _ _ _ (Nat.le_refl _)]; exact h2, fun c hc => ?_⟩
    obtain ⟨nxt, stc, k1, k2, k3⟩ := h3 c hc
    exact ⟨nxt, stc, by rw [← hS' _ hc]; exact k1, by rw [← hS' c (by omega)]; exact k2, by rw [← hm _ _ _ _ (Nat.le_refl _)]; exact k3⟩
  | eff c =>
    simp only [hk] at h ⊢
    have hS' : ∀ c, c ≤ kj + 1 → S.get c = S'.get c := fun c hc => hS c (by simp [hk, isEff]; omega)
    obtain ⟨h0, hc, st, st', h1, h2, h3, h4, h5, h6, h7⟩ := h
    refine ⟨h0, hc, st, st', by rw [← hS' _ (by omega)]; exact h1, by rw [← hS' _ (Nat.le_refl _)]; exact h2, h3, h4, by rw [← hm _ _ _ _ (Nat.le_refl _)]; exact h5, by rw [← ha]; exact h6, fun l r hl hr hobs => ?_⟩
    rcases h7 l r hl (by rw [hR l hl]; exact hr) hobs with k | ⟨ol, k1, k2⟩
    · exact .inl k
    · exact .inr ⟨ol, k1, by rw [← hm _ _ _ _ (by omega)]; exact k2⟩

/-- One operation's step of the pass. -/
structure StepF (i : Nat) (o : Oper) (pm : Nat) (reads : List Nat) (ds ds' : DS) (q : RI) : Prop where
  R : ds'.R = ds.R.set i q
  pm : q.pm = pm
  qT : q.T = ds.T
  dst : q.dst = o.dst
  reads : q.reads = reads
  T : ds'.T = (match o.dst with | some d => ds.T.set d q.v | none => ds.T)
  k : ds'.k = ds.k + (if isEff q.k then 1 else 0)
  S : ∀ c, c ≤ ds.k → ds'.S.get c = ds.S.get c
  kf : KF P rec L s ds.R ds'.S i o q ds.k

theorem drawPut_step {i : Nat} {o : Oper} {pm : Nat} {reads : List Nat} {ds : DS} {v : V} {k : RK} (hk : isEff k = false) (h : KF P rec L s ds.R ds.S i o ⟨pm, ds.T, v, o.dst, reads, k⟩ ds.k) :
    StepF P rec L s i o pm reads ds (drawPut i o pm reads ds v k) ⟨pm, ds.T, v, o.dst, reads, k⟩ :=
  ⟨rfl, rfl, rfl, rfl, rfl, rfl, by simp [drawPut, hk], fun _ _ => rfl, h⟩

theorem drawOp_step {i : Nat} {o : Oper} {pm : Nat} {reads : List Nat} {ds ds' : DS} (h : drawOp P rec L s.nx i o pm reads ds = .ok ds') : ∃ q, StepF P rec L s i o pm reads ds ds' q := by
  unfold drawOp at h
  split at h
  · cases h
  · rename_i hg
    cases h
    exact ⟨_, drawPut_step P rec L s rfl ⟨hg, rfl⟩⟩
  · rename_i hg
    split at h
    · rename_i v hv
      cases h
      exact ⟨_, drawPut_step P rec L s rfl ⟨hg, hv⟩⟩
    · rename_i ob mk hv
      cases h
      exact ⟨_, drawPut_step P rec L s rfl ⟨hg, mk, hv, rfl⟩⟩
    · split at h
      · cases h
      · rename_i st hst
        have effc : ∀ e, evalOp P (ev ds.T) (mergeH ds.R s.nx st.core pm i st.K) o = e → drawEff P rec L s.nx i o pm reads ds st e (mergeH ds.R s.nx st.core pm i st.K) = .ok ds' → ∃ q, StepF P rec L s i o pm reads ds ds' q := by
          intro e he h
          unfold drawEff at h
          cases hb : (Nat.beq ds.k 0 || pm.testBit st.eff) with
          | false => rw [hb] at h; cases h
          | true =>
            rw [hb] at h
            simp only [cond_true] at h
            split at h
            · rename_i v K nx hstep
              cases hob : obsNew P L ds.R s.nx i pm K (Nat.lor st.core (allocM ds.R pm i)) with
              | false => rw [hob] at h; cases h
              | true =>
                rw [hob] at h
                simp only [cond_true, DO.ok.injEq] at h
                subst h
                refine ⟨⟨pm, ds.T, v, o.dst, reads, .eff (ds.k + 1)⟩, rfl, rfl, rfl, rfl, rfl, rfl, by simp [isEff], fun c hc => by rw [Tr.get_set, if_neg (by omega)], ?_⟩
                refine ⟨hg, rfl, st, ⟨K, nx, Nat.lor st.core (allocM ds.R pm i), i⟩, by rw [Tr.get_set, if_neg (by omega)]; exact hst, by rw [Tr.get_set, if_pos rfl], rfl, ?_, by rw [he]; exact hstep, rfl, fun l r hl hr hobs => ?_⟩
                · simp only [Bool.or_eq_true, Nat.beq_eq] at hb; exact hb
                · have := allB_all hob l hl
                  obtain ⟨pj, T', v', d', rd', k'⟩ := r
                  simp only at hobs
                  subst hobs
                  simp only [hr, Bool.or_eq_true] at this
                  rcases this with h1 | h1
                  · exact .inl h1
                  · right
                    split at h1
                    · rename_i ol hol; exact ⟨ol, hol, sameVal_eq h1⟩
                    · cases h1
            · cases h
        split at h
        · rename_i v hv
          cases hob : obsPast P ds.S ds.R s.nx i ds.k pm ds.T o v with
          | false => rw [hob] at h; cases h
          | true =>
            rw [hob] at h
            simp only [cond_true, DO.ok.injEq] at h
            subst h
            refine ⟨_, drawPut_step P rec L s rfl ⟨hg, st, hst, hv, fun c hc => ?_⟩⟩
            have := allB_all hob c hc
            split at this
            · rename_i nxt stc h1 h2
              simp only [Bool.or_eq_true] at this
              exact ⟨nxt, stc, h1, h2, this.imp id sameVal_eq⟩
            · cases this
        · cases h
        · cases h
        · exact effc _ rfl h

/-- What is known of one operation. -/
structure Loc (R : Tr RI) (S : Tr Stg) (j : Nat) (o : Oper) (q : RI) : Prop where
  dst : q.dst = o.dst
  dlt : ∀ d, o.dst = some d → d < s.nt
  pm : pmOf R j o.after.toList = some q.pm
  reads : readsOf L o = some q.reads
  ord : ∀ l r, l < j → R.get l = some r → (∀ d, r.dst = some d → d ∈ q.reads → q.pm.testBit l = true) ∧ (∀ d, o.dst = some d → r.dst ≠ some d ∧ (d ∈ r.reads → q.pm.testBit l = true))
  T : ∀ t v, q.T.get t = some v → (∃ l r, l < j ∧ R.get l = some r ∧ r.dst = some t ∧ r.v = v) ∨ (s.T.get t = some v ∧ ∀ l r, l < j → R.get l = some r → r.dst ≠ some t)
  kf : KF P rec L s R S j o q (cntE R j)

/-- The temporaries along the pass. -/
def TF (R : Tr RI) (T : Tr V) (i : Nat) : Prop :=
  ∀ t v, T.get t = some v → (∃ l r, l < i ∧ R.get l = some r ∧ r.dst = some t ∧ r.v = v) ∨ (s.T.get t = some v ∧ ∀ l r, l < i → R.get l = some r → r.dst ≠ some t)

theorem cntE_congr {R R' : Tr RI} : ∀ {j : Nat}, (∀ l, l < j → R.get l = R'.get l) → cntE R j = cntE R' j
  | 0, _ => rfl
  | j + 1, h => by simp only [cntE, cntE_congr (j := j) (fun l hl => h l (by omega)), h j (by omega)]

theorem drawGo_facts : ∀ (rest : List Oper) (i : Nat) (ds dsf : DS), drawGo P rec L s.nt s.nx rest i ds = .ok dsf → L.drop i = rest → (∀ l, l < i → ∃ q, ds.R.get l = some q) → ds.k = cntE ds.R i → TF s ds.R ds.T i →
    (∀ l, l < i → dsf.R.get l = ds.R.get l) ∧ (∀ c, c ≤ ds.k → dsf.S.get c = ds.S.get c) ∧ dsf.k = cntE dsf.R (i + rest.length) ∧ TF s dsf.R dsf.T (i + rest.length) ∧
    ∀ j, i ≤ j → j < i + rest.length → ∃ o q, L[j]? = some o ∧ dsf.R.get j = some q ∧ Loc P rec L s dsf.R dsf.S j o q
  | [], i, ds, dsf, h, _, _, hk, hT => by
    simp only [drawGo, DO.ok.injEq] at h
    subst h
    exact ⟨fun _ _ => rfl, fun _ _ => rfl, by simpa using hk, by simpa using hT, fun j h1 h2 => by simp at h2; omega⟩
  | o :: rest, i, ds, dsf, h, hL, hd, hk, hT => by
    simp only [drawGo] at h
    split at h
    · rename_i pm reads hpm hreads
      cases hb : (dstOk s.nt o.dst && orderOk ds.R o.dst reads pm i) with
      | false => rw [hb] at h; cases h
      | true =>
        rw [hb] at h
        simp only [cond_true] at h
        simp only [Bool.and_eq_true] at hb
        obtain ⟨hdl, hord⟩ := hb
        split at h
        · rename_i ds' hop
          obtain ⟨q, hq⟩ := drawOp_step P rec L s hop
          have hRl : ∀ l, l < i → ds'.R.get l = ds.R.get l := fun l hl => by rw [hq.R, Tr.get_set, if_neg (by omega)]
          have hRi : ds'.R.get i = some q := by rw [hq.R, Tr.get_set, if_pos rfl]
          have hLi : L[i]? = some o := by
            have := congrArg (fun l => l[0]?) hL
            simpa using this
          have hL' : L.drop (i + 1) = rest := by
            have := congrArg (List.drop 1) hL
            simpa [List.drop_drop] using this
          have hcnt : cntE ds'.R i = cntE ds.R i := cntE_congr hRl
          have hk' : ds'.k = cntE ds'.R (i + 1) := by simp only [cntE, hRi, hcnt, ← hk, hq.k]
          have hord' : ∀ l r, l < i → ds.R.get l = some r → (∀ d, r.dst = some d → d ∈ reads → pm.testBit l = true) ∧ (∀ d, o.dst = some d → r.dst ≠ some d ∧ (d ∈ r.reads → pm.testBit l = true)) := by
            intro l r hl hr
            have := allB_all hord l hl
            simp only [hr, Bool.and_eq_true] at this
            obtain ⟨h1, h2⟩ := this
            refine ⟨fun d hd hin => ?_, fun d hd => ?_⟩
            · rw [hd] at h1
              simp only [Bool.or_eq_true, Bool.not_eq_true'] at h1
              rcases h1 with h1 | h1
              · exact absurd (inL_iff.2 hin) (by rw [h1]; simp)
              · exact h1
            · rw [hd] at h2
              simp only [Bool.and_eq_true, Bool.or_eq_true, Bool.not_eq_true'] at h2
              obtain ⟨h2, h3⟩ := h2
              refine ⟨fun e => ?_, fun hin => ?_⟩
              · rw [e] at h2
                simp at h2
              · rcases h3 with h3 | h3
                · exact absurd (inL_iff.2 hin) (by rw [h3]; simp)
                · exact h3
          have hT' : TF s ds'.R ds'.T (i + 1) := by
            intro t v ht
            have old : ds.T.get t = some v → o.dst ≠ some t → (∃ l r, l < i + 1 ∧ ds'.R.get l = some r ∧ r.dst = some t ∧ r.v = v) ∨ (s.T.get t = some v ∧ ∀ l r, l < i + 1 → ds'.R.get l = some r → r.dst ≠ some t) := by
              intro ht hne
              rcases hT t v ht with ⟨l, r, h1, h2, h3, h4⟩ | ⟨h1, h2⟩
              · exact .inl ⟨l, r, by omega, by rw [hRl l h1]; exact h2, h3, h4⟩
              · refine .inr ⟨h1, fun l r hl hr => ?_⟩
                rcases Nat.lt_succ_iff_lt_or_eq.1 hl with hl | rfl
                · exact h2 l r hl (by rw [← hRl l hl]; exact hr)
                · rw [hRi] at hr; cases hr
                  rw [hq.dst]; exact hne
            rw [hq.T] at ht
            cases hod : o.dst with
            | none => rw [hod] at ht; exact old ht (by rw [hod]; simp)
            | some d =>
              rw [hod] at ht
              simp only [Tr.get_set] at ht
              by_cases htd : t = d
              · subst htd
                simp at ht
                exact .inl ⟨i, q, by omega, hRi, by rw [hq.dst]; exact hod, ht⟩
              · rw [if_neg htd] at ht
                exact old ht (by rw [hod]; simp; exact fun e => htd e.symm)
          obtain ⟨g1, g2, g3, g4, g5⟩ := drawGo_facts rest (i + 1) ds' dsf h hL' (fun l hl => by
            rcases Nat.lt_succ_iff_lt_or_eq.1 hl with hl | rfl
            · obtain ⟨q, hq⟩ := hd l hl; exact ⟨q, by rw [hRl l hl]; exact hq⟩
            · exact ⟨q, hRi⟩) hk' hT'
          have hff : ∀ l, l < i → dsf.R.get l = ds.R.get l := fun l hl => (g1 l (by omega)).trans (hRl l hl)
          have hfi : dsf.R.get i = some q := (g1 i (by omega)).trans hRi
          have hlen : i + (o :: rest).length = i + 1 + rest.length := by simp; omega
          refine ⟨hff, fun c hc => (g2 c (by rw [hq.k]; omega)).trans (hq.S c hc), by rw [hlen]; exact g3, by rw [hlen]; exact g4, fun j h1 h2 => ?_⟩
          rcases Nat.lt_or_ge i j with hij | hij
          · exact g5 j hij (by omega)
          · have : j = i := by omega
            subst this
            refine ⟨o, q, hLi, hfi, hq.dst, fun d hd => ?_, ?_, by rw [hq.reads]; exact hreads, fun l r hl hr => ?_, ?_, ?_⟩
            · rw [hd] at hdl; simpa [dstOk, Nat.blt_eq] using hdl
            · rw [hq.pm, pmOf_congr (R' := ds.R) hff]; exact hpm
            · rw [hq.reads, hq.pm]; exact hord' l r hl (by rw [← hff l hl]; exact hr)
            · intro t v ht
              rw [hq.qT] at ht
              rcases hT t v ht with ⟨l, r, k1, k2, k3, k4⟩ | ⟨k1, k2⟩
              · exact .inl ⟨l, r, k1, by rw [hff l k1]; exact k2, k3, k4⟩
              · exact .inr ⟨k1, fun l r hl hr => k2 l r hl (by rw [← hff l hl]; exact hr)⟩
            · have hkk : cntE dsf.R j = ds.k := by rw [hk]; exact cntE_congr hff
              rw [hkk]
              exact KF_congr P rec L s (fun l hl => (hff l hl).symm) (fun c hc => (g2 c (by rw [hq.k]; exact hc)).symm) hq.kf
        · cases h
    · cases h
end
end Go.Abs
