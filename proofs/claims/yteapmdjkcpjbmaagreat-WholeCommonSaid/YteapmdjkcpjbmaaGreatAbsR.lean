/- The abstract evaluator: records of loops over functions; code; calls; the main theorem. -/
import Derived.Test.YteapmdjkcpjbmaaGreatAbsW
import Derived.RangeFuncNested
namespace Go.Abs
section
variable {P : Program} {rec : Task → Out} {E : Env} {w0 w : World} {O : Nat → Prop} {s s' : St} {a : Act}

theorem chg_putObj (w : World) (r : Nat) (o : Obj) : Chg w (w.putObj r o) r := chg_setObj w r o

/-- A record of a loop. -/
theorem hg_loop {H : Heap} {nx n : Nat} {state : LoopState} {pending : Option Code} {T : Tr V} {nt : Nat} {params : List Nat} {assign body : Code} {d : Nat} (h : HG w0 O E H nx w)
    (hl : H.get n = some (.loop state pending T nt params assign body d)) :
    ∃ (B D : Blk) (r : Loop), E.σ n = some B ∧ E.σ d = some D ∧ w.heap[B.b]? = some (.loop r) ∧ r.state = state ∧ r.pending = pending ∧ TRel E w T r.tmps ∧ r.tmps.size = nt ∧ r.params = ⟨params⟩ ∧ r.assign = assign ∧ r.body = body ∧ r.defers = D.b ∧
      ∀ (st : LoopState) (pe : Option Code), HG w0 O E (H.set n (.loop st pe T nt params assign body d)) nx (w.putObj B.b (.loop { r with state := st, pending := pe })) ∧
        Gro E w nx E (w.putObj B.b (.loop { r with state := st, pending := pe })) nx := by
  obtain ⟨B, hB, D, fn, tmps, h1, h2, h3, h4⟩ := h.inv.obj n _ hl
  refine ⟨B, D, _, hB, h1, h4, rfl, rfl, h2, h3, rfl, rfl, rfl, rfl, fun st pe => ?_⟩
  have hc := chg_putObj w B.b (.loop { state := st, pending := pe, fn, tmps, params := ⟨params⟩, assign, body, defers := D.b })
  have hnI := h.inv.notI n _ B hl hB
  refine hg_upd h hl hB hc ⟨D, fn, tmps, h1, h2.evo (evo_chg hnI hc), h3, ?_⟩
  exact World.putObj_heap_same (Array.getElem?_eq_some_iff.1 h4).1

theorem enter_ok {ro ro' : Option Nat} {ps : Array Tmp} {assign body : Code} {n nx : Nat} {D : List AD} {H : Heap} (hs : SI w0 O E s a w) (hro : RO E ro ro') (h : enterV ro ps.toList assign body s = some (n, D, H, nx)) (fn : FuncId) :
    ∃ l mark w1 E', (Instr.enterLoop fn a.tmps ps assign body ro').run P w = .ok (l, mark) w1 ∧ Gro E w s.nx E' w1 nx ∧ HG w0 O E' H nx w1 ∧ (∃ B, E'.σ n = some B ∧ B.b = l) ∧ DRel E' D (mark ++ a.defers) := by
  have mkLoop : ∀ (E : Env) (w : World) (H : Heap) (nx d : Nat) (Db : Blk), HG w0 O E H nx w → TRel E w s.T a.tmps → E.σ d = some Db →
      ∃ E', Gro E w nx E' (w.alloc (.loop { state := .ready, pending := none, fn, tmps := a.tmps, params := ps, assign, body, defers := Db.b })) (nx + 1) ∧
        HG w0 O E' (H.set nx (.loop .ready none s.T s.nt ps.toList assign body d)) (nx + 1) (w.alloc (.loop { state := .ready, pending := none, fn, tmps := a.tmps, params := ps, assign, body, defers := Db.b })) ∧
        ∃ B, E'.σ nx = some B ∧ B.b = w.heap.size := by
    intro E w H nx d Db hg hT hd
    have hn := newB_alloc w (.loop { state := .ready, pending := none, fn, tmps := a.tmps, params := ps, assign, body, defers := Db.b }) 0
    have ho : ObjRep E (w.alloc (.loop { state := .ready, pending := none, fn, tmps := a.tmps, params := ps, assign, body, defers := Db.b })) ⟨w.heap.size, 0, 0⟩ (.loop .ready none s.T s.nt ps.toList assign body d) :=
      ⟨Db, fn, a.tmps, hd, hT.evo (evo_new hg.inv.Ilt hn), hs.nt, heap_alloc_new w _⟩
    obtain ⟨h1, h2⟩ := hg_new hg hn ho
    exact ⟨_, h2, h1, _, Env.add_same _ _ _, rfl⟩
  cases ro with
  | some l0 =>
    simp only [enterV] at h
    split at h
    · rename_i st pend T nt pars as bo d hl
      simp only [Option.some.injEq, Prod.mk.injEq] at h
      obtain ⟨rfl, rfl, rfl, rfl⟩ := h
      obtain ⟨B, Db, r, hB, hDb, hrr, _, _, _, _, _, _, _, hdef, _⟩ := hg_loop hs.hg hl
      obtain ⟨B', hB', rfl⟩ := hro
      rw [hB] at hB'; cases hB'
      obtain ⟨E', h1, h2, B2, hB2, hb2⟩ := mkLoop E w s.H s.nx d Db hs.hg hs.T hDb
      refine ⟨_, _, _, E', run_enterLoop_inner hrr fn a.tmps ps assign body, ?_, ?_, ⟨B2, hB2, hb2⟩, ?_⟩
      · rw [hdef]; exact h1
      · rw [hdef]; exact h2
      · exact hs.D.evo h1.evo
    · cases h
  | none =>
    simp only [enterV, Option.some.injEq, Prod.mk.injEq] at h
    obtain ⟨rfl, rfl, rfl, rfl⟩ := h
    cases hro
    have hn := newB_alloc w (.deferred (some [])) 0
    have ho : ObjRep E (w.alloc (.deferred (some []))) ⟨w.heap.size, 0, 0⟩ (.deferred false) := heap_alloc_new w _
    obtain ⟨h1, h2⟩ := hg_new hs.hg hn ho
    obtain ⟨E', h3, h4, B2, hB2, hb2⟩ := mkLoop _ _ _ _ s.nx ⟨w.heap.size, 0, 0⟩ h1 (hs.T.evo h2.evo) (Env.add_same _ _ _)
    refine ⟨_, _, _, E', run_enterLoop_outer fn a.tmps ps assign body, h2.trans h3, h4, ⟨B2, hB2, by rw [hb2]; simp⟩, ⟨⟨_, h3.evo.σ _ _ (Env.add_same _ _ _), rfl⟩, hs.D.evo (h2.trans h3).evo⟩⟩

theorem exOf_code {ro' : Option Nat} {Q : Exit → Act → World → Prop} {pend : Option Code} {e : Ex} (h : exOf pend = some e) (hq : Q e.to a w) :
    match (generalizing := false) pend with
    | none => Q .normal a w
    | some c => c.wpIn (FF ro') 0 P Q a w := by
  unfold exOf at h
  split at h
  · cases h; exact hq
  · cases h; exact wpIn_ret hq
  · cases h; exact wpIn_exit hq
  · cases h; exact wpIn_goto hq
  · cases h

theorem leave_ok {H H' : Heap} {nx n : Nat} {B : Blk} {e : Ex} {ro' : Option Nat} {Q : Exit → Act → World → Prop} (hg : HG w0 O E H nx w) (hB : E.σ n = some B) (h : leaveV n H = some (e, H'))
    (hq : ∀ w', HG w0 O E H' nx w' → Gro E w nx E w' nx → Q e.to a w') :
    ∃ jump w₄, (Instr.endLoop B.b).run P w = .ok jump w₄ ∧
      (match jump with
       | none => Q .normal a w₄
       | some c => c.wpIn (FF ro') 0 P Q a w₄) := by
  unfold leaveV at h
  split at h
  · cases h
  · rename_i st pend T nt ps as b d hnb hl
    split at h
    · rename_i e' he
      simp only [Option.some.injEq, Prod.mk.injEq] at h
      obtain ⟨rfl, rfl⟩ := h
      obtain ⟨B', D, r, hB', hD, hr, hst, hpe, _, _, _, _, _, _, hk⟩ := hg_loop hg hl
      rw [hB] at hB'; cases hB'
      obtain ⟨h1, h2⟩ := hk .exhausted pend
      have hbusy : r.state ≠ .busy := by
        rw [hst]; intro e; exact hnb e
      refine ⟨_, _, run_endLoop hr hbusy, ?_⟩
      rw [hpe]
      refine exOf_code he ?_
      exact hq _ h1 h2
    · cases h
  · cases h

set_option maxHeartbeats 1000000 in
theorem code_ok (hg : goodB P = true) (hr : SoundR P rec) {ro ro' : Option Nat} : ∀ (c : Code) (s : St) (e : Ex) (s' : St), evalCode P rec ro c s = .code e s' →
    ∀ (E : Env) (a : Act) (w : World) (Q : Exit → Act → World → Prop), RO E ro ro' → SI w0 O E s a w →
    (∀ a' w' E', Gro E w s.nx E' w' s'.nx → SI w0 O E' s' a' w' → Q e.to a' w') → c.wpIn (FF ro') 0 P Q a w := by
  intro c
  induction c with
  | skip =>
    intro s e s' h E a w Q hro hs hQ
    simp only [evalCode, Out.code.injEq] at h
    obtain ⟨rfl, rfl⟩ := h
    exact wpIn_skip (hQ a w E (.refl _ _ _) hs)
  | region id ops draw =>
    intro s e s' h E a w Q hro hs hQ
    cases draw with
    | false =>
      simp only [evalCode] at h
      refine wpIn_region (ops_ok hg hr ops.toList (List.range ops.size) ?_ s e s' h E a w hs hQ)
      apply List.ext_getElem?
      intro i
      simp only [List.getElem?_map]
      by_cases hi : i < ops.size
      · simp [hi]
      · simp [hi]
    | true =>
      simp only [evalCode] at h
      exact draw_ok hg hr h hs hQ
  | seq x y ihx ihy =>
    intro s e s' h E a w Q hro hs hQ
    simp only [evalCode] at h
    refine wpIn_seq ?_
    split at h
    · rename_i s1 h1
      refine ihx s .normal s1 h1 E a w _ hro hs (fun a' w' E' k1 k2 => ?_)
      exact ihy s1 e s' h E' a' w' Q (hro.mono k1.evo) k2 (fun a'' w'' E'' j1 j2 => hQ a'' w'' E'' (k1.trans j1) j2)
    · rename_i hne
      refine ihx s e s' h E a w _ hro hs (fun a' w' E' k1 k2 => ?_)
      cases e with
      | normal => exact absurd h (hne s')
      | exit i => exact hQ a' w' E' k1 k2
      | goto l => exact hQ a' w' E' k1 k2
      | ret => exact hQ a' w' E' k1 k2
  | cond c x y ihx ihy =>
    intro s e s' h E a w Q hro hs hQ
    simp only [evalCode] at h
    have hc := ev_rd (d := a.defers) hs.T c
    split at h
    · rename_i hcc
      rw [hcc] at hc
      generalize hy : (⟨a.tmps, a.defers⟩ : Act).eval c = y at hc
      cases hc
      exact wpIn_cond_true hy (ihx s e s' h E a w Q hro hs hQ)
    · rename_i hcc
      rw [hcc] at hc
      generalize hy : (⟨a.tmps, a.defers⟩ : Act).eval c = y at hc
      cases hc
      exact wpIn_cond_false hy (ihy s e s' h E a w Q hro hs hQ)
    · cases h
  | block id b ih =>
    intro s e s' h E a w Q hro hs hQ
    simp only [evalCode] at h
    refine wpIn_block ?_
    split at h
    · rename_i i s1 h1
      refine ih s (.exit i) s1 h1 E a w _ hro hs (fun a' w' E' k1 k2 => ?_)
      cases hb : Nat.beq i id with
      | true =>
        simp only [hb, cond_true, Out.code.injEq] at h
        obtain ⟨rfl, rfl⟩ := h
        have : i = id := by simpa using hb
        simp only [Ex.to, Exit.inBlock, this, if_true]
        exact hQ a' w' E' k1 k2
      | false =>
        simp only [hb, cond_false, Out.code.injEq] at h
        obtain ⟨rfl, rfl⟩ := h
        have : i ≠ id := by intro e; subst e; simp at hb
        simp only [Ex.to, Exit.inBlock, this, if_false]
        exact hQ a' w' E' k1 k2
    · rename_i hne
      refine ih s e s' h E a w _ hro hs (fun a' w' E' k1 k2 => ?_)
      cases e with
      | normal => exact hQ a' w' E' k1 k2
      | exit i => exact absurd h (hne i s')
      | goto l => exact hQ a' w' E' k1 k2
      | ret => exact hQ a' w' E' k1 k2
  | loop b ih =>
    intro s e s' h E a w Q hro hs hQ
    simp only [evalCode] at h
    have := hr (.loop ro b s)
    rw [h] at this
    refine loop_of_from (loopFrom_mono (this w0 O E w a ro' hro hs) (fun e a' w' ⟨h1, E', h2, h3⟩ => ?_))
    subst h1
    exact hQ a' w' E' h2 h3
  | exit i =>
    intro s e s' h E a w Q hro hs hQ
    simp only [evalCode, Out.code.injEq] at h
    obtain ⟨rfl, rfl⟩ := h
    exact wpIn_exit (hQ a w E (.refl _ _ _) hs)
  | label l =>
    intro s e s' h E a w Q hro hs hQ
    simp only [evalCode, Out.code.injEq] at h
    obtain ⟨rfl, rfl⟩ := h
    exact wpIn_label (hQ a w E (.refl _ _ _) hs)
  | goto l =>
    intro s e s' h E a w Q hro hs hQ
    simp only [evalCode, Out.code.injEq] at h
    obtain ⟨rfl, rfl⟩ := h
    exact wpIn_goto (hQ a w E (.refl _ _ _) hs)
  | ret =>
    intro s e s' h E a w Q hro hs hQ
    simp only [evalCode, Out.code.injEq] at h
    obtain ⟨rfl, rfl⟩ := h
    exact wpIn_ret (hQ a w E (.refl _ _ _) hs)
  | scope b ih =>
    intro s e s' h E a w Q hro hs hQ
    simp only [evalCode] at h
    refine wpIn_scope_straight ?_
    split at h
    · cases h
    · rename_i hne
      refine ih s e s' h E a w _ hro hs (fun a' w' E' k1 k2 => ?_)
      cases e with
      | normal => exact hQ a' w' E' k1 k2
      | exit i => exact hQ a' w' E' k1 k2
      | goto l => exact absurd h (hne l s')
      | ret => exact hQ a' w' E' k1 k2
  | rangeFunc f ps assign body _ _ =>
    intro s e s' h E a w Q hro hs hQ
    simp only [evalCode] at h
    split at h
    · rename_i g first captured n D H nx hf hen
      split at h
      · rename_i g' args hcv
        have hgg : g' = g ∧ args = first ++ [.yield n] ++ captured := by
          unfold callV at hcv
          split at hcv
          · cases hcv
          · split at hcv
            · simp only [Eff.enter.injEq] at hcv
              exact ⟨hcv.1.symm, hcv.2.symm⟩
            · cases hcv
        obtain ⟨rfl, rfl⟩ := hgg
        cases ho : rec (.call g' (first ++ [.yield n] ++ captured) H nx) with
        | ret u K m =>
          rw [ho] at h
          simp only at h
          split at h
          · rename_i e' K' hlv
            simp only [Out.code.injEq] at h
            obtain ⟨rfl, rfl⟩ := h
            refine wpIn_rangeFunc (fun fn _ => ?_)
            obtain ⟨l, mark, w1, E1, hrun, hgro, hhg, ⟨B, hB, hbl⟩, hD⟩ := enter_ok hs hro hen fn
            have hfv := (ev_rd (d := a.defers) hs.T f).evo hgro.evo
            rw [hf] at hfv
            generalize hy : (⟨a.tmps, a.defers⟩ : Act).eval f = y at hfv
            cases hfv with
            | func _ _ _ fs cs hfs hcs =>
              have hxs : Rds E1 w1 (first ++ [.yield n] ++ captured) (fs ++ [.func (.yield l) #[] #[]] ++ cs) :=
                (hfs.append (.cons _ _ _ _ (hbl ▸ .yield n B hB) .nil)).append hcs
              obtain ⟨xs, hinv, hxx⟩ := (by have := callV_ok (P := P) hg (f := g') (w := w1) hxs; rwa [hcv] at this : EffOk P E1 w1 _ (.enter g' (first ++ [.yield n] ++ captured)))
              refine ⟨l, mark, w1, { target := .fn (.func g') ⟨cs⟩, args := ⟨fs ++ [.func (.yield l) #[] #[]]⟩ }, w1, g', ⟨xs⟩, w1, hrun, ?_, fun _ _ => trivial, ?_, fun h => by simp [FF] at h, ?_⟩
              · have hy' : a.eval f = .func (.func g') ⟨fs⟩ ⟨cs⟩ := hy
                have hc' : a.eval (.const (.func (.yield l) #[] #[])) = .func (.yield l) #[] #[] := rfl
                simp [resolve, hy', hc', Deferred.ofValue]
              · simpa [invoke] using hinv
              · have hc := hr (.call g' (first ++ [.yield n] ++ captured) H nx)
                rw [ho] at hc
                refine CallsIn.mono (F := FF ro') (n := 0) (hc w0 O E1 w1 xs hhg hxx) (fun en w3 hR => ?_)
                cases en with
                | returned x =>
                  obtain ⟨E3, h1, h2, h3⟩ := hR
                  refine leave_ok (Q := Q) h2 (h1.evo.σ _ _ hB) hlv (fun w4 k1 k2 => ?_) |>.imp fun jump ⟨w4, hj1, hj2⟩ => ⟨w4, hbl ▸ hj1, hj2⟩
                  refine hQ _ w4 E3 ((hgro.trans h1).trans k2) ⟨hs.T.evo ((hgro.trans h1).trans k2).evo, hs.nt, ?_, k1⟩
                  exact hD.evo (h1.trans k2).evo
                | panicked c => exact hR.elim
                | outgrown => exact hR.elim
          · cases h
        | code e s => rw [ho] at h; cases h
        | fail m => rw [ho] at h; cases h
      · cases h
    · cases h
  | refuse why =>
    intro s e s' h E a w Q hro hs hQ
    simp [evalCode] at h

theorem initT_rel : ∀ (args : List V) (xs : List Value) (i : Nat) (T : Tr V) (tmps : Array Value), Rds E w args xs → (∀ j x, xs[j]? = some x → tmps[i + j]? = some x) → TRel E w T tmps → TRel E w (initT args i T) tmps
  | [], _, _, _, _, _, _, hT => hT
  | v :: args, xs, i, T, tmps, hx, ht, hT => by
    cases hx with
    | cons _ x _ xs hh htl =>
      refine initT_rel args xs (i + 1) _ tmps htl (fun j y hy => ?_) (fun k u hu => ?_)
      · have := ht (j + 1) y (by simpa using hy)
        rw [← this]; congr 1; omega
      · rw [Tr.get_set] at hu
        by_cases hk : k = i
        · subst hk
          simp at hu; subst hu
          exact ⟨x, by simpa using ht 0 x rfl, hh⟩
        · rw [if_neg hk] at hu
          exact hT k u hu

theorem trel_nil (tmps : Array Value) : TRel E w (.nil) tmps := fun i v h => by simp [Tr.get_nil] at h

def resG (tmps : Array Value) : ResultVar → Sem Value
  | .tmp t => pure (tmps.getD t undef)
  | .cell a t => do loadVar t (← asAddr (tmps.getD a undef))
theorem results_eq (fn : Func) (tmps : Array Value) : results fn tmps = (do
    let vs ← fn.results.mapM (resG tmps)
    pure (if h : vs.size = 1 then vs[0] else .tuple vs)) := rfl
theorem resultV_run {H : Heap} {T : Tr V} {tmps : Array Value} {r : ResultVar} {v : V} (hH : HInv E H.get w) (hT : TRel E w T tmps) (h : resultV P H T r = some v) :
    ∃ x, (resG tmps r).run P w = .ok x w ∧ Rd E w v x := by
  unfold resG
  cases r with
  | tmp t =>
    simp only [resultV] at h
    obtain ⟨x, hx, hr⟩ := hT t v h
    exact ⟨x, by simp [Array.getD_eq_getD_getElem?, hx], hr⟩
  | cell c t =>
    simp only [resultV] at h
    split at h
    · rename_i u hu
      obtain ⟨x, hx, hr⟩ := hT c u hu
      unfold loadV at h
      split at h
      · rename_i n off
        split at h
        · rename_i cs et ho
          cases hr with
          | ptr _ _ B hB =>
            obtain ⟨B', hB', cc, lo, hi, vs, h1, h2, h3, h4, h5, h6⟩ := hH.obj n _ ho
            rw [hB] at hB'; cases hB'
            have hl : Lies w B.b B.base vs := fun i v hv => by
              rw [cell_of_row w B.b _ cc et (lo, hi) h1]
              exact h6 i v hv
            obtain ⟨y, hy, hry⟩ := loadVar_run (P := P) h h4 hl
            exact ⟨y, by simp [Array.getD_eq_getD_getElem?, hx, asAddr, hy], hry⟩
        · cases h
      · rename_i cs off
        cases hr with
        | vptr _ _ b o vs hI hc hw =>
          obtain ⟨y, hy, hry⟩ := loadVar_run (P := P) h hc hw
          exact ⟨y, by simp [Array.getD_eq_getD_getElem?, hx, asAddr, hy], hry⟩
      · cases h
    · cases h

theorem resultsV_run {H : Heap} {T : Tr V} {tmps : Array Value} (hH : HInv E H.get w) (hT : TRel E w T tmps) : ∀ (rs : List ResultVar) (vs : List V), resultsV P H T rs = some vs →
    ∃ xs, (rs.mapM (resG tmps)).run P w = .ok xs w ∧ Rds E w vs xs
  | [], vs, h => by
    simp [resultsV] at h; subst h
    exact ⟨[], by simp, .nil⟩
  | r :: rs, vs, h => by
    simp only [resultsV] at h
    split at h
    · rename_i v vs' h1 h2
      simp only [Option.some.injEq] at h; subst h
      obtain ⟨x, hx, hr⟩ := resultV_run hH hT h1
      obtain ⟨xs, hxs, hrs⟩ := resultsV_run hH hT rs vs' h2
      refine ⟨x :: xs, ?_, .cons _ _ _ _ hr hrs⟩
      rw [List.mapM_cons]
      simp only [Sem.run_bind, hx, Result.andThen_ok, hxs, Sem.run_pure]
    · cases h

theorem results_ok {H : Heap} {T : Tr V} {tmps : Array Value} {fn : Func} {nx : Nat} {v : V} {H' : Heap} {nx' : Nat} (hH : HInv E H.get w) (hT : TRel E w T tmps) (h : leave P fn T nx [] H = .ret v H' nx') :
    ∃ x, (results fn tmps).run P w = .ok x w ∧ Rd E w v x ∧ H' = H ∧ nx' = nx := by
  simp only [leave] at h
  have key : ∀ vs, resultsV P H T fn.results.toList = some vs → ∃ xs : List Value, (results fn tmps).run P w = .ok (if h : xs.length = 1 then xs[0] else .tuple ⟨xs⟩) w ∧ Rds E w vs xs := by
    intro vs hvs
    obtain ⟨xs, hxs, hrs⟩ := resultsV_run hH hT _ _ hvs
    refine ⟨xs, ?_, hrs⟩
    rw [results_eq, Array.mapM_eq_mapM_toList]
    simp only [Sem.run_bind, Sem.run_map, hxs]
    simp
  split at h
  · rename_i u hu
    obtain ⟨xs, h1, h2⟩ := key _ hu
    simp only [Out.ret.injEq] at h
    obtain ⟨rfl, rfl, rfl⟩ := h
    cases h2 with
    | cons _ x _ xs hh ht =>
      cases ht
      exact ⟨x, by simpa using h1, hh, rfl, rfl⟩
  · rename_i vs hne hu
    obtain ⟨xs, h1, h2⟩ := key _ hu
    simp only [Out.ret.injEq] at h
    obtain ⟨rfl, rfl, rfl⟩ := h
    have hl : xs.length ≠ 1 := by
      rw [h2.length]; intro e
      match vs, e with
      | [u], _ => exact hne u rfl
    exact ⟨.tuple ⟨xs⟩, by simpa [hl] using h1, .tuple _ _ h2, rfl, rfl⟩
  · cases h

theorem leaves_ok {fn : Func} {T : Tr V} {tmps : Array Value} {nx nx' : Nat} {v : V} {H' : Heap} {R : Ending → World → Prop} : ∀ (ds : List AD) (es : List Deferred) (H : Heap) (E : Env) (w : World), DRel E ds es → HG w0 O E H nx w → TRel E w T tmps →
    leave P fn T nx ds H = .ret v H' nx' → (∀ x w', HG w0 O E H' nx' w' → Gro E w nx E w' nx' → Rd E w' v x → R (.returned x) w') → LeavesInM (FF none) 0 P fn tmps R es .returning w
  | [], [], H, E, w, _, hg, hT, h, hR => by
    obtain ⟨x, h1, h2, rfl, rfl⟩ := results_ok hg.inv hT h
    exact ⟨x, h1, hR x w hg (.refl _ _ _) h2⟩
  | .mark n :: ds, d :: es, H, E, w, ⟨⟨B, hB, ht⟩, hd⟩, hg, hT, h, hR => by
    simp only [leave] at h
    split at h
    · rename_i hn
      refine ⟨by simp, .inl ?_⟩
      obtain ⟨B', hB', hob⟩ := hg.inv.obj n _ hn
      rw [hB] at hB'; cases hB'
      have hob' : w.heap[B.b]? = some (.deferred (some [])) := hob
      have hc := chg_putObj w B.b (.deferred none)
      obtain ⟨k1, k2⟩ := hg_upd hg hn hB hc (o := .deferred true) (World.putObj_heap_same (Array.getElem?_eq_some_iff.1 hob').1)
      exact ⟨B.b, _, ht, run_takeDeferred hob', leaves_ok ds es _ E _ hd k1 (hT.evo k2.evo) h (fun x w' j1 j2 j3 => hR x w' j1 (k2.trans j2) j3)⟩
    · cases h

theorem tmpsOf_rel {nt : Nat} : ∀ (ps : List Nat) (args : List V) (xs : List Value) (T T' : Tr V) (tmps : Array Value), tmpsOf nt T ps args = some T' → Rds E w args xs → TRel E w T tmps → tmps.size = nt →
    xs.length = ps.length ∧ TRel E w T' ((ps.zip xs).foldl (fun tmps (t, a) => tmps.setIfInBounds t a) tmps) ∧ ((ps.zip xs).foldl (fun tmps (t, a) => tmps.setIfInBounds t a) tmps).size = nt
  | [], [], xs, T, T', tmps, h, hx, hT, hn => by
    cases hx
    simp [tmpsOf] at h; subst h
    exact ⟨rfl, hT, hn⟩
  | p :: ps, v :: args, xs, T, T', tmps, h, hx, hT, hn => by
    simp only [tmpsOf] at h
    cases hb : Nat.blt p nt with
    | false => simp [hb] at h
    | true =>
      simp only [hb, cond_true] at h
      have hp : p < nt := by simpa [Nat.blt_eq] using hb
      cases hx with
      | cons _ x _ xs hh ht =>
        obtain ⟨h1, h2, h3⟩ := tmpsOf_rel ps args xs _ T' (tmps.setIfInBounds p x) h ht (trel_set hT (by omega) hh) (by simpa using hn)
        exact ⟨by simp [h1], by simpa using h2, by simpa using h3⟩
  | [], _ :: _, _, _, _, _, h, _, _, _ => by simp [tmpsOf] at h
  | _ :: _, [], _, _, _, _, h, _, _, _ => by simp [tmpsOf] at h

theorem call_ok (hg : goodB P = true) (hr : SoundR P rec) (f : FuncId) (args : List V) (H : Heap) (nx : Nat) : SoundT P (.call f args H nx) (stepTask P rec (.call f args H nx)) := by
  cases ho : stepTask P rec (.call f args H nx) with
  | code e s => trivial
  | fail m => trivial
  | ret v H' nx' =>
    intro w0 O E w xs hh hxs
    simp only [stepTask] at ho
    split at ho
    · rename_i fn hf
      split at ho
      · rename_i c hb
        have hlen := hxs.length
        refine callsIn_of_wp_marks hf hb trivial ?_
        have hs : SI w0 O E { T := initT args 0 .nil, nt := args.length + (fn.ntmps - args.length), D := [], H, nx } { tmps := (⟨xs⟩ : Array Value) ++ Array.replicate (fn.ntmps - (⟨xs⟩ : Array Value).size) undef, defers := [] } w := by
          refine ⟨initT_rel args xs 0 .nil _ hxs (fun j x hx => ?_) (trel_nil _), by simp [hlen], trivial, hh⟩
          have hj : j < xs.length := (List.getElem?_eq_some_iff.1 hx).1
          have hlt : j < (⟨xs⟩ : Array Value).size := hj
          rw [Nat.zero_add, Array.getElem?_append_left hlt]
          simpa using hx
        have fin : ∀ (s : St) (e : Ex), (e = .normal ∨ e = .ret) → evalCode P rec none c { T := initT args 0 .nil, nt := args.length + (fn.ntmps - args.length), D := [], H, nx } = .code e s → leave P fn s.T s.nx s.D s.H = .ret v H' nx' →
            c.wpIn (FF none) 0 P (bodyPostM (FF none) 0 P fn (RPost w0 O E w nx v H' nx')) { tmps := (⟨xs⟩ : Array Value) ++ Array.replicate (fn.ntmps - (⟨xs⟩ : Array Value).size) undef, defers := [] } w := by
          intro s e he h1 h2
          refine code_ok hg hr c _ e s h1 E _ w _ (ro := none) (ro' := none) rfl hs (fun a' w' E' k1 k2 => ?_)
          have := leaves_ok (R := RPost w0 O E w nx v H' nx') s.D a'.defers s.H E' w' k2.D k2.hg k2.T h2 (fun x w'' j1 j2 j3 => ⟨E', k1.trans j2, j1, j3⟩)
          rcases he with rfl | rfl
          · exact this
          · exact this
        split at ho
        · rename_i s h1; exact fin s .normal (.inl rfl) h1 ho
        · rename_i s h1; exact fin s .ret (.inr rfl) h1 ho
        · cases ho
        · cases ho
        · cases ho
      · cases ho
    · cases ho

theorem loopT_ok (hg : goodB P = true) (hr : SoundR P rec) (ro : Option Nat) (b : Code) (s : St) : SoundT P (.loop ro b s) (stepTask P rec (.loop ro b s)) := by
  cases ho : stepTask P rec (.loop ro b s) with
  | ret v H nx => trivial
  | fail m => trivial
  | code e s' =>
    intro w0 O E w a ro' hro hs
    simp only [stepTask] at ho
    refine loopFrom_step ?_
    split at ho
    · rename_i s1 h1
      refine code_ok hg hr b s .normal s1 h1 E a w _ hro hs (fun a' w' E' k1 k2 => ?_)
      have := hr (.loop ro b s1)
      rw [ho] at this
      exact loopFrom_mono (this w0 O E' w' a' ro' (hro.mono k1.evo) k2) (fun en a'' w'' ⟨j1, E'', j2, j3⟩ => ⟨j1, E'', k1.trans j2, j3⟩)
    · rename_i hne
      refine code_ok hg hr b s e s' ho E a w _ hro hs (fun a' w' E' k1 k2 => ?_)
      cases e with
      | normal => exact absurd ho (hne s')
      | exit i => exact ⟨rfl, E', k1, k2⟩
      | goto l => exact ⟨rfl, E', k1, k2⟩
      | ret => exact ⟨rfl, E', k1, k2⟩

theorem roundT_ok (hg : goodB P = true) (hr : SoundR P rec) (n : Nat) (args : List V) (H : Heap) (nx : Nat) : SoundT P (.round n args H nx) (stepTask P rec (.round n args H nx)) := by
  cases ho : stepTask P rec (.round n args H nx) with
  | code e s => trivial
  | fail m => trivial
  | ret v H' nx' =>
    intro w0 O E w xs B hh hB hxs
    simp only [stepTask] at ho
    split at ho
    · rename_i pend0 T nt ps as b d0 hl
      split at ho
      · rename_i T' hT'
        obtain ⟨B', D, r, hB', hD, hrr, hst, hpe, hT, hnt, hps, has, hbo, hde, hk⟩ := hg_loop hh hl
        rw [hB] at hB'; cases hB'
        obtain ⟨hlen, hT2, hnt2⟩ := tmpsOf_rel ps args xs T T' r.tmps hT' hxs hT hnt
        refine ⟨_, _, _, _, run_yield hrr (by rw [hps]; simpa using hlen), ?_⟩
        refine roundIn_of_wpIn (F := FF none) trivial ?_
        rw [has, hbo]
        have htm : ((r.params.zip (⟨xs⟩ : Array Value)).foldl (fun tmps (t, a) => tmps.setIfInBounds t a) r.tmps) = ((ps.zip xs).foldl (fun tmps (t, a) => tmps.setIfInBounds t a) r.tmps) := by
          rw [hps, ← Array.foldl_toList]
          simp
        rw [htm]
        have hRO : RO E (some n) (some B.b) := ⟨B, hB, rfl⟩
        split at ho
        · rename_i s1 h1
          refine code_ok hg hr as _ .normal s1 h1 E _ w _ (ro' := some B.b) hRO ⟨hT2, hnt2, trivial, hh⟩ (fun a1 w1 E1 k1 k2 => ?_)
          split at ho
          · rename_i pend T2 nt2 ps2 as2 b' d hl1
            obtain ⟨B1, D1, r1, hB1, hD1, hrr1, hst1, hpe1, _, _, _, _, _, _, hk1⟩ := hg_loop k2.hg hl1
            have := k1.evo.σ _ _ hB
            rw [this] at hB1; cases hB1
            obtain ⟨j1, j2⟩ := hk1 .busy pend
            refine ⟨_, run_beginRound hrr1 hst1, ?_⟩
            rw [← hpe1] at j1 j2
            split at ho
            · rename_i e s2 h2
              refine code_ok hg hr b _ e s2 h2 E1 a1 _ _ (ro' := some B.b) ⟨B, this, rfl⟩ ⟨k2.T.evo j2.evo, k2.nt, k2.D.evo j2.evo, by rw [← hpe1]; exact j1⟩ (fun a3 w3 E3 m1 m2 => ?_)
              split at ho
              · rename_i st3 pe3 T3 nt3 ps3 as3 b3 d3 hl3
                obtain ⟨B3, D3, r3, hB3, hD3, hrr3, _, _, _, _, _, _, _, _, hk3⟩ := hg_loop m2.hg hl3
                have hb3 := m1.evo.σ _ _ this
                rw [hb3] at hB3; cases hB3
                simp only [Out.ret.injEq] at ho
                obtain ⟨rfl, rfl, rfl⟩ := ho
                obtain ⟨q1, q2⟩ := hk3 (if (jumpOf e).isNone then .ready else .done) (jumpOf e)
                have post : RPost w0 O E w nx (.bool (jumpOf e).isNone) (s2.H.set n (.loop (bif (jumpOf e).isNone then .ready else .done) (jumpOf e) T3 nt3 ps3 as3 b3 d3)) s2.nx
                    (.returned (.bool (jumpOf e).isNone)) (w3.putObj B.b (.loop { r3 with state := if (jumpOf e).isNone then .ready else .done, pending := jumpOf e })) := by
                  refine ⟨E3, ((k1.trans j2).trans m1).trans q2, ?_, .bool _⟩
                  rw [Bool.cond_eq_ite]
                  exact q1
                have hend := run_endRound (P := P) (jumpOf e) hrr3
                cases e with
                | normal => exact ⟨_, _, hend, post⟩
                | exit i => exact ⟨_, _, hend, post⟩
                | goto l => exact ⟨_, _, hend, post⟩
                | ret => exact ⟨_, _, hend, post⟩
              · cases ho
            · cases ho
            · cases ho
          · cases ho
        · cases ho
        · cases ho
        · cases ho
      · cases ho
    · cases ho

theorem step_ok (hg : goodB P = true) (hr : SoundR P rec) : SoundR P (stepTask P rec) := fun t => by
  cases t with
  | call f args H nx => exact call_ok hg hr f args H nx
  | loop ro b s => exact loopT_ok hg hr ro b s
  | round n args H nx => exact roundT_ok hg hr n args H nx
theorem eval_ok (hg : goodB P = true) : ∀ n, SoundR P (eval P n)
  | 0 => fun t => by cases t <;> trivial
  | n + 1 => step_ok hg (eval_ok hg n)
end
end Go.Abs
