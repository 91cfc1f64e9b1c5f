/- The abstract evaluator: soundness of single operations: iterators over maps, append, make. -/
import Derived.Test.YteapmdjkcpjbmaaGreatAbsK
namespace Go.Abs
section
variable {P : Program} {E : Env} {w w' : World} {H : Heap}

/-- The entries that are left to an iterator. -/
theorem REnt.filter {p : V × V × Nat → Bool} {q : MapEntry → Bool} (hpq : ∀ k v b e, e.born = b → p (k, v, b) = q e) : ∀ (l : List (V × V × Nat)) (es : List MapEntry), REnt E w l es → REnt E w (l.filter p) (es.filter q)
  | [], es, hl => by cases es with
    | nil => trivial
    | cons _ _ => exact hl.elim
  | (k, v, b) :: l, es, hl => by
    cases es with
    | nil => exact hl.elim
    | cons e es =>
      obtain ⟨h1, h2, h3, h4⟩ := hl
      have ih := REnt.filter hpq l es h4
      have := hpq k v b e h3
      simp only [List.filter_cons, this]
      split
      · exact ⟨h1, h2, h3, ih⟩
      · exact ih
theorem REnt.all {p : V × V × Nat → Bool} {q : MapEntry → Bool} (hpq : ∀ k v b e, e.born = b → p (k, v, b) = q e) : ∀ (l : List (V × V × Nat)) (es : List MapEntry), REnt E w l es → l.all p = es.all q
  | [], es, hl => by cases es with
    | nil => rfl
    | cons _ _ => exact hl.elim
  | (k, v, b) :: l, es, hl => by
    cases es with
    | nil => exact hl.elim
    | cons e es => simp only [List.all_cons, hpq k v b e hl.2.2.1, REnt.all hpq l es hl.2.2.2]
theorem REnt.find {p : V × V × Nat → Bool} {q : MapEntry → Bool} (hpq : ∀ k v b e, e.born = b → p (k, v, b) = q e) : ∀ (l : List (V × V × Nat)) (es : List MapEntry), REnt E w l es → ∀ {k v b}, l.find? p = some (k, v, b) →
    ∃ e, es.find? q = some e ∧ Rd E w k e.key ∧ Rd E w v e.val
  | [], es, hl, k, v, b, h => by simp at h
  | (k', v', b') :: l, es, hl, k, v, b, h => by
    cases es with
    | nil => exact hl.elim
    | cons e es =>
      obtain ⟨h1, h2, h3, h4⟩ := hl
      have e1 := hpq k' v' b' e h3
      simp only [List.find?_cons, e1] at h ⊢
      split at h
      · simp at h; obtain ⟨rfl, rfl, rfl⟩ := h; exact ⟨e, by simp_all, h1, h2⟩
      · obtain ⟨e', he', hr⟩ := REnt.find hpq l es h4 h
        exact ⟨e', by simp_all, hr⟩

theorem next_map_nil_ok {n since st : Nat} {seen : List Nat} {ty : TypeId} {x : Value} (hH : HInv E H.get w) (hr : Rd E w (.ptr n 0) x) (ho : H.get n = some (.mapIter none since seen st)) :
    EffOk P E w ((do let y ← Instr.next x false ty; pure (Next.value y) : Sem Next).run P w) (.val (.tuple [.bool false])) := by
  obtain ⟨B, hB, hb0, h1⟩ := hH.obj n _ ho
  cases hr with
  | ptr _ _ B' hB' =>
    have e0 : B' = B := by rw [hB] at hB'; exact (Option.some.inj hB').symm
    subst e0
    have hg := run_getObj (P := P) h1 (by simp)
    refine ⟨_, .tuple #[.bool false], ?_, .mk _, .tuple _ [.bool false] (.cons _ _ _ _ (.bool _) .nil)⟩
    simp only [Instr.next, hb0, Nat.add_zero, Sem.run_bind, hg, Result.andThen_ok, Sem.run_pure]

theorem run_forced1 (n : Nat) (hn : n ≤ 1) (w : World) : (choose (.mapNext n)).run P w = .ok 0 w := by
  simp [Question.forced, hn]
theorem next_map_ok {n m since st cl : Nat} {seen : List Nat} {ty : TypeId} {x : Value} {es : List (V × V × Nat)} (hH : HInv E H.get w) (hr : Rd E w (.ptr n 0) x) (ho : H.get n = some (.mapIter (some m) since seen st))
    (hm : H.get m = some (.map es cl)) (hs : since ≤ st) (hall : es.all (fun e => Nat.blt e.2.2 since) = true) :
    EffOk P E w ((do let y ← Instr.next x false ty; pure (Next.value y) : Sem Next).run P w)
      (match es.filter (fun e => !(seen.any (Nat.beq e.2.2))) with
        | [] => .val (.tuple [.bool false])
        | [(k, v, b)] => .upd n (.mapIter (some m) since (b :: seen) cl) (.tuple [.bool true, k, v])
        | _ => .stop) := by
  obtain ⟨B, hB, C, hC, hb0, h1⟩ := hH.obj n _ ho
  obtain ⟨C', hC', es', h2, h3⟩ := hH.obj m _ hm
  have e1 : C' = C := by rw [hC] at hC'; exact (Option.some.inj hC').symm
  subst e1
  cases hr with
  | ptr _ _ B' hB' =>
    have e0 : B' = B := by rw [hB] at hB'; exact (Option.some.inj hB').symm
    subst e0
    have hg := run_getObj (P := P) h1 (by simp)
    have hg2 := run_getObj (P := P) h2 (by simp)
    obtain ⟨esl⟩ := es'
    simp only at h3
    have hall' : esl.all (fun e => decide (e.born < since)) = true := by
      rw [← REnt.all (p := fun e => Nat.blt e.2.2 since) (fun k v b e he => by rw [he, Bool.eq_iff_iff]; simp) es esl h3]; exact hall
    have hlast : ¬ ((!(⟨seen.reverse⟩ : Array Nat).isEmpty && !(⟨esl⟩ : Array MapEntry).isEmpty && (⟨esl⟩ : Array MapEntry).all fun x => decide (x.born ≥ st)) = true) := by
      intro hh
      simp only [Bool.and_eq_true] at hh
      cases esl with
      | nil => simp at hh
      | cons e esl =>
        simp only [List.all_cons, Bool.and_eq_true, decide_eq_true_eq] at hall'
        have h9 := hh.2
        simp at h9
        omega
    have hold : ((⟨esl⟩ : Array MapEntry).filter (fun e => !(⟨seen.reverse⟩ : Array Nat).contains e.born)).filter (fun x => decide (x.born < since)) = (⟨esl⟩ : Array MapEntry).filter (fun e => !(⟨seen.reverse⟩ : Array Nat).contains e.born) := by
      simp only [List.all_eq_true, decide_eq_true_eq] at hall'
      rw [Array.filter_eq_self]
      intro e he
      simp only [Array.mem_filter] at he
      have := hall' e (by simpa using he.1)
      simpa using this
    have hnew : ((⟨esl⟩ : Array MapEntry).filter (fun e => !(⟨seen.reverse⟩ : Array Nat).contains e.born)).filter (fun x => decide (x.born ≥ since)) = #[] := by
      simp only [List.all_eq_true, decide_eq_true_eq] at hall'
      rw [Array.filter_eq_empty_iff]
      intro e he
      simp only [Array.mem_filter] at he
      have := hall' e (by simpa using he.1)
      simp; omega
    have hleft : ((⟨esl⟩ : Array MapEntry).filter (fun e => !(⟨seen.reverse⟩ : Array Nat).contains e.born)) = ⟨esl.filter (fun e => !(seen.any (Nat.beq e.born)))⟩ := by
      have hb : ∀ e : MapEntry, (!(⟨seen.reverse⟩ : Array Nat).contains e.born) = !(seen.any (Nat.beq e.born)) := by
        intro e
        congr 1
        rw [Bool.eq_iff_iff]
        simp
      simp only [hb]
      rw [show (⟨esl⟩ : Array MapEntry) = esl.toArray from rfl, List.filter_toArray]
    have hrel := REnt.filter (E := E) (w := w) (p := fun e => !(seen.any (Nat.beq e.2.2))) (q := fun e => !(seen.any (Nat.beq e.born))) (fun k v b e he => by simp [he]) es esl h3
    generalize hq : esl.filter (fun e => !(seen.any (Nat.beq e.born))) = left at hrel hleft
    generalize hp : es.filter (fun e => !(seen.any (Nat.beq e.2.2))) = labs at hrel
    have hI := hH.notI n _ B' ho hB
    have hstart : (Instr.next (.pointer (some ⟨B'.b, 0 + 0, none⟩)) false ty).run P w = (do
        let candidates := (if (⟨left⟩ : Array MapEntry).isEmpty then #[none] else #[]) ++ (⟨left⟩ : Array MapEntry).map some
        match candidates[← choose (.mapNext candidates.size)]? with
        | some (some e) =>
          setObj B'.b (.mapIter (some C'.b) since ((⟨seen.reverse⟩ : Array Nat).push e.born) cl)
          pure (.tuple #[.bool true, e.key, e.val])
        | some none => pure (.tuple #[.bool false])
        | none => stuck "Next: no such candidate" : Sem Value).run P w := by
      simp only [Instr.next, Nat.add_zero, Sem.run_bind, hg, Result.andThen_ok, hg2, if_neg hlast, hleft, Sem.run_ite] at hold hnew ⊢
      simp only [hold, hnew, Array.append_empty]
      rfl
    rw [hb0]
    cases labs with
    | nil =>
      cases left with
      | cons _ _ => exact hrel.elim
      | nil =>
        refine ⟨_, .tuple #[.bool false], ?_, .mk _, .tuple _ [.bool false] (.cons _ _ _ _ (.bool _) .nil)⟩
        simp only [Sem.run_bind, hstart]
        simp [Question.forced]
    | cons p labs =>
      obtain ⟨k, v, b⟩ := p
      cases left with
      | nil => exact hrel.elim
      | cons e left =>
        obtain ⟨r1, r2, r3, r4⟩ := hrel
        cases labs with
        | cons q labs => trivial
        | nil =>
          cases left with
          | cons _ _ => exact r4.elim
          | nil =>
            have hs' := run_setObj (P := P) (o' := .mapIter (some C'.b) since ((⟨seen.reverse⟩ : Array Nat).push e.born) cl) h1 (by simp)
            refine ⟨_, .tuple #[.bool true, e.key, e.val], _, B', ?_, .mk _, hB, chg_setObj w B'.b (.mapIter (some C'.b) since ((⟨seen.reverse⟩ : Array Nat).push e.born) cl), ⟨C', hC, hb0, ?_⟩,
              .tuple _ [.bool true, e.key, e.val] (.cons _ _ _ _ (.bool _) (.cons _ _ _ _ r1 (.cons _ _ _ _ r2 .nil)))⟩
            · simp only [Sem.run_bind, hstart]
              simp at hs'
              simp [Question.forced, hs']
            · rw [setObj_at h1, ← r3]
              simp
theorem entry_ok {n m since st cl b0 : Nat} {seen : List Nat} {x : Value} {es : List (V × V × Nat)} {k v : V} {b : Nat} (hH : HInv E H.get w) (hr : Rd E w (.ptr n 0) x) (ho : H.get n = some (.mapIter (some m) since (b0 :: seen) st))
    (hm : H.get m = some (.map es cl)) (hs : cl = st) (hf : es.find? (fun e => Nat.beq e.2.2 b0) = some (k, v, b)) :
    EffOk P E w ((do let y ← Instr.entry x; pure (Next.value y) : Sem Next).run P w) (.val (.tuple [k, v])) := by
  obtain ⟨B, hB, C, hC, hb0, h1⟩ := hH.obj n _ ho
  obtain ⟨C', hC', es', h2, h3⟩ := hH.obj m _ hm
  have e1 : C' = C := by rw [hC] at hC'; exact (Option.some.inj hC').symm
  subst e1
  cases hr with
  | ptr _ _ B' hB' =>
    have e0 : B' = B := by rw [hB] at hB'; exact (Option.some.inj hB').symm
    subst e0
    have hg := run_getObj (P := P) h1 (by simp)
    have hg2 := run_getObj (P := P) h2 (by simp)
    obtain ⟨e, he, hk, hv⟩ := REnt.find (q := fun e => e.born == b0) (fun k v b e he => by rw [he, Bool.eq_iff_iff]; simp) es es'.toList h3 hf
    have he' : es'.find? (fun e => e.born == b0) = some e := by obtain ⟨l'⟩ := es'; simpa using he
    refine ⟨_, .tuple #[e.key, e.val], ?_, .mk _, .tuple _ [e.key, e.val] (.cons _ _ _ _ hk (.cons _ _ _ _ hv .nil))⟩
    have hback : (⟨(b0 :: seen).reverse⟩ : Array Nat).back? = some b0 := by simp
    have hst : (cl != st) = false := by simp [hs]
    simp only [Instr.entry, hb0, Nat.add_zero, Sem.run_bind, hg, Result.andThen_ok, hback, hg2, hst, Bool.false_eq_true, if_false, he', Sem.run_pure]

/-! ### Append, make -/
theorem append_ok {t ty e : TypeId} {i : TypeInfo} {s x z : V} {zc a c : List V} {n m : Nat} {sx xx : Value} (hH : HInv E H.get w) (hu : P.underlying t = some (.slice e)) (hi : P.info? e = some i) (hz : zeroV P e = some z)
    (hzc : z.cells? = some zc) (hzl : zc.length = i.size) (hs0 : 0 < i.size) (hs : Rd E w s sx) (hx : Rd E w x xx) (hrs : rowOf H s = some (a, n)) (hrx : rowOf H x = some (c, m)) (hm : m ≠ 0)
    (hcl : c.length = m * i.size) (hal : a.length = n * i.size) (hby : (n + m) * i.bytes ≤ roomN) (hn : n + m ≤ roomN) (kill : Option Nat)
    (hk : (s = .nilslice ∧ kill = none) ∨ ∃ k off ds, s = .slice k off n i.size ∧ kill = some k ∧ H.get k = some (.cells ds e)) :
    EffOk P E w ((do let y ← Builtin.append_ #[t, t] ty #[sx, xx]; pure (Next.value y) : Sem Next).run P w) (.app kill (.cells (a ++ c) e) (n + m) i.size) := by
  obtain ⟨vs, hvs, hx'⟩ := rowOf_run hH hx hrx
  rcases hx' with ⟨_, _, h0⟩ | ⟨bx, ox, capx, rfl, hlx⟩
  · exact absurd h0 hm
  obtain ⟨zx, hzx, hzr⟩ := zeroV_run (E := E) hz w
  have hiz : i.zero = some zx := by
    simp [zeroValue, typeInfo, hi] at hzx
    cases hz0 : i.zero with
    | none => simp [hz0] at hzx
    | some q => simp [hz0] at hzx; rw [hzx]
  have hzs : zx.cells.size = i.size := by have := (hzr.cells hzc).length; simp at this; omega
  have hvl : vs.length = m * i.size := by rw [hvs.length, hcl]
  have hcells : ∀ j v, vs[j]? = some v → w.cell? ((⟨bx, ox, none⟩ : Addr).add j) = some v := fun j v hv => by rw [add_addr]; exact hlx j v hv
  have hmx : n + m ≤ maxLen := by simp only [roomN] at hn; simp only [maxLen]; omega
  have hroom : (n + m) * i.bytes ≤ 140737488355328 := hby
  have grown : ∀ (us : List Value) (old : Nat) (hus : Rcs E w a us) (hold : old < n + m), ∀ r, r = Result.ok (.slice (some ⟨w.heap.size, 0, none⟩) (n + m) (grownCap w (n + m) old e))
      (w.drew.alloc (.cells (us.toArray ++ vs.toArray ++ Builtin.zeroCells zx.cells (grownCap w (n + m) old e - (n + m))) e)) →
      EffOk P E w (r.andThen fun y w' => .ok (Next.value y) w') (.app kill (.cells (a ++ c) e) (n + m) i.size) := by
    intro us old hus hold r hr
    subst hr
    have hge := grownCap_ge w (n + m) old e
    have hcm := grownCap_le_maxLen w (n + m) old e hmx
    have hsz : (us.toArray ++ vs.toArray ++ Builtin.zeroCells zx.cells (grownCap w (n + m) old e - (n + m))).size = grownCap w (n + m) old e * i.size := by
      simp only [Array.size_append, List.size_toArray, size_zeroCells, hzs, hus.length, hal, hvl, ← Nat.add_mul]
      congr 1
      omega
    refine ⟨_, _, ⟨w.heap.size, 0, grownCap w (n + m) old e * i.size⟩, rfl, .inr (newB_draw w _ _), ?_, ⟨_, rfl, hge, hcm, Nat.le_refl _⟩⟩
    refine rep_new (vs := us ++ vs) hH.Ilt (newB_draw w _ _) (heap_alloc_new w.drew _) rfl hsz.symm (hus.append hvs) (fun j v hv => ?_) ?_
    · rw [← Array.getElem?_toList]
      simp only [Array.toList_append]
      have hlt : j < (us ++ vs).length := (List.getElem?_eq_some_iff.1 hv).1
      rw [List.getElem?_append_left (by simpa using hlt)]
      exact hv
    · rw [hsz, List.length_append, hal, hcl, ← Nat.add_mul]
      exact Nat.mul_le_mul_right _ hge
  simp only [Sem.run_bind]
  rcases hk with ⟨rfl, rfl⟩ | ⟨k, off, ds, rfl, rfl, ho⟩
  · simp [rowOf] at hrs
    obtain ⟨rfl, rfl⟩ := hrs
    cases hs
    have hr := run_append_nil (P := P) w t ty e i zx hu hi hiz ⟨bx, ox, none⟩ m capx vs hvl hcells (by omega) (by simp only [roomN] at hn; omega) (by simp only [Nat.zero_add] at hroom; omega)
    refine grown [] 0 .nil (by omega) _ ?_
    simpa using hr
  · obtain ⟨us, hus, hs'⟩ := rowOf_run hH hs hrs
    have hul : us.length = n * i.size := by rw [hus.length, hal]
    rcases hs' with ⟨rfl, _, _⟩ | ⟨bs, os, cap, rfl, hls⟩
    · cases hs
    have holds : ∀ j v, us[j]? = some v → w.cell? ((⟨bs, os, none⟩ : Addr).add j) = some v := fun j v hv => by rw [add_addr]; exact hls j v hv
    by_cases hfit : n + m ≤ cap
    · cases hs with
      | sliceE _ _ _ o B hB ho => omega
      | slice _ _ _ _ _ B hB hl hmm hsz =>
        obtain ⟨B', hB', cc, lo, hi', vs0, h1, h2, h3, h4, h5, h6⟩ := hH.obj k _ ho
        have e0 : B' = B := by rw [hB] at hB'; exact (Option.some.inj hB').symm
        subst e0
        have hcs : n * i.size + m * i.size ≤ cap * i.size := by rw [← Nat.add_mul]; exact Nat.mul_le_mul_right _ hfit
        have hf := run_firstCells_some (P := P) w i.size m ⟨bx, ox, none⟩ m capx vs hvl hcells
        obtain ⟨w', c', hst, hch, hb', hszc, hl'⟩ := run_storeCells_gen (P := P) B'.b (B'.base + off + n * i.size) e lo hi' vs 0 cc w h1 h2 (by omega) hvs.one
        have hrun : (Builtin.append_ #[t, t] ty #[.slice (some ⟨B'.b, B'.base + off, none⟩) n cap, .slice (some ⟨bx, ox, none⟩) m capx]).run P w = .ok (.slice (some ⟨B'.b, B'.base + off, none⟩) (n + m) cap) w' := by
          simp [Builtin.append_, run_underlying hu, sizeOf, typeInfo, hi, Builtin.lenOf, hfit, hf, add_addr, hst]
        refine ⟨_, w', ⟨B'.b, B'.base + off, B'.size - off⟩, by rw [hrun]; rfl, .inl ⟨k, B', rfl, hB, rfl, hch⟩, ?_, ⟨cap, rfl, hfit, hmm, by show cap * i.size ≤ B'.size - off; omega⟩⟩
        have kk := evo_chg (hH.notI k _ B' ho hB) hch
        refine ⟨c', lo, hi', us ++ vs, hb', by rw [hszc]; exact h2, by rw [hszc]; show B'.base + off + (B'.size - off) ≤ cc.size; omega, (hus.evo kk).append (hvs.evo kk), by rw [List.length_append, hal, hcl]; show _ ≤ B'.size - off; omega, ?_⟩
        intro j u hu'
        show c'[B'.base + off + j]? = some u
        rw [get_of_toList hl', Nat.add_zero]
        have hcl0 : B'.base + off + n * i.size ≤ cc.toList.length := by simp; omega
        rcases Nat.lt_or_ge j us.length with h | h
        · rw [List.getElem?_append_left h] at hu'
          have := hls j u hu'
          rw [cell_of_row w B'.b _ cc e (lo, hi') h1] at this
          rw [List.append_assoc, List.getElem?_append_left (by simp; omega), List.getElem?_take, if_pos (by omega)]
          simpa using this
        · rw [List.getElem?_append_right h] at hu'
          have hlt : j - us.length < vs.length := (List.getElem?_eq_some_iff.1 hu').1
          rw [List.append_assoc, List.getElem?_append_right (by simp; omega)]
          have hmin : (cc.toList.take (B'.base + off + n * i.size)).length = B'.base + off + n * i.size := by simp; omega
          rw [hmin, List.getElem?_append_left (by omega), show B'.base + off + j - (B'.base + off + n * i.size) = j - us.length by omega]
          exact hu'
    · have hr := run_append_grow (P := P) w t ty e i zx hu hi hiz ⟨bs, os, none⟩ n cap us hul holds ⟨bx, ox, none⟩ m capx vs hvl hcells (by omega) (by simp only [roomN] at hn; omega) (growslice_fits (by omega) hroom)
      exact grown us cap hus (by omega) _ hr
end
end Go.Abs
