/- The abstract evaluator: soundness of single operations: stores, maps, iterators, append. -/
import Derived.Test.YteapmdjkcpjbmaaGreatAbsI
namespace Go.Abs
section
variable {P : Program} {E : Env} {w w' : World} {H : Heap}

/-! ### Stores -/
theorem chg_setCell (w : World) (a : Addr) (v : Value) : Chg w (w.setCell a v) a.block :=
  ⟨rfl, rfl, rfl, by simp [World.setCell], fun c hc => heap_setCell_other w a c v hc⟩

/-- Cells stored one behind the other into a row whose frozen marks lie beyond its end. -/
theorem run_storeCells_gen (b o : Nat) (t : TypeId) (lo hi : Nat) : ∀ (vs : List Value) (i : Nat) (c : Array Value) (w : World), w.heap[b]? = some (.cells c t (lo, hi)) → (lo = hi ∨ c.size ≤ lo) →
    o + i + vs.length ≤ c.size → (∀ v ∈ vs, v.oneCell' = true) →
    ∃ (w' : World) (c' : Array Value), (storeCells ⟨b, o, none⟩ vs i).run P w = .ok () w' ∧ Chg w w' b ∧ w'.heap[b]? = some (.cells c' t (lo, hi)) ∧ c'.size = c.size ∧
      c'.toList = c.toList.take (o + i) ++ vs ++ c.toList.drop (o + i + vs.length)
  | [], i, c, w, hb, _, _, _ => ⟨w, c, rfl, .refl w b, hb, rfl, by simp⟩
  | v :: vs, i, c, w, hb, hf, hl, h1 => by
    have hi' : o + i < c.size := by simp at hl; omega
    have hcell : w.cell? ⟨b, o + i, none⟩ = some c[o + i] := by simp [World.cell?, hb, hi']
    have hfro : w.frozen? ⟨b, o + i, none⟩ = false := by
      simp only [World.frozen?, hb]
      rcases hf with rfl | hf
      · rw [Bool.and_eq_false_iff]; simp; omega
      · rw [Bool.and_eq_false_iff]; simp; omega
    have hst : (store ((⟨b, o, none⟩ : Addr).add i) v).run P w = .ok () (w.setCell ⟨b, o + i, none⟩ v) := by
      rw [add_addr, run_store P w _ v _ (h1 v (by simp)), hcell]
      simp [hfro]
    have hb' : (w.setCell ⟨b, o + i, none⟩ v).heap[b]? = some (.cells (c.setIfInBounds (o + i) v) t (lo, hi)) := by
      simp only [World.setCell, Array.getElem?_modify, if_true, hb, Option.map_some]
      simp
    obtain ⟨w', c', hr, hch, hb'', hsz, hl'⟩ := run_storeCells_gen b o t lo hi vs (i + 1) _ _ hb' (by simpa using hf) (by simp at hl ⊢; omega) (fun x hx => h1 x (by simp [hx]))
    refine ⟨w', c', ?_, (chg_setCell w _ v).trans hch, hb'', by simpa using hsz, ?_⟩
    · simp only [storeCells, Sem.run_bind, hst, Result.andThen_ok]
      exact hr
    · rw [hl']
      have e := list_seg_step c.toList (o + i) v vs (by simp at hl ⊢; omega)
      simpa [Array.toList_setIfInBounds, Nat.add_assoc] using e

theorem get_of_toList {c : Array Value} {l : List Value} (h : c.toList = l) (i : Nat) : c[i]? = l[i]? := by rw [← h]; simp

theorem store_ok {t e : TypeId} {n off s : Nat} {cs cs' vs : List V} {v : V} {x y : Value} (hH : HInv E H.get w) (ha : Rd E w (.ptr n off) x) (hv : Rd E w v y) (hvs : v.cells? = some vs) (hs : sz P t = some s)
    (hl : vs.length = s) (ho : H.get n = some (.cells cs e)) (hsp : splice cs off vs = some cs') :
    EffOk P E w ((do Instr.storeAt t x y; pure Next.skip : Sem Next).run P w) (.upd n (.cells cs' e) .any) := by
  obtain ⟨B, hB, c, lo, hi, us, h1, h2, h3, h4, h5, h6⟩ := hH.obj n _ ho
  cases ha with
  | ptr _ _ B' hB' =>
    have e0 : B' = B := by rw [hB] at hB'; exact (Option.some.inj hB').symm
    subst e0
    obtain ⟨hle, rfl⟩ := splice_some hsp
    have hcells := hv.cells hvs
    have hys : y.cells.toList.length = s := by rw [hcells.length, hl]
    obtain ⟨w', c', hr, hch, hb', hsz, hl'⟩ := run_storeCells_gen (P := P) B'.b (B'.base + off) e lo hi y.cells.toList 0 c w h1 h2 (by omega) hcells.one
    have hul := h4.length
    refine ⟨.skip, undef, w', B', ?_, .inr ⟨rfl, rfl⟩, hB, hch, ?_, .any _⟩
    · have hne : ¬ (y.cells.size ≠ s) := by simpa using hys
      simp only [Instr.storeAt, Instr.sureAddr, storeVar, Sem.run_bind, Sem.run_pure, Result.andThen_ok, run_sizeOf hs, if_neg hne, hr]
    · have k := evo_chg (hH.notI n _ B' ho hB) hch
      refine ⟨c', lo, hi, us.take off ++ (y.cells.toList ++ us.drop (off + vs.length)), hb', by rw [hsz]; exact h2, by rw [hsz]; exact h3, ?_, ?_, ?_⟩
      · exact ((h4.evo k).take off).append ((hcells.evo k).append ((h4.evo k).drop _))
      · simp; omega
      · intro i u hu
        rw [get_of_toList hl']
        have hvl : vs.length = y.cells.toList.length := by omega
        simp only [Nat.add_zero]
        rcases Nat.lt_or_ge i off with h | h
        · rw [List.getElem?_append_left (by simp; omega)] at hu
          rw [List.append_assoc, List.getElem?_append_left (by simp; omega)]
          rw [List.getElem?_take] at hu ⊢
          rw [if_pos h] at hu
          rw [if_pos (by omega)]
          have := h6 i u hu
          simpa using this
        · rw [List.getElem?_append_right (by simp; omega)] at hu
          have hmin : (us.take off).length = off := by simp; omega
          rw [hmin] at hu
          rw [List.append_assoc, List.getElem?_append_right (by simp; omega)]
          have hmin2 : (c.toList.take (B'.base + off)).length = B'.base + off := by simp; omega
          rw [hmin2, show B'.base + i - (B'.base + off) = i - off by omega]
          rcases Nat.lt_or_ge (i - off) y.cells.toList.length with h' | h'
          · rw [List.getElem?_append_left h'] at hu ⊢
            exact hu
          · rw [List.getElem?_append_right h'] at hu ⊢
            rw [List.getElem?_drop] at hu ⊢
            have := h6 _ u hu
            rw [← Array.getElem?_toList] at this
            rw [← this]
            congr 1
            omega

/-! ### Maps -/
theorem run_getObj {r : Nat} {o : Obj} (h : w.heap[r]? = some o) (hc : ∀ c t f, o ≠ .cells c t f) : (getObj r).run P w = .ok o w := by
  cases o <;> first | exact absurd rfl (hc _ _ _) | simp [getObj, Sem.run, h]
theorem run_setObj {r : Nat} {o o' : Obj} (h : w.heap[r]? = some o) (hc : ∀ c t f, o ≠ .cells c t f) : (setObj r o').run P w = .ok () { w with heap := w.heap.setIfInBounds r o' } := by
  cases o <;> first | exact absurd rfl (hc _ _ _) | simp [setObj, Sem.run, h]
theorem chg_setObj (w : World) (r : Nat) (o : Obj) : Chg w { w with heap := w.heap.setIfInBounds r o } r :=
  ⟨rfl, rfl, rfl, by simp, fun c hc => by simp [Ne.symm hc]⟩
theorem setObj_at {w : World} {r : Nat} {o o' : Obj} (h : w.heap[r]? = some o) : ({ w with heap := w.heap.setIfInBounds r o' } : World).heap[r]? = some o' := by
  have := (Array.getElem?_eq_some_iff.1 h).1
  simp [this]

theorem keyScT_run {t : TypeId} {v : V} {x : Value} (hr : Rd E w v x) (h : keyScT P t v = true) (e : Bool) (d : Nat) : (Instr.checkKey e (d + 1) t x).run P w = .ok () w ∧ ∃ b, (isAgg t).run P w = .ok b w ∧ b = false := by
  unfold keyScT at h
  split at h
  case h_4 => simp at h
  all_goals
    rename_i hu
    cases hr
    exact ⟨by simp [Instr.checkKey, run_underlying hu], false, by simp [isAgg, run_underlying hu], rfl⟩
theorem keyFieldsT_run {e : Bool} : ∀ (fs : List Field) (k : Nat) (l : List V) (vs : List Value), Rcs E w l (vs.drop k) → keyFieldsT P fs k l = true → ∀ d,
    (forIn fs PUnit.unit (fun f _ => if f.name ≠ "_" then do
        let v ← part f.type ⟨vs⟩ f.offset
        Instr.checkKey e (d + 1) f.type v
        pure (ForInStep.yield PUnit.unit) else pure (ForInStep.yield PUnit.unit)) : Sem PUnit).run P w = .ok PUnit.unit w
  | [], k, l, vs, hl, h, d => by simp
  | f :: fs, k, l, vs, hl, h, d => by
    cases l with
    | nil => simp [keyFieldsT] at h
    | cons a l =>
      simp only [keyFieldsT, Bool.and_eq_true] at h
      obtain ⟨h1, h2, h3⟩ := h
      have hk : f.offset = k := by simpa using h1
      obtain ⟨x, hx, hrx, ht⟩ := hl.dropCons
      obtain ⟨hck, hagg⟩ := keyScT_run hrx h2 e d
      have ih := keyFieldsT_run (e := e) fs (k + 1) l vs ht h3 d
      simp only [List.forIn_cons, Sem.run_bind, Sem.run_ite]
      by_cases hn : f.name = "_"
      · simp only [hn, ne_eq, not_true_eq_false, if_false, Sem.run_pure, Result.andThen_ok]
        exact ih
      · simp only [ne_eq, hn, not_false_eq_true, if_true, hk, part_scalar hagg hx, Result.andThen_ok, hck, Sem.run_pure]
        exact ih
theorem keyOk_run {t : TypeId} {v : V} {x : Value} (hr : Rd E w v x) (h : keyOk P t v = true) (e : Bool) (d : Nat) : (Instr.checkKey e (d + 2) t x).run P w = .ok () w := by
  unfold keyOk at h
  split at h
  · rename_i fs l hu
    cases hr with
    | agg _ vs hc =>
      have := keyFieldsT_run (e := e) fs.toList 0 l vs (by simpa using hc) h d
      rw [Instr.checkKey]
      simp only [Sem.run_bind, run_underlying hu, Result.andThen_ok]
      rw [← Array.forIn_toList]
      simp at this ⊢
      rw [this]
      rfl
  · exact (keyScT_run hr h e (d + 1)).1

theorem sameNow_eq {t : TypeId} {d : TypeDesc} {a b : V} {x y : Value} {r r' : Bool} (hu : P.underlying t = some d) (ha : Rd E w a x) (hb : Rd E w b y) (h : eqT P t a b = some r) (hs : Instr.sameNow d x y = some r') : r = r' := by
  unfold Instr.sameNow at hs
  split at hs
  · rename_i k p k' q
    split at hs
    · rename_i hk
      subst hk
      simp at hs
      cases ha <;> cases hb <;> simp [eqT, eqScT, hu, kEq] at h
      rw [← h, ← hs, eqI_eq]
    · simp at hs
  · rename_i p q
    simp at hs
    cases ha <;> cases hb <;> simp [eqT, eqScT, hu] at h
    rw [← h, ← hs, eqL_eq, mk_beq]
  · rename_i p q
    simp at hs
    cases ha <;> cases hb <;> simp [eqT, eqScT, hu] at h
    rw [← h, ← hs, eqB_eq]
  · simp at hs

/-- What was found, and where. -/
def FRel (P : Program) (E : Env) (w : World) (t : TypeId) (k : V) (es : List MapEntry) (i0 : Nat) : Option (Nat × V × Nat) → Option (Nat × Value) → Prop
  | none, none => True
  | some (i, v, b), some (j, x) => i = j ∧ Rd E w v x ∧ i0 ≤ i ∧ ∃ e k', es[i - i0]? = some e ∧ e.born = b ∧ e.val = x ∧ Rd E w k' e.key ∧ eqT P t k k' = some true
  | _, _ => False
theorem FRel.cons {t : TypeId} {k : V} {e : MapEntry} {es : List MapEntry} {i : Nat} {r : Option (Nat × V × Nat)} {r' : Option (Nat × Value)} (h : FRel P E w t k es (i + 1) r r') : FRel P E w t k (e :: es) i r r' := by
  cases r with
  | none => cases r' with
    | none => trivial
    | some _ => exact h.elim
  | some p =>
    obtain ⟨j, v, b⟩ := p
    cases r' with
    | none => exact h.elim
    | some q =>
      obtain ⟨j', x⟩ := q
      obtain ⟨h1, h2, h3, e', k', h4, h5⟩ := h
      refine ⟨h1, h2, by omega, e', k', ?_, h5⟩
      rw [show j - i = (j - (i + 1)) + 1 by omega]
      simpa using h4
theorem findNow_rel {t : TypeId} {d : TypeDesc} {k : V} {x : Value} (hu : P.underlying t = some d) (hk : Rd E w k x) : ∀ (l : List (V × V × Nat)) (es : List MapEntry) (i : Nat) (r : Option (Nat × V × Nat)) (r' : Option (Nat × Value)),
    REnt E w l es → findE P t k l i = some r → Instr.findNow d x es i = some r' → FRel P E w t k es i r r'
  | [], es, i, r, r', hl, h, h' => by
    cases es with
    | cons _ _ => exact hl.elim
    | nil => simp [findE] at h; simp [Instr.findNow] at h'; subst h; subst h'; trivial
  | (k', v, b) :: l, es, i, r, r', hl, h, h' => by
    cases es with
    | nil => exact hl.elim
    | cons e es =>
      obtain ⟨h1, h2, h3, h4⟩ := hl
      simp only [findE] at h
      simp only [Instr.findNow] at h'
      cases hq : eqT P t k k' with
      | none => simp [hq] at h
      | some q =>
        cases hs : Instr.sameNow d x e.key with
        | none => simp [hs] at h'
        | some q' =>
          have := sameNow_eq hu hk h1 hq hs
          subst this
          cases q with
          | true => simp [hq] at h; simp [hs] at h'; subst h; subst h'; exact ⟨rfl, h2, Nat.le_refl _, e, k', by simp, h3, rfl, h1, hq⟩
          | false => simp [hq] at h; simp [hs] at h'; exact (findNow_rel hu hk l es (i + 1) r r' h4 h h').cons
theorem findAsking_rel {t : TypeId} {k : V} {x : Value} (hk : Rd E w k x) : ∀ (l : List (V × V × Nat)) (es : List MapEntry) (i : Nat) (r : Option (Nat × V × Nat)),
    REnt E w l es → findE P t k l i = some r → ∃ r', (Instr.findAsking t x es i).run P w = .ok r' w ∧ FRel P E w t k es i r r'
  | [], es, i, r, hl, h => by
    cases es with
    | cons _ _ => exact hl.elim
    | nil => simp [findE] at h; subst h; exact ⟨none, by simp [Instr.findAsking], trivial⟩
  | (k', v, b) :: l, es, i, r, hl, h => by
    cases es with
    | nil => exact hl.elim
    | cons e es =>
      obtain ⟨h1, h2, h3, h4⟩ := hl
      simp only [findE] at h
      cases hq : eqT P t k k' with
      | none => simp [hq] at h
      | some q =>
        have he := eqT_run hk h1 hq
        cases q with
        | true =>
          simp [hq] at h; subst h
          exact ⟨some (i, e.val), by simp [Instr.findAsking, he], rfl, h2, Nat.le_refl _, e, k', by simp, h3, rfl, h1, hq⟩
        | false =>
          simp [hq] at h
          obtain ⟨r', hr', hf⟩ := findAsking_rel hk l es (i + 1) r h4 h
          exact ⟨r', by simp [Instr.findAsking, he, hr'], hf.cons⟩
theorem findKey_run {t : TypeId} {k : V} {x : Value} {l : List (V × V × Nat)} {es : List MapEntry} {r : Option (Nat × V × Nat)} (hk : Rd E w k x) (hko : keyOk P t k = true) (hl : REnt E w l es) (h : findE P t k l 0 = some r) :
    ∃ r', (Instr.findKey t x es).run P w = .ok r' w ∧ FRel P E w t k es 0 r r' := by
  have hu : ∃ d, P.underlying t = some d := by
    cases hu : P.underlying t with
    | none => simp [keyOk, keyScT, hu] at hko
    | some d => exact ⟨d, rfl⟩
  obtain ⟨d, hu⟩ := hu
  cases hn : Instr.findNow d x es 0 with
  | some r' => exact ⟨r', by simp [Instr.findKey, run_underlying hu, hn], findNow_rel hu hk l es 0 r r' hl h hn⟩
  | none =>
    obtain ⟨r', hr', hf⟩ := findAsking_rel hk l es 0 r hl h
    exact ⟨r', by simp [Instr.findKey, run_underlying hu, hn, hr'], hf⟩

theorem eqScT_bits {t : TypeId} {a b : V} {x y : Value} (ha : Rd E w a x) (hb : Rd E w b y) (h : eqScT P t a b = some true) (d : Nat) : Instr.sameBits (d + 1) y x = true := by
  unfold eqScT at h
  split at h
  · cases ha; cases hb; simp [eqB_eq] at h; simp [Instr.sameBits, h]
  · rename_i k p k' q _
    cases ha; cases hb
    cases hk : kEq k k' with
    | false => simp [hk] at h
    | true => have := kEq_iff.1 hk; subst this; simp [hk, eqI_eq] at h; simp [Instr.sameBits, h]
  · cases ha; cases hb; simp [eqL_eq] at h; subst h; simp [Instr.sameBits, mk_beq]
  · simp at h
theorem eqFieldsT_bits : ∀ (fs : List Field) (k : Nat) (x y : List V) (xs ys : List Value), Rcs E w x xs → Rcs E w y ys → eqFieldsT P fs k x y = some true → ∀ d,
    ys.length = xs.length ∧ ((ys.zip xs).all fun (a, b) => Instr.sameBits (d + 1) a b) = true
  | [], k, x, y, xs, ys, hx, hy, h, d => by
    cases x <;> cases y <;> simp [eqFieldsT] at h
    cases hx; cases hy; simp
  | f :: fs, k, x, y, xs, ys, hx, hy, h, d => by
    cases x with
    | nil => simp [eqFieldsT] at h
    | cons a x => cases y with
      | nil => simp [eqFieldsT] at h
      | cons b y =>
        simp only [eqFieldsT] at h
        cases hk : (Nat.beq f.offset k && f.name != "_") with
        | false => simp [hk] at h
        | true =>
          simp only [hk, cond_true] at h
          cases hs : eqScT P f.type a b with
          | none => simp [hs] at h
          | some q => cases q with
            | false => simp [hs] at h
            | true =>
              simp only [hs] at h
              cases hx with
              | cons _ u _ us hu _ hut => cases hy with
                | cons _ v _ vs hv _ hvt =>
                  obtain ⟨h1, h2⟩ := eqFieldsT_bits fs (k + 1) x y us vs hut hvt h d
                  exact ⟨by simp [h1], by simp only [List.zip_cons_cons, List.all_cons, eqScT_bits hu hv hs, h2, Bool.and_self]⟩
theorem keyOk_cases {t : TypeId} {k : V} (h : keyOk P t k = true) : keyScT P t k = true ∨ ∃ fs l, P.underlying t = some (.struct fs) ∧ k = .agg l := by
  unfold keyOk at h
  split at h
  · rename_i fs l hu; exact .inr ⟨fs, l, hu, rfl⟩
  · exact .inl h
theorem eqT_sc {t : TypeId} {k k' : V} {r : Bool} (hk : keyScT P t k = true) (h : eqT P t k k' = some r) : eqScT P t k k' = some r := by
  unfold keyScT at hk
  split at hk
  case h_4 => simp at hk
  all_goals
    rename_i hu
    simpa [eqT, hu] using h
theorem keyStays {t : TypeId} {k k' : V} {x y : Value} (hko : keyOk P t k = true) (hk : Rd E w k x) (hk' : Rd E w k' y) (h : eqT P t k k' = some true) : (Instr.keyThatStays y x).run P w = .ok x w := by
  have hb : Instr.sameBits 10000 y x = true := by
    show Instr.sameBits (9998 + 2) y x = true
    generalize 9998 = d
    rcases keyOk_cases hko with hks | ⟨fs, l, hu, rfl⟩
    · exact eqScT_bits hk hk' (eqT_sc hks h) (d + 1)
    · cases k' <;> try (simp [eqT, eqScT, hu] at h; done)
      simp only [eqT, hu] at h
      cases hp : P.stoodInHeld t with
      | true => simp [hp] at h
      | false =>
        simp only [hp, cond_false] at h
        cases hk with
        | agg _ xs hx => cases hk' with
          | agg _ ys hy =>
            obtain ⟨h1, h2⟩ := eqFieldsT_bits fs.toList 0 _ _ xs ys hx hy h d
            simp only [Instr.sameBits, Bool.and_eq_true]
            exact ⟨by simpa using h1, by simpa using h2⟩
  simp [Instr.keyThatStays, hb]
end
end Go.Abs
