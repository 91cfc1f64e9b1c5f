/- The abstract evaluator: soundness of single operations: what is looked up in maps, put into them; iterators; append. -/
import Derived.Test.YteapmdjkcpjbmaaGreatAbsJ
namespace Go.Abs
section
variable {P : Program} {E : Env} {w w' : World} {H : Heap}

theorem obj_map {es : List (V × V × Nat)} {cl n : Nat} {x : Value} (hH : HInv E H.get w) (ho : H.get n = some (.map es cl)) (hr : Rd E w (.map n) x) :
    ∃ B es', E.σ n = some B ∧ x = .map (some B.b) ∧ w.heap[B.b]? = some (.map es' cl) ∧ REnt E w es es'.toList := by
  obtain ⟨B, hB, es', h1, h2⟩ := hH.obj n _ ho
  cases hr with
  | map _ B' hB' =>
    have e0 : B' = B := by rw [hB] at hB'; exact (Option.some.inj hB').symm
    subst e0
    exact ⟨B', es', hB, rfl, h1, h2⟩

theorem lookup_run {t kt e : TypeId} {m k v z : V} {x y : Value} {ok : Bool} {found : Option (Nat × V × Nat)} (hH : HInv E H.get w) (hu : P.underlying t = some (.map kt e)) (hm : Rd E w m x) (hk : Rd E w k y)
    (hko : keyOk P kt k = true) (hz : zeroV P e = some z)
    (hf : lookE P H kt m k = some found)
    (hv : v = match found with
      | some (_, u, _) => (bif ok then .tuple [u, .bool true] else u)
      | none => (bif ok then .tuple [z, .bool false] else z)) :
    ∃ r, (Instr.lookup t x y ok).run P w = .ok r w ∧ Rd E w v r := by
  obtain ⟨zx, hzx, hzr⟩ := zeroV_run (E := E) hz w
  have fin : ∀ (es : Array MapEntry) (l : List (V × V × Nat)), REnt E w l es.toList → findE P kt k l 0 = some found →
      (Instr.checkKey es.isEmpty 10000 kt y).run P w = .ok () w ∧ ∃ r', (Instr.findKey kt y es.toList).run P w = .ok r' w ∧
        Rd E w v (match r' with
          | some (_, u) => if ok then .tuple #[u, .bool true] else u
          | none => if ok then .tuple #[zx, .bool false] else zx) := by
    intro es l hl hfe
    have hck := keyOk_run hk hko es.isEmpty 9998
    obtain ⟨r', hr', hfr⟩ := findKey_run hk hko hl hfe
    refine ⟨hck, r', hr', ?_⟩
    subst hv
    cases found with
    | none => cases r' with
      | some _ => exact hfr.elim
      | none =>
        cases ok
        · exact hzr
        · exact .tuple _ [zx, .bool false] (.cons _ _ _ _ hzr (.cons _ _ _ _ (.bool _) .nil))
    | some p =>
      obtain ⟨i, u, b⟩ := p
      cases r' with
      | none => exact hfr.elim
      | some q =>
        obtain ⟨j, ux⟩ := q
        cases ok
        · exact hfr.2.1
        · exact .tuple _ [ux, .bool true] (.cons _ _ _ _ hfr.2.1 (.cons _ _ _ _ (.bool _) .nil))
  have tail : ∀ (es : Array MapEntry) (r' : Option (Nat × Value)), (Instr.checkKey es.isEmpty 10000 kt y).run P w = .ok () w → (Instr.findKey kt y es.toList).run P w = .ok r' w →
      ((x = .map none ∧ es = #[]) ∨ ∃ r cl, x = .map (some r) ∧ w.heap[r]? = some (.map es cl)) →
      (Instr.lookup t x y ok).run P w = .ok (match r' with
          | some (_, u) => if ok then .tuple #[u, .bool true] else u
          | none => if ok then .tuple #[zx, .bool false] else zx) w := by
    intro es r' h1 h2 h3
    rcases h3 with ⟨rfl, rfl⟩ | ⟨r, cl, rfl, h4⟩
    · simp only [Instr.lookup, Sem.run_bind, run_underlying hu, Result.andThen_ok, Sem.run_pure, h1, h2]
      cases r' with
      | none => simp only [Sem.run_bind, hzx, Result.andThen_ok, Sem.run_pure]
      | some q => simp only [Sem.run_bind, Sem.run_pure, Result.andThen_ok]
    · have hg := run_getObj (P := P) h4 (by simp)
      simp only [Instr.lookup, Sem.run_bind, run_underlying hu, Result.andThen_ok, Sem.run_pure, hg, h1, h2]
      cases r' with
      | none => simp only [Sem.run_bind, hzx, Result.andThen_ok, Sem.run_pure]
      | some q => simp only [Sem.run_bind, Sem.run_pure, Result.andThen_ok]
  cases m <;> try (simp [lookE] at hf; done)
  case nilmap =>
    cases hm
    obtain ⟨h1, r', h2, hr⟩ := fin #[] [] trivial (by simpa [findE, lookE] using hf)
    exact ⟨_, tail #[] r' h1 h2 (.inl ⟨rfl, rfl⟩), hr⟩
  case map r =>
    simp only [lookE] at hf
    cases ho : H.get r with
    | none => simp [ho] at hf
    | some o =>
      cases o <;> simp only [ho, reduceCtorEq] at hf
      rename_i es cl
      obtain ⟨B, es', hB, rfl, h3, h4⟩ := obj_map hH ho hm
      obtain ⟨h1, r', h2, hr⟩ := fin es' es h4 hf
      exact ⟨_, tail es' r' h1 h2 (.inr ⟨B.b, cl, rfl, h3⟩), hr⟩

theorem REnt.mod {kx vx : Value} {k' v' : Option V} {f : MapEntry → MapEntry} : ∀ (l : List (V × V × Nat)) (es : List MapEntry) (i : Nat), REnt E w l es → (∀ e, es[i]? = some e → (f e).born = e.born ∧
      (∀ k, Rd E w k e.key → Rd E w (k'.getD k) (f e).key) ∧ (∀ v, Rd E w v e.val → Rd E w (v'.getD v) (f e).val)) → REnt E w (modE l i k' v') (es.modify i f)
  | [], es, i, hl, h => by cases es with
    | nil => cases i <;> simpa [modE] using hl
    | cons _ _ => exact hl.elim
  | (k, v, b) :: l, es, i, hl, h => by
    cases es with
    | nil => exact hl.elim
    | cons e es =>
      obtain ⟨h1, h2, h3, h4⟩ := hl
      cases i with
      | zero =>
        obtain ⟨hb, hk, hv⟩ := h e (by simp)
        exact ⟨hk k h1, hv v h2, by rw [hb, h3], h4⟩
      | succ i => exact ⟨h1, h2, h3, REnt.mod (kx := kx) (vx := vx) l es i h4 (fun e' he' => h e' (by simpa using he'))⟩
theorem REnt.push {k v : V} {b : Nat} {e : MapEntry} (hk : Rd E w k e.key) (hv : Rd E w v e.val) (hb : e.born = b) : ∀ (l : List (V × V × Nat)) (es : List MapEntry), REnt E w l es → REnt E w (l ++ [(k, v, b)]) (es ++ [e])
  | [], es, hl => by cases es with
    | nil => exact ⟨hk, hv, hb, trivial⟩
    | cons _ _ => exact hl.elim
  | (k', v', b') :: l, es, hl => by
    cases es with
    | nil => exact hl.elim
    | cons e' es => exact ⟨hl.1, hl.2.1, hl.2.2.1, REnt.push hk hv hb l es hl.2.2.2⟩

theorem mapUpdate_ok {t kt e : TypeId} {n cl : Nat} {k v : V} {x y u : Value} {es : List (V × V × Nat)} {found : Option (Nat × V × Nat)} (hH : HInv E H.get w) (hu : P.underlying t = some (.map kt e)) (hm : Rd E w (.map n) x) (hk : Rd E w k y) (hv : Rd E w v u)
    (hko : keyOk P kt k = true) (ho : H.get n = some (.map es cl)) (hf : findE P kt k es 0 = some found) :
    EffOk P E w ((do Instr.mapUpdate t x y u; pure Next.skip : Sem Next).run P w)
      (match found with | some (i, _, _) => .upd n (.map (modE es i (some k) (some v)) cl) .any | none => .upd n (.map (es ++ [(k, v, cl)]) (cl + 1)) .any) := by
  obtain ⟨B, es', hB, rfl, h1, h2⟩ := obj_map hH ho hm
  have hck := keyOk_run hk hko false 9998
  obtain ⟨r', hr', hfr⟩ := findKey_run hk hko h2 hf
  have hg := run_getObj (P := P) h1 (by simp)
  have hI := hH.notI n _ B ho hB
  cases found with
  | none => cases r' with
    | some _ => exact hfr.elim
    | none =>
      have hs := run_setObj (P := P) (o' := .map (es'.push { key := y, val := u, born := cl }) (cl + 1)) h1 (by simp)
      refine ⟨.skip, undef, _, B, ?_, .inr ⟨rfl, rfl⟩, hB, chg_setObj w B.b (.map (es'.push { key := y, val := u, born := cl }) (cl + 1)), ⟨_, setObj_at h1, ?_⟩, .any _⟩
      · simp only [Instr.mapUpdate, Sem.run_bind, run_underlying hu, Result.andThen_ok, hg, hck, hr', hs, Sem.run_pure]
      · have := REnt.push (e := { key := y, val := u, born := cl }) hk hv rfl _ _ h2
        simpa using REnt.evo (evo_chg hI (chg_setObj w B.b (.map (es'.push { key := y, val := u, born := cl }) (cl + 1)))) _ _ this
  | some p =>
    obtain ⟨i, v0, b0⟩ := p
    cases r' with
    | none => exact hfr.elim
    | some q =>
      obtain ⟨j, ux⟩ := q
      obtain ⟨rfl, hrv, _, en, k', hen, hbn, hval, hrk, heq⟩ := hfr
      simp only [Nat.sub_zero] at hen
      have hes : es'[i]? = some en := by simpa using hen
      have hst := keyStays hko hk hrk heq
      have hs := run_setObj (P := P) (o' := .map (es'.modify i fun e => { e with key := y, val := u }) cl) h1 (by simp)
      refine ⟨.skip, undef, _, B, ?_, .inr ⟨rfl, rfl⟩, hB, chg_setObj w B.b (.map (es'.modify i fun e => { e with key := y, val := u }) cl), ⟨_, setObj_at h1, ?_⟩, .any _⟩
      · simp only [Instr.mapUpdate, Sem.run_bind, run_underlying hu, Result.andThen_ok, hg, hck, hr', hes, Option.map_some, Option.getD_some, hst, hs, Sem.run_pure]
      · have := REnt.mod (kx := y) (vx := u) (k' := some k) (v' := some v) (f := fun e => { e with key := y, val := u }) es es'.toList i h2 (fun e _ => ⟨rfl, fun _ _ => hk, fun _ _ => hv⟩)
        simpa using REnt.evo (evo_chg hI (chg_setObj w B.b (.map (es'.modify i fun e => { e with key := y, val := u }) cl))) _ _ this

theorem mapEntry_ok {t kt e : TypeId} {n cl : Nat} {k z : V} {x y : Value} {es : List (V × V × Nat)} {found : Option (Nat × V × Nat)} (hH : HInv E H.get w) (hu : P.underlying t = some (.map kt e)) (hm : Rd E w (.map n) x) (hk : Rd E w k y)
    (hko : keyOk P kt k = true) (hz : zeroV P e = some z) (ho : H.get n = some (.map es cl)) (hf : findE P kt k es 0 = some found) :
    EffOk P E w ((do let v ← Instr.mapEntry t x y; pure (Next.value v) : Sem Next).run P w)
      (match found with | some (i, v, b) => .upd n (.map (modE es i (some k) none) cl) (.tuple [v, .int .i64 b]) | none => .upd n (.map (es ++ [(k, z, cl)]) (cl + 1)) (.tuple [z, .int .i64 cl])) := by
  obtain ⟨B, es', hB, rfl, h1, h2⟩ := obj_map hH ho hm
  obtain ⟨zx, hzx, hzr⟩ := zeroV_run (E := E) hz w
  have hck := keyOk_run hk hko false 9998
  obtain ⟨r', hr', hfr⟩ := findKey_run hk hko h2 hf
  have hg := run_getObj (P := P) h1 (by simp)
  have hI := hH.notI n _ B ho hB
  cases found with
  | none => cases r' with
    | some _ => exact hfr.elim
    | none =>
      have hs := run_setObj (P := P) (o' := .map (es'.push { key := y, val := zx, born := cl }) (cl + 1)) h1 (by simp)
      refine ⟨_, .tuple #[zx, goInt cl], _, B, ?_, .mk _, hB, chg_setObj w B.b (.map (es'.push { key := y, val := zx, born := cl }) (cl + 1)), ⟨_, setObj_at h1, ?_⟩, .tuple _ [zx, goInt cl] (.cons _ _ _ _ hzr (.cons _ _ _ _ (.int _ _) .nil))⟩
      · simp only [Instr.mapEntry, Sem.run_bind, run_underlying hu, Result.andThen_ok, hg, hck, hr', hzx, hs, Sem.run_pure]
      · have := REnt.push (e := { key := y, val := zx, born := cl }) hk hzr rfl _ _ h2
        simpa using REnt.evo (evo_chg hI (chg_setObj w B.b (.map (es'.push { key := y, val := zx, born := cl }) (cl + 1)))) _ _ this
  | some p =>
    obtain ⟨i, v0, b0⟩ := p
    cases r' with
    | none => exact hfr.elim
    | some q =>
      obtain ⟨j, ux⟩ := q
      obtain ⟨rfl, hrv, _, en, k', hen, hbn, hval, hrk, heq⟩ := hfr
      simp only [Nat.sub_zero] at hen
      have hes : es'[i]? = some en := by simpa using hen
      have hst := keyStays hko hk hrk heq
      have hs := run_setObj (P := P) (o' := .map (es'.modify i fun e => { e with key := y }) cl) h1 (by simp)
      refine ⟨_, .tuple #[ux, goInt b0], _, B, ?_, .mk _, hB, chg_setObj w B.b (.map (es'.modify i fun e => { e with key := y }) cl), ⟨_, setObj_at h1, ?_⟩, .tuple _ [ux, goInt b0] (.cons _ _ _ _ hrv (.cons _ _ _ _ (.int _ _) .nil))⟩
      · simp only [Instr.mapEntry, Sem.run_bind, run_underlying hu, Result.andThen_ok, hg, hck, hr', hes, Option.map_some, Option.getD_some, hst, hs, Sem.run_pure, hbn]
      · have := REnt.mod (kx := y) (vx := y) (k' := some k) (v' := none) (f := fun e => { e with key := y }) es es'.toList i h2 (fun e _ => ⟨rfl, fun _ _ => hk, fun _ h => h⟩)
        simpa using REnt.evo (evo_chg hI (chg_setObj w B.b (.map (es'.modify i fun e => { e with key := y }) cl))) _ _ this

theorem findBorn_run {s : Int} : ∀ (l : List (V × V × Nat)) (es : List MapEntry) (i j : Nat), REnt E w l es → findBorn s l i = some j → i ≤ j ∧ es.findIdx? (fun e => (e.born : Int) == s) = some (j - i)
  | [], es, i, j, hl, h => by simp [findBorn] at h
  | (k, v, b) :: l, es, i, j, hl, h => by
    cases es with
    | nil => exact hl.elim
    | cons e es =>
      obtain ⟨h1, h2, h3, h4⟩ := hl
      simp only [findBorn] at h
      rw [List.findIdx?_cons]
      have e1 : eqI (Int.ofNat b) s = ((e.born : Int) == s) := by rw [eqI_eq, h3]; rfl
      cases hq : eqI (Int.ofNat b) s with
      | true =>
        rw [hq] at h
        simp only [cond_true, Option.some.injEq] at h
        subst h
        rw [← e1, hq]; simp
      | false =>
        rw [hq] at h
        simp only [cond_false] at h
        obtain ⟨hle, hf⟩ := findBorn_run l es (i + 1) j h4 h
        rw [← e1, hq]
        refine ⟨by omega, ?_⟩
        rw [hf]
        simp only [Bool.false_eq_true, if_false, Option.map_some, Option.some.injEq]
        omega
theorem entryStore_ok {t : TypeId} {n cl i : Nat} {s : Int} {kk : IntKind} {v : V} {x u : Value} {es : List (V × V × Nat)} (hH : HInv E H.get w) (hm : Rd E w (.map n) x) (hv : Rd E w v u)
    (ho : H.get n = some (.map es cl)) (hf : findBorn s es 0 = some i) :
    EffOk P E w ((do Instr.entryStore t x (.int kk s) u; pure Next.skip : Sem Next).run P w) (.upd n (.map (modE es i none (some v)) cl) .any) := by
  obtain ⟨B, es', hB, rfl, h1, h2⟩ := obj_map hH ho hm
  have hg := run_getObj (P := P) h1 (by simp)
  have hI := hH.notI n _ B ho hB
  have hs := run_setObj (P := P) (o' := .map (es'.modify i fun e => { e with val := u }) cl) h1 (by simp)
  obtain ⟨_, hfi⟩ := findBorn_run es es'.toList 0 i h2 hf
  have hfi' : es'.findIdx? (fun e => (e.born : Int) == s) = some i := by
    obtain ⟨l'⟩ := es'
    simpa using hfi
  refine ⟨.skip, undef, _, B, ?_, .inr ⟨rfl, rfl⟩, hB, chg_setObj w B.b (.map (es'.modify i fun e => { e with val := u }) cl), ⟨_, setObj_at h1, ?_⟩, .any _⟩
  · simp only [Instr.entryStore, Sem.run_bind, Result.andThen_ok, hg, asInt, asIntOf, Sem.run_pure, hfi', hs]
  · have := REnt.mod (kx := u) (vx := u) (k' := none) (v' := some v) (f := fun e => { e with val := u }) es es'.toList i h2 (fun e _ => ⟨rfl, fun _ h => h, fun _ _ => hv⟩)
    simpa using REnt.evo (evo_chg hI (chg_setObj w B.b (.map (es'.modify i fun e => { e with val := u }) cl))) _ _ this

/-! ### Iterators -/
theorem eff_obj {r : Result Next} {o : Obj} {ob : AObj} {mk : Mk} {x : Value} (hr : r = .ok (.value x) (w.alloc o)) (ho : ∀ w', w'.heap[w.heap.size]? = some o → (NewB w w' ⟨w.heap.size, 0, 0⟩) → ObjRep E w' ⟨w.heap.size, 0, 0⟩ ob)
    (hm : MkRel mk ⟨w.heap.size, 0, 0⟩ x) : EffOk P E w r (.new ob mk) :=
  ⟨x, _, ⟨w.heap.size, 0, 0⟩, hr, newB_alloc w _ _, ho _ (heap_alloc_new w _) (newB_alloc w _ _), hm⟩
theorem range_str_ok {t : TypeId} {l : List UInt8} (hu : P.underlying t = some .string) :
    EffOk P E w ((do let y ← Instr.range t (.string ⟨⟨l⟩⟩); pure (Next.value y) : Sem Next).run P w) (.new (.strIter l 0) .ptr) := by
  refine eff_obj (o := .stringIter ⟨⟨l⟩⟩ 0) (x := .pointer (some ⟨w.heap.size, 0, none⟩)) ?_ (fun w' h _ => ⟨rfl, h⟩) rfl
  simp [Instr.range, run_underlying hu]
theorem range_nil_ok {t kt e : TypeId} (hu : P.underlying t = some (.map kt e)) :
    EffOk P E w ((do let y ← Instr.range t (.map none); pure (Next.value y) : Sem Next).run P w) (.new (.mapIter none 0 [] 0) .ptr) := by
  refine eff_obj (o := .mapIter none 0 #[] 0) (x := .pointer (some ⟨w.heap.size, 0, none⟩)) ?_ (fun w' h _ => ⟨rfl, h⟩) rfl
  simp [Instr.range, run_underlying hu]
theorem range_map_ok {t kt e : TypeId} {n cl : Nat} {es : List (V × V × Nat)} {x : Value} (hH : HInv E H.get w) (hu : P.underlying t = some (.map kt e)) (hm : Rd E w (.map n) x) (ho : H.get n = some (.map es cl)) :
    EffOk P E w ((do let y ← Instr.range t x; pure (Next.value y) : Sem Next).run P w) (.new (.mapIter (some n) cl [] cl) .ptr) := by
  obtain ⟨B, es', hB, rfl, h1, h2⟩ := obj_map hH ho hm
  have hg := run_getObj (P := P) h1 (by simp)
  refine eff_obj (o := .mapIter (some B.b) cl #[] cl) (x := .pointer (some ⟨w.heap.size, 0, none⟩)) ?_ (fun w' h _ => ⟨B, hB, rfl, h⟩) rfl
  simp [Instr.range, run_underlying hu, hg]

theorem next_str_ok {n p : Nat} {ty : TypeId} {l : List UInt8} {x : Value} (hH : HInv E H.get w) (hr : Rd E w (.ptr n 0) x) (ho : H.get n = some (.strIter l p)) :
    EffOk P E w ((do let y ← Instr.next x true ty; pure (Next.value y) : Sem Next).run P w)
      (bif Nat.blt p l.length then
          .upd n (.strIter l (p + (Utf8.decode ⟨⟨l⟩⟩ p).2)) (.tuple [.bool true, .int .i64 p, .int .i32 (Utf8.decode ⟨⟨l⟩⟩ p).1])
        else .val (.tuple [.bool false])) := by
  obtain ⟨B, hB, hb0, h1⟩ := hH.obj n _ ho
  cases hr with
  | ptr _ _ B' hB' =>
    have e0 : B' = B := by rw [hB] at hB'; exact (Option.some.inj hB').symm
    subst e0
    have hg := run_getObj (P := P) h1 (by simp)
    have hsz : (⟨⟨l⟩⟩ : ByteArray).size = l.length := rfl
    cases hp : Nat.blt p l.length with
    | true =>
      have hlt : p < l.length := by simpa using hp
      have hs := run_setObj (P := P) (o' := .stringIter ⟨⟨l⟩⟩ (p + (Utf8.decode ⟨⟨l⟩⟩ p).2)) h1 (by simp)
      refine ⟨_, .tuple #[.bool true, goInt p, .int .i32 (Utf8.decode ⟨⟨l⟩⟩ p).1], _, B', ?_, .mk _, hB, chg_setObj w B'.b (.stringIter ⟨⟨l⟩⟩ (p + (Utf8.decode ⟨⟨l⟩⟩ p).2)), ⟨hb0, setObj_at h1⟩,
        .tuple _ [.bool true, goInt p, .int .i32 (Utf8.decode ⟨⟨l⟩⟩ p).1] (.cons _ _ _ _ (.bool _) (.cons _ _ _ _ (.int _ _) (.cons _ _ _ _ (.int _ _) .nil)))⟩
      simp only [Instr.next, hb0, Nat.add_zero, Sem.run_bind, hg, Result.andThen_ok, hsz, hlt, if_true, hs, Sem.run_pure]
    | false =>
      have hlt : ¬ p < l.length := by intro h; rw [show Nat.blt p l.length = true by rw [Nat.blt_eq]; exact h] at hp; cases hp
      refine ⟨_, .tuple #[.bool false], ?_, .mk _, .tuple _ [.bool false] (.cons _ _ _ _ (.bool _) .nil)⟩
      simp only [Instr.next, hb0, Nat.add_zero, Sem.run_bind, hg, Result.andThen_ok, hsz, hlt, if_false, Sem.run_pure]
end
end Go.Abs
