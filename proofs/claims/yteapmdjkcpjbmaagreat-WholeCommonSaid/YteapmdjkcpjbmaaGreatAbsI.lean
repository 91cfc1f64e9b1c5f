/- The abstract evaluator: soundness of single operations: new blocks, stores, parts put together. -/
import Derived.Test.YteapmdjkcpjbmaaGreatAbsH
namespace Go.Abs
section
variable {P : Program} {E : Env} {w w' : World} {H : Heap}

theorem evo_new {B : Blk} (hI : ∀ b, E.I b → b < w.heap.size) (h : NewB w w' B) : Evo E w E w' := ⟨fun _ _ h => h, fun _ h => h, fun b hb => h.old b (hI b hb)⟩
theorem evo_chg {b : Nat} (hI : ¬ E.I b) (h : Chg w w' b) : Evo E w E w' := ⟨fun _ _ h => h, fun _ h => h, fun c hc => h.other c (fun e => hI (e ▸ hc))⟩

theorem newB_alloc (w : World) (o : Obj) (n : Nat) : NewB w (w.alloc o) ⟨w.heap.size, 0, n⟩ := ⟨rfl, rfl, rfl, by simp, fun b hb => heap_alloc_old w o b hb, rfl⟩
theorem newB_draw (w : World) (o : Obj) (n : Nat) : NewB w (w.drew.alloc o) ⟨w.heap.size, 0, n⟩ := ⟨rfl, rfl, rfl, by simp, fun b hb => heap_alloc_old w.drew o b hb, rfl⟩

/-- A new row of cells. -/
theorem rep_new {B : Blk} {c : Array Value} {cs : List V} {vs : List Value} {t : TypeId} (hI : ∀ b, E.I b → b < w.heap.size) (h : NewB w w' B) (hb : w'.heap[B.b]? = some (.cells c t (0, 0)))
    (h0 : B.base = 0) (hs : B.size = c.size) (hc : Rcs E w cs vs) (hv : ∀ (i : Nat) (v : Value), vs[i]? = some v → c[i]? = some v) (hl : cs.length ≤ c.size) : ObjRep E w' B (.cells cs t) :=
  ⟨c, 0, 0, vs, hb, .inl rfl, by omega, hc.evo (evo_new hI h), by omega, fun i v hi => by rw [h0, Nat.zero_add]; exact hv i v hi⟩
theorem eff_cells {r : Result Next} {c : Array Value} {cs : List V} {t : TypeId} {mk : Mk} {x : Value} (hI : ∀ b, E.I b → b < w.heap.size) (hr : r = .ok (.value x) (w.alloc (.cells c t)))
    (hc : Rcs E w cs c.toList) (hm : MkRel mk ⟨w.heap.size, 0, c.size⟩ x) : EffOk P E w r (.new (.cells cs t) mk) := by
  refine ⟨x, _, ⟨w.heap.size, 0, c.size⟩, hr, newB_alloc w _ _, ?_, hm⟩
  have hl := hc.length
  refine rep_new hI (newB_alloc w _ _) (heap_alloc_new w _) rfl rfl hc (fun i v hi => ?_) (by simp at hl; omega)
  simpa using hi

theorem box_ok {e : TypeId} {v : V} {x : Value} {cs : List V} (hI : ∀ b, E.I b → b < w.heap.size) (hr : Rd E w v x) (h : v.cells? = some cs) :
    EffOk P E w ((do let y ← Instr.box e x; pure (Next.value y) : Sem Next).run P w) (.new (.cells cs e) .ptr) := by
  refine eff_cells (c := x.cells) (x := .pointer (some ⟨w.heap.size, 0, none⟩)) hI ?_ (hr.cells h) rfl
  simp [Instr.box, newVar, newRow]
theorem alloc_ok {e : TypeId} {z : V} {cs : List V} (hI : ∀ b, E.I b → b < w.heap.size) (hz : zeroV P e = some z) (h : z.cells? = some cs) :
    EffOk P E w ((do let y ← Instr.alloc e true (.tuple #[]); pure (Next.value y) : Sem Next).run P w) (.new (.cells cs e) .ptr) := by
  obtain ⟨x, hx, hr⟩ := zeroV_run (E := E) hz w
  refine eff_cells (c := x.cells) (x := .pointer (some ⟨w.heap.size, 0, none⟩)) hI ?_ (hr.cells h) rfl
  simp [Instr.alloc, hx, newVar, newRow]

/-! ### Parts -/
def PRel (E : Env) (w : World) : List (Nat × V) → List (Nat × Value) → Prop
  | [], [] => True
  | (i, v) :: r, (j, x) :: s => i = j ∧ Rd E w v x ∧ PRel E w r s
  | _, _ => False

theorem foldl_set : ∀ (vs : List Value) (k off : Nat) (c : Array Value), off + k + vs.length ≤ c.size →
    ((vs.zipIdx k).foldl (fun cs (x : Value × Nat) => cs.setIfInBounds (off + x.2) x.1) c).toList = c.toList.take (off + k) ++ vs ++ c.toList.drop (off + k + vs.length)
  | [], k, off, c, h => by simp
  | v :: vs, k, off, c, h => by
    simp only [List.zipIdx_cons, List.foldl_cons]
    rw [foldl_set vs (k + 1) off _ (by simp at h ⊢; omega)]
    have e := list_seg_step c.toList (off + k) v vs (by simp at h ⊢; omega)
    simpa [Array.toList_setIfInBounds, Nat.add_assoc] using e

theorem splice_some {cs vs out : List V} {off : Nat} (h : splice cs off vs = some out) : off + vs.length ≤ cs.length ∧ out = cs.take off ++ (vs ++ cs.drop (off + vs.length)) := by
  unfold splice at h
  cases hb : Nat.ble (off + vs.length) cs.length with
  | false => simp [hb] at h
  | true => simp [hb] at h; exact ⟨by simpa using hb, h.symm⟩

theorem fill_step {place : Nat → Option (Nat × Nat)} {i off s : Nat} {x : Value} {rest : List (Nat × Value)} {c : Array Value} (hp : place i = some (off, s)) (hx : x.cells.size = s) (hc : off + s ≤ c.size) :
    ∃ c' : Array Value, Instr.fill place c ((i, x) :: rest) = Instr.fill place c' rest ∧ c'.toList = c.toList.take off ++ x.cells.toList ++ c.toList.drop (off + s) := by
  refine ⟨x.cells.zipIdx.foldl (fun cs (y : Value × Nat) => cs.setIfInBounds (off + y.2) y.1) c, ?_, ?_⟩
  · have h1 : ¬ (x.cells.size ≠ s || off + x.cells.size > c.size) = true := by simp [hx]; omega
    rw [Instr.fill, hp]
    simp only [if_neg h1]
  · have := foldl_set x.cells.toList 0 off c (by simp [hx]; omega)
    simp only [Nat.add_zero, Array.length_toList, hx] at this
    rw [← this]
    congr 1
    rw [← Array.foldl_toList]
    simp

theorem fillM_run {place : Nat → Option (Nat × Nat)} : ∀ (parts : List (Nat × V)) (parts' : List (Nat × Value)) (cs out : List V) (c : Array Value), PRel E w parts parts' → Rcs E w cs c.toList →
    fillM place cs parts = some out → ∃ c' : Array Value, Instr.fill place c parts' = some c' ∧ Rcs E w out c'.toList
  | [], parts', cs, out, c, hp, hc, h => by
    cases parts' with
    | nil => simp [fillM] at h; subst h; exact ⟨c, rfl, hc⟩
    | cons _ _ => exact hp.elim
  | (i, v) :: r, parts', cs, out, c, hp, hc, h => by
    cases parts' with
    | nil => exact hp.elim
    | cons q s =>
      obtain ⟨j, x⟩ := q
      obtain ⟨rfl, hv, hrest⟩ := hp
      simp only [fillM] at h
      split at h
      · rename_i off n vs hpl hcv
        cases hb : Nat.beq vs.length n with
        | false => simp [hb] at h
        | true =>
          simp only [hb, cond_true] at h
          split at h
          · rename_i cs' hsp
            obtain ⟨hle, rfl⟩ := splice_some hsp
            have hn : vs.length = n := by simpa using hb
            have hcells := hv.cells hcv
            have hxs : x.cells.size = n := by have := hcells.length; simp at this; omega
            have hcl := hc.length
            obtain ⟨c', he, hl⟩ := fill_step (rest := s) hpl hxs (c := c) (by simp at hcl; omega)
            have hc' : Rcs E w (cs.take off ++ (vs ++ cs.drop (off + vs.length))) c'.toList := by
              rw [hl, List.append_assoc, hn]
              exact (hc.take off).append (hcells.append (hc.drop _))
            obtain ⟨c'', he', hr'⟩ := fillM_run r s _ out c' hrest hc' h
            exact ⟨c'', he.trans he', hr'⟩
          · simp at h
      · simp at h

theorem fillF_run {place : Nat → Option (Nat × Nat)} : ∀ (parts : List (Nat × V)) (parts' : List (Nat × Value)) (j : Nat) (out : List V) (pre : List Value) (post : List Value) (c : Array Value),
    PRel E w parts parts' → c.toList = pre ++ post → fillF place j pre.length parts = some out → out.length ≤ post.length →
    ∃ (c' : Array Value) (ys : List Value), Instr.fill place c parts' = some c' ∧ Rcs E w out ys ∧ c'.toList = pre ++ ys ++ post.drop out.length
  | [], parts', j, out, pre, post, c, hp, hc, h, hl => by
    cases parts' with
    | nil => simp [fillF] at h; subst h; exact ⟨c, [], rfl, .nil, by simpa using hc⟩
    | cons _ _ => exact hp.elim
  | (i, v) :: r, parts', j, out, pre, post, c, hp, hc, h, hl => by
    cases parts' with
    | nil => exact hp.elim
    | cons q s =>
      obtain ⟨i', x⟩ := q
      obtain ⟨rfl, hv, hrest⟩ := hp
      simp only [fillF] at h
      split at h
      · rename_i o n vs hpl hcv
        cases hb : (Nat.beq i j && (Nat.beq o pre.length && Nat.beq vs.length n)) with
        | false => simp [hb] at h
        | true =>
          obtain ⟨h1, h2, h3⟩ : i = j ∧ o = pre.length ∧ vs.length = n := by simpa using hb
          simp only [hb, cond_true] at h
          split at h
          · rename_i t ht
            simp at h; subst h
            subst h2; subst h3
            have hcells := hv.cells hcv
            have hxs : x.cells.size = vs.length := by have := hcells.length; simpa using this
            have hlen : vs.length + t.length ≤ post.length := by simpa using hl
            have hcs : c.size = pre.length + post.length := by have := congrArg List.length hc; simpa using this
            obtain ⟨c', he, hl'⟩ := fill_step (rest := s) hpl hxs (c := c) (by omega)
            have hc' : c'.toList = (pre ++ x.cells.toList) ++ post.drop vs.length := by
              rw [hl', hc, List.take_left, List.drop_append]
              simp
            have e : (pre ++ x.cells.toList).length = pre.length + vs.length := by simp [hxs]
            rw [← e] at ht
            obtain ⟨c'', ys, he', hr', hf⟩ := fillF_run r s (j + 1) t (pre ++ x.cells.toList) _ c' hrest hc' ht (by simp; omega)
            refine ⟨c'', x.cells.toList ++ ys, he.trans he', hcells.append hr', ?_⟩
            rw [hf]
            simp [List.drop_drop]
          · simp at h
      · simp at h

theorem fillV_run {place : Nat → Option (Nat × Nat)} {parts : List (Nat × V)} {parts' : List (Nat × Value)} {zero out : List V} {c : Array Value} (hp : PRel E w parts parts') (hc : Rcs E w zero c.toList)
    (h : fillV place zero parts = some out) : ∃ c' : Array Value, Instr.fill place c parts' = some c' ∧ Rcs E w out c'.toList := by
  unfold fillV at h
  split at h
  · rename_i cs hF
    cases hb : Nat.beq cs.length zero.length with
    | false => simp only [hb, cond_false] at h; exact fillM_run _ _ _ _ _ hp hc h
    | true =>
      simp only [hb, cond_true, Option.some.injEq] at h
      subst h
      have hn : cs.length = zero.length := by simpa using hb
      have hcl := hc.length
      obtain ⟨c', ys, he, hr, hf⟩ := fillF_run parts parts' 0 cs [] c.toList c hp (by simp) hF (by omega)
      refine ⟨c', he, ?_⟩
      rw [hf]
      have : c.toList.drop cs.length = [] := List.drop_eq_nil_of_le (by omega)
      simpa [this] using hr
  · exact fillM_run _ _ _ _ _ hp hc h

theorem build_struct_run {t : TypeId} {fs : Array Field} {z out : List V} {pl : List (Nat × Nat)} {parts : List (Nat × V)} {parts' : Array (Nat × Value)} (hz : zeroV P t = some (.agg z)) (hu : P.underlying t = some (.struct fs))
    (hpl : (fs.toList.mapM fun f => (sz P f.type).map fun s => (f.offset, s)) = some pl) (hp : PRel E w parts parts'.toList) (h : fillV (pl[·]?) z parts = some out) :
    ∃ x, (Instr.build t parts').run P w = .ok x w ∧ Rd E w (.agg out) x := by
  obtain ⟨y, hy, hr⟩ := zeroV_run (E := E) hz w
  cases hr with
  | agg _ vs hc =>
    obtain ⟨c', he, hr'⟩ := fillV_run (c := ⟨vs⟩) hp hc h
    have hmap : ∀ (l : List Field) (pl : List (Nat × Nat)), (l.mapM fun f => (sz P f.type).map fun s => (f.offset, s)) = some pl →
        (l.mapM (fun f => do let s ← sizeOf f.type; pure (f.offset, s)) : Sem (List (Nat × Nat))).run P w = .ok pl w := by
      intro l
      induction l with
      | nil => intro pl h; simp at h; subst h; simp
      | cons f l ih =>
        intro pl h
        simp only [List.mapM_cons, Option.bind_eq_bind, Option.bind_eq_some_iff, Option.map_eq_some_iff] at h
        obtain ⟨q, ⟨s, hs, rfl⟩, ps, hps, hh⟩ := h
        simp at hh; subst hh
        simp only [List.mapM_cons, Sem.run_bind, run_sizeOf hs, Result.andThen_ok, Sem.run_pure, ih ps hps]
    have hm := hmap fs.toList pl hpl
    have hm' : (fs.mapM (fun f => do let s ← sizeOf f.type; pure (f.offset, s)) : Sem (Array (Nat × Nat))).run P w = .ok ⟨pl⟩ w := by
      rw [Array.mapM_eq_mapM_toList]
      simp only [Sem.run_map, hm, Result.andThen_ok]
    refine ⟨.agg c', ?_, .agg _ _ hr'⟩
    have he' : Instr.fill (fun x => pl[x]?) ⟨vs⟩ parts'.toList = some c' := he
    simp only [Instr.build, Sem.run_bind, hy, Result.andThen_ok, run_underlying hu, hm', Value.cells]
    simp [he']
theorem build_array_run {t e : TypeId} {n s : Nat} {z out : List V} {parts : List (Nat × V)} {parts' : Array (Nat × Value)} (hz : zeroV P t = some (.agg z)) (hu : P.underlying t = some (.array n e))
    (hs : sz P e = some s) (hp : PRel E w parts parts'.toList) (h : fillV (fun i => some (i * s, s)) z parts = some out) :
    ∃ x, (Instr.build t parts').run P w = .ok x w ∧ Rd E w (.agg out) x := by
  obtain ⟨y, hy, hr⟩ := zeroV_run (E := E) hz w
  cases hr with
  | agg _ vs hc =>
    obtain ⟨c', he, hr'⟩ := fillV_run (c := ⟨vs⟩) hp hc h
    refine ⟨.agg c', ?_, .agg _ _ hr'⟩
    simp only [Instr.build, Sem.run_bind, hy, Result.andThen_ok, run_underlying hu, run_sizeOf hs, Value.cells]
    simp [he]

/-- Zero cells, so many times. -/
theorem repl_rd {zc : List V} {z : Array Value} (hz : Rcs E w zc z.toList) : ∀ n, Rcs E w (repl zc n) (List.replicate n z.toList).flatten
  | 0 => by simpa [repl] using Rcs.nil
  | n + 1 => by simpa [repl, List.replicate_succ] using hz.append (repl_rd hz n)
theorem range_mod (z : Array Value) (n : Nat) (hz : 0 < z.size) : ((Array.range (n * z.size)).map (fun i => z[i % z.size]!)).toList = (List.replicate n z.toList).flatten := by
  induction n with
  | zero => simp
  | succ n ih =>
    apply List.ext_getElem?
    intro i
    rw [List.replicate_succ', List.flatten_append]
    simp only [Array.toList_map, Array.toList_range, List.flatten_singleton]
    have hlen : (List.replicate n z.toList).flatten.length = n * z.size := by simp
    rcases Nat.lt_or_ge i (n * z.size) with h | h
    · rw [List.getElem?_append_left (by rw [hlen]; exact h), ← ih]
      simp only [Array.toList_map, Array.toList_range, List.getElem?_map]
      have h2 : i < (n + 1) * z.size := by rw [Nat.add_mul]; omega
      simp [List.getElem?_range h, List.getElem?_range h2]
    · rw [List.getElem?_append_right (by rw [hlen]; exact h), hlen]
      rcases Nat.lt_or_ge i ((n + 1) * z.size) with h2 | h2
      · have h3 : i - n * z.size < z.size := by rw [Nat.add_mul] at h2; omega
        have h4 : i % z.size = i - n * z.size := by
          have : i = (i - n * z.size) + z.size * n := by rw [Nat.mul_comm z.size n]; omega
          rw [this, Nat.add_mul_mod_self_left, Nat.mod_eq_of_lt h3]
          omega
        simp [List.getElem?_range h2, h4, h3]
      · have h3 : z.size ≤ i - n * z.size := by rw [Nat.add_mul] at h2; omega
        simp [h2, h3]
theorem buildSlice_ok {t e : TypeId} {len s : Nat} {z : V} {zc out : List V} {parts : List (Nat × V)} {parts' : Array (Nat × Value)} (hI : ∀ b, E.I b → b < w.heap.size) (hz : zeroV P e = some z) (hu : P.underlying t = some (.slice e))
    (hs : sz P e = some s) (hzc : z.cells? = some zc) (hzl : zc.length = s) (hs0 : 0 < s) (hlen : len * s ≤ 16777216) (hl0 : 0 < len) (hp : PRel E w parts parts'.toList)
    (h : fillV (fun i => some (i * s, s)) (repl zc len) parts = some out) :
    EffOk P E w ((do let y ← Instr.buildSlice t len parts'; pure (Next.value y) : Sem Next).run P w) (.new (.cells out e) (.slice len s)) := by
  obtain ⟨y, hy, hr⟩ := zeroV_run (E := E) hz w
  have hcells := hr.cells hzc
  have hys : y.cells.size = s := by have := hcells.length; simp at this; omega
  obtain ⟨c', he, hr'⟩ := fillV_run (c := (Array.range (len * y.cells.size)).map (fun i => y.cells[i % y.cells.size]!)) hp (by rw [range_mod _ _ (by omega)]; exact repl_rd hcells len) h
  have hsz : c'.size = len * s := by
    have key : ∀ (l : List (Nat × Value)) (c c' : Array Value), Instr.fill (fun i => some (i * s, s)) c l = some c' → c'.size = c.size := by
      intro l
      induction l with
      | nil => intro c c' h; simp [Instr.fill] at h; rw [h]
      | cons q l ih =>
        intro c c' h
        obtain ⟨i, v⟩ := q
        simp only [Instr.fill] at h
        split at h
        · simp at h
        · rw [ih _ _ h]
          have : ∀ (l : List (Value × Nat)) (c : Array Value), (l.foldl (fun cs (x : Value × Nat) => cs.setIfInBounds (i * s + x.2) x.1) c).size = c.size := by
            intro l
            induction l with
            | nil => intro c; rfl
            | cons a l ih => intro c; rw [List.foldl_cons, ih]; simp
          rw [← Array.foldl_toList]
          exact this _ _
    rw [key _ _ _ he]; simp [hys]
  refine eff_cells (c := c') (x := .slice (some ⟨w.heap.size, 0, none⟩) len len) hI ?_ hr' ⟨len, rfl, Nat.le_refl _, ?_, ?_⟩
  · have hne : ¬ len * s = 0 := by have := Nat.mul_pos hl0 hs0; omega
    have hle : ¬ (len * s > 2 ^ 24) := by simp; omega
    rw [hys] at he
    simp only [Instr.buildSlice, Sem.run_bind, run_underlying hu, Result.andThen_ok, run_sizeOf hs, if_neg hle, if_neg hne, hy, Sem.run_pure, hys, he]
    simp [newRow]
  · have : len ≤ len * s := Nat.le_mul_of_pos_right _ hs0
    simp [maxLen]; omega
  · show len * s ≤ c'.size; omega
theorem buildSlice0_ok {t e : TypeId} {s : Nat} (hu : P.underlying t = some (.slice e)) (hs : sz P e = some s) (hI : ∀ b, E.I b → b < w.heap.size) :
    EffOk P E w ((do let y ← Instr.buildSlice t 0 #[]; pure (Next.value y) : Sem Next).run P w) (.new (.cells [] e) (.slice 0 s)) := by
  refine eff_cells (c := #[]) (x := .slice (some ⟨w.heap.size, 0, none⟩) 0 0) hI ?_ .nil ⟨0, rfl, Nat.le_refl _, by simp [maxLen], by simp⟩
  simp [Instr.buildSlice, run_underlying hu, run_sizeOf hs, Instr.fill, newRow, show Array.range 0 = #[] from rfl]
end
end Go.Abs
