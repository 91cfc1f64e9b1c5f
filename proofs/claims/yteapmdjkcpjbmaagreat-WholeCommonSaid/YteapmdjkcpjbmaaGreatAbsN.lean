/- The abstract evaluator: the theorem on one operation. -/
import Derived.Test.YteapmdjkcpjbmaaGreatAbsM
namespace Go.Abs
section
variable {P : Program} {E : Env} {w w' : World} {H : Heap}

theorem mk_data (s : ByteArray) : (⟨⟨s.data.toList⟩⟩ : ByteArray) = s := rfl
theorem convert_ok {src dst : TypeId} {v : V} {x : Value} (hH : HInv E H.get w) (hx : Rd E w v x) : EffOk P E w ((do let y ← convert src dst x; pure (Next.value y) : Sem Next).run P w) (convV P H src dst v) := by
  unfold convV
  split
  · rename_i k j n h1 h2
    cases hx
    exact effVal (x := .int _ _) (by simp [convert, run_underlying h1, run_underlying h2, Conv.intToInt]) (.int _ _)
  · rename_i l h1 h2
    cases hx
    exact effVal (x := .string ⟨⟨l⟩⟩) (by simp [convert, run_underlying h1, run_underlying h2]) (.str _)
  · rename_i j n h1 h2
    cases hx
    exact effVal (x := .string (Utf8.encode n)) (by simp [convert, run_underlying h1, run_underlying h2, Conv.intToString]) (by have := Rd.str (E := E) (w := w) (Utf8.encode n).data.toList; rwa [mk_data] at this)
  · rename_i e0 h1 h2
    split
    · rename_i r n h3 hrow
      cases hb : Nat.beq r.length n with
      | false => trivial
      | true =>
        have hrn : r.length = n := by simpa using hb
        simp only [cond_true]
        refine effOf (fun u hu => ?_)
        simp only [Option.map_eq_some_iff] at hu
        obtain ⟨l, hl, rfl⟩ := hu
        obtain ⟨vs, hvs, hx'⟩ := rowOf_run hH hx hrow
        obtain ⟨ns, hns, hln⟩ := toBytes_run hl hvs
        rcases hx' with ⟨rfl, rfl, hn0⟩ | ⟨b, o, cap, rfl, hlies⟩
        · simp [toBytes] at hl
          subst hl
          refine ⟨.string ⟨⟨[]⟩⟩, ?_, .str _⟩
          rw [run_convert_bytes_string w src dst e0 none 0 0 h1 h3 h2]
          simp [Conv.bytesToString]
          rfl
        · refine ⟨.string ⟨⟨l⟩⟩, ?_, .str _⟩
          rw [run_convert_bytes_string w src dst e0 _ n cap h1 h3 h2]
          have hlen : vs.length = n := by rw [hvs.length, hrn]
          have hc := run_loadCells_lies (P := P) hlies w rfl
          rw [hlen, hns] at hc
          rw [run_bytesToString w _ n cap ns (by simpa using hc), foldl_push_bytes']
          simp [hln]
    · trivial
  · trivial

theorem ord_map {ρ : Operand → V} {ρ' : Operand → Value} (x : Option Operand) (h : ∀ y ∈ x.toArray, Rd E w (ρ y) (ρ' y)) : ORd E w (x.map ρ) (x.map ρ') := by
  cases x with
  | none => trivial
  | some y => exact h y (by simp)

theorem callV_ok (hg : goodB P = true) {f : FuncId} {args : List V} {xs : List Value} (ha : Rds E w args xs) : EffOk P E w ((callFunc f ⟨xs⟩).run P w) (callV P f args) := by
  unfold callV
  split
  · trivial
  · rename_i fn hf
    split
    · rename_i c hb
      have hn := noGo hg hf
      refine ⟨xs, ?_, ha⟩
      simp [callFunc, hf, hn, hb]
    · trivial

set_option maxHeartbeats 1000000 in
theorem opSound (hg : goodB P = true) (hH : HInv E H.get w) {o : Oper} {ρ : Operand → V} {ρ' : Operand → Value} (hρ : ∀ x ∈ o.op.operands, Rd E w (ρ x) (ρ' x)) :
    EffOk P E w ((execOp ρ' o).run P w) (evalOp P ρ H o) := by
  obtain ⟨dst, op, type, pos, after, guard⟩ := o
  simp only at hρ
  cases op <;> simp only [execOp, evalOp] <;> try trivial
  case move x => exact ⟨_, ρ' x, rfl, .mk _, hρ x (by simp [Op.operands])⟩
  case assign x => exact ⟨_, ρ' x, rfl, .mk _, hρ x (by simp [Op.operands])⟩
  case pick c a b =>
    have h1 := hρ c (by simp [Op.operands])
    have h2 := hρ a (by simp [Op.operands])
    have h3 := hρ b (by simp [Op.operands])
    split
    · rename_i t ht
      rw [ht] at h1
      generalize ρ' c = y at h1
      cases h1
      cases t
      · exact ⟨_, ρ' b, by simp [asBool], .mk _, h3⟩
      · exact ⟨_, ρ' a, by simp [asBool], .mk _, h2⟩
    · trivial
  case alloc e =>
    split
    · rename_i z hz
      split
      · rename_i cs hc; exact alloc_ok hH.Ilt hz hc
      · trivial
    · trivial
  case box e x =>
    have h1 := hρ x (by simp [Op.operands])
    split
    · rename_i cs hc; exact box_ok hH.Ilt h1 hc
    · trivial
  case build t parts =>
    have hp : PRel E w (parts.toList.map fun x => (x.1, ρ x.2)) (parts.map fun (i, x) => (i, ρ' x)).toList := by
      have := prel_map (E := E) (w := w) (ρ := ρ) (ρ' := ρ') parts.toList (fun x hx => hρ x.2 (by
        simp only [Op.operands, List.mem_toArray, List.mem_map]; exact ⟨x, hx, rfl⟩))
      simpa using this
    split
    · rename_i z fs hz hu
      split
      · rename_i pl hpl
        refine effOf (fun v hv => ?_)
        simp only [Option.map_eq_some_iff] at hv
        obtain ⟨out, hout, rfl⟩ := hv
        exact build_struct_run hz hu hpl hp hout
      · trivial
    · rename_i z n e hz hu
      split
      · rename_i s hs
        refine effOf (fun v hv => ?_)
        simp only [Option.map_eq_some_iff] at hv
        obtain ⟨out, hout, rfl⟩ := hv
        exact build_array_run hz hu hs hp hout
      · trivial
    · trivial
  case buildSlice t len parts =>
    have hp : PRel E w (parts.toList.map fun x => (x.1, ρ x.2)) (parts.map fun (i, x) => (i, ρ' x)).toList := by
      have := prel_map (E := E) (w := w) (ρ := ρ) (ρ' := ρ') parts.toList (fun x hx => hρ x.2 (by
        simp only [Op.operands, List.mem_toArray, List.mem_map]; exact ⟨x, hx, rfl⟩))
      simpa using this
    split
    · rename_i e hu
      split
      · rename_i z s hz hs
        split
        · rename_i zc hzc
          cases hb : ((Nat.beq zc.length s) && (Nat.blt 0 s && (Nat.ble (len * s) 16777216 && Nat.blt 0 len))) with
          | false =>
            simp only [cond_false]
            cases hl : Nat.beq len 0 with
            | false => trivial
            | true =>
              have hl' : len = 0 := by simpa using hl
              subst hl'
              simp only [cond_true]
              split
              · rename_i hpn
                have hpe : parts = #[] := by apply Array.ext'; simpa using hpn
                subst hpe
                simpa using buildSlice0_ok hu hs hH.Ilt
              · trivial
          | true =>
            simp only [Bool.and_eq_true, Nat.beq_eq, Nat.ble_eq, Nat.blt_eq] at hb
            obtain ⟨h1, h2, h3, h4⟩ := hb
            simp only [cond_true]
            split
            · rename_i cs hcs
              exact buildSlice_ok hH.Ilt hz hu hs hzc h1 h2 h3 h4 hp hcs
            · trivial
        · trivial
      · trivial
    · trivial
  case load t a =>
    exact effOf (fun v hv => loadV_run hH (hρ a (by simp [Op.operands])) hv)
  case store t a x =>
    have h1 := hρ a (by simp [Op.operands])
    have h2 := hρ x (by simp [Op.operands])
    split
    · rename_i n off vs s ha hvs hs
      cases hb : Nat.beq vs.length s with
      | false => trivial
      | true =>
        have hl : vs.length = s := by simpa using hb
        simp only [cond_true]
        split
        · rename_i cs e ho
          split
          · rename_i cs' hsp
            rw [ha] at h1
            exact store_ok hH h1 h2 hvs hs hl ho hsp
          · trivial
        · trivial
    · trivial
  case nilCheck x =>
    have h1 := hρ x (by simp [Op.operands])
    generalize ρ x = v at h1 ⊢
    generalize ρ' x = y at h1 ⊢
    cases v <;> try trivial
    all_goals (have h2 := h1; cases h1; exact ⟨_, _, rfl, .mk _, h2⟩)
  case binOp op t x y yt =>
    exact effOf (s := do eqGuard op t x y (ρ' x) (ρ' y); binOp op t (ρ' x) (ρ' y)) (fun v hv => bin_run (hρ x (by simp [Op.operands])) (hρ y (by simp [Op.operands])) hv)
  case unOp op t x => exact effOf (fun v hv => un_run (hρ x (by simp [Op.operands])) hv)
  case convert src dst x => exact convert_ok hH (hρ x (by simp [Op.operands]))
  case makeInterface t x =>
    have h1 := hρ x (by simp [Op.operands])
    split
    · trivial
    · rename_i d hn hu
      refine effVal (x := .iface t (ρ' x)) ?_ (.iface _ _ _ h1)
      cases d <;> first
        | exact absurd rfl (hn _)
        | simp [Instr.makeInterface, run_underlying hu]
    · trivial
  case makeFunc fn first captured =>
    cases fn <;> try trivial
    rename_i f
    have e1 := rds_map (E := E) (w := w) (ρ := ρ) (ρ' := ρ') first.toList (fun x hx => hρ x (by simp only [Op.operands, Array.mem_append]; exact .inl (Array.mem_toList_iff.1 hx)))
    have e2 := rds_map (E := E) (w := w) (ρ := ρ) (ρ' := ρ') captured.toList (fun x hx => hρ x (by simp only [Op.operands, Array.mem_append]; exact .inr (Array.mem_toList_iff.1 hx)))
    refine effVal (x := .func (.func f) ⟨first.toList.map ρ'⟩ ⟨captured.toList.map ρ'⟩) ?_ (.func _ _ _ _ _ e1 e2)
    have c1 : first.map ρ' = ⟨first.toList.map ρ'⟩ := by apply Array.ext'; simp
    have c2 : captured.map ρ' = ⟨captured.toList.map ρ'⟩ := by apply Array.ext'; simp
    simp only [Instr.makeFunc, Sem.run_pure, c1, c2]
  case makeMap t r =>
    cases r <;> try trivial
    refine eff_obj (o := .map #[] 0) (x := .map (some w.heap.size)) ?_ (fun w' h _ => ⟨#[], h, trivial⟩) rfl
    simp [Instr.makeMap]
  case makeSlice t l c =>
    have h1 := hρ l (by simp [Op.operands])
    have h2 := hρ c (by simp [Op.operands])
    split
    · rename_i e hu
      split
      · rename_i i z n m hi hz hl hm
        split
        · rename_i zc hzc
          cases hb : ((eqI n m && !ltI n 0) && ((Nat.beq zc.length i.size && Nat.blt 0 i.size) && (Nat.ble (n.toNat * i.bytes) roomN && Nat.ble n.toNat roomN))) with
          | false => trivial
          | true =>
            simp only [Bool.and_eq_true, Nat.beq_eq, Nat.ble_eq, Nat.blt_eq, eqI_iff, Bool.not_eq_true', ltI_eq, decide_eq_false_iff_not] at hb
            obtain ⟨⟨rfl, h3⟩, ⟨h4, h5⟩, h6, h7⟩ := hb
            rw [hl] at h1
            rw [hm] at h2
            generalize ρ' l = y1 at h1 ⊢
            generalize ρ' c = y2 at h2 ⊢
            cases h1; cases h2
            simp only [cond_true]
            exact makeSlice_ok hH.Ilt hu hi hz hzc h4 h5 (by omega) h6 h7
        · trivial
      · trivial
    · trivial
  case slice t x lo hi mx =>
    cases mx <;> try trivial
    refine effOf (fun v hv => sliceV_run (hρ x (by simp [Op.operands])) (ord_map lo (fun y hy => hρ y (by simp only [Op.operands, Array.mem_append]; exact .inl (.inl (.inr hy))))) (ord_map hi (fun y hy => hρ y (by simp only [Op.operands, Array.mem_append]; exact .inl (.inr hy)))) hv)
  case fieldAddr s x f => exact effOf (fun v hv => fieldAddrV_run (hρ x (by simp [Op.operands])) hv)
  case field s x f => exact effOf (fun v hv => fieldV_run (hρ x (by simp [Op.operands])) hv)
  case indexAddr t x i => exact effOf (fun v hv => indexAddrV_run (hρ x (by simp [Op.operands])) (hρ i (by simp [Op.operands])) hv)
  case index t x i => exact effOf (fun v hv => indexV_run (hρ x (by simp [Op.operands])) (hρ i (by simp [Op.operands])) hv)
  case lookup t x i ok =>
    have h1 := hρ x (by simp [Op.operands])
    have h2 := hρ i (by simp [Op.operands])
    split
    · rename_i kt e hu
      cases hk : keyOk P kt (ρ i) with
      | false => simp only [cond_false]; split <;> first | trivial | simp_all
      | true =>
        simp only [cond_true]
        split
        · rename_i j v b z hf hz
          obtain ⟨r, hr, hrr⟩ := lookup_run hH hu h1 h2 hk hz hf (v := bif ok then .tuple [v, .bool true] else v) (ok := ok) rfl
          exact effVal hr hrr
        · rename_i z hf hz
          obtain ⟨r, hr, hrr⟩ := lookup_run hH hu h1 h2 hk hz hf (v := bif ok then .tuple [z, .bool false] else z) (ok := ok) rfl
          exact effVal hr hrr
        · trivial
    · trivial
  case mapUpdate t m k x =>
    have h1 := hρ m (by simp [Op.operands])
    have h2 := hρ k (by simp [Op.operands])
    have h3 := hρ x (by simp [Op.operands])
    split
    · rename_i kt e r hu hm
      rw [hm] at h1
      cases hk : keyOk P kt (ρ k) with
      | false => trivial
      | true =>
        simp only [cond_true]
        split
        · rename_i es cl ho
          split
          · rename_i i v b hf; exact mapUpdate_ok hH hu h1 h2 h3 hk ho hf
          · rename_i hf; exact mapUpdate_ok hH hu h1 h2 h3 hk ho hf
          · trivial
        · trivial
    · trivial
  case mapEntry t m k =>
    have h1 := hρ m (by simp [Op.operands])
    have h2 := hρ k (by simp [Op.operands])
    split
    · rename_i kt e r hu hm
      rw [hm] at h1
      cases hk : keyOk P kt (ρ k) with
      | false => trivial
      | true =>
        simp only [cond_true]
        split
        · rename_i es cl ho
          split
          · rename_i i v b z hf hz; exact mapEntry_ok hH hu h1 h2 hk hz ho hf
          · rename_i z hf hz; exact mapEntry_ok hH hu h1 h2 hk hz ho hf
          · trivial
        · trivial
    · trivial
  case entryStore t m s x =>
    have h1 := hρ m (by simp [Op.operands])
    have h2 := hρ s (by simp [Op.operands])
    have h3 := hρ x (by simp [Op.operands])
    split
    · rename_i r kk b hm hs
      rw [hm] at h1
      rw [hs] at h2
      generalize ρ' s = y2 at h2 ⊢
      cases h2
      split
      · rename_i es cl ho
        split
        · rename_i i hf; exact entryStore_ok hH h1 h3 ho hf
        · trivial
      · trivial
    · trivial
  case range t x =>
    have h1 := hρ x (by simp [Op.operands])
    split
    · rename_i l hu hx
      rw [hx] at h1
      generalize ρ' x = y at h1 ⊢
      cases h1
      exact range_str_ok hu
    · rename_i kt e hu hx
      rw [hx] at h1
      generalize ρ' x = y at h1 ⊢
      cases h1
      exact range_nil_ok hu
    · rename_i kt e r hu hx
      rw [hx] at h1
      split
      · rename_i es cl ho; exact range_map_ok hH hu h1 ho
      · trivial
    · trivial
  case next it isS =>
    have h1 := hρ it (by simp [Op.operands])
    cases isS
    · simp only
      split
      · rename_i n hx
        rw [hx] at h1
        split
        · rename_i since seen st ho; exact next_map_nil_ok hH h1 ho
        · rename_i m since seen st ho
          split
          · rename_i es cl hm
            cases hb : (Nat.ble since st && es.all (fun e => Nat.blt e.2.2 since)) with
            | false => trivial
            | true =>
              simp only [Bool.and_eq_true, Nat.ble_eq] at hb
              simp only [cond_true]
              exact next_map_ok hH h1 ho hm hb.1 hb.2
          · trivial
        · trivial
      · trivial
    · simp only
      split
      · rename_i n hx
        rw [hx] at h1
        split
        · rename_i l p ho; exact next_str_ok hH h1 ho
        · trivial
      · trivial
  case entry it =>
    have h1 := hρ it (by simp [Op.operands])
    split
    · rename_i n hx
      rw [hx] at h1
      split
      · rename_i m since b seen st ho
        split
        · rename_i es cl hm
          cases hb : Nat.beq cl st with
          | false => trivial
          | true =>
            simp only [cond_true]
            split
            · rename_i k v c hf; exact entry_ok hH h1 ho hm (by simpa using hb) hf
            · trivial
        · trivial
      · trivial
    · trivial
  case extract t i =>
    have h1 := hρ t (by simp [Op.operands])
    split
    · rename_i vs hx
      rw [hx] at h1
      generalize ρ' t = y at h1 ⊢
      cases h1 with
      | tuple _ xs hxs =>
        refine effOf (fun v hv => ?_)
        obtain ⟨x, hx', hr⟩ := hxs.get hv
        exact ⟨x, by simp [Instr.extract, hx'], hr⟩
    · trivial
  case panic x =>
    have h1 := hρ x (by simp [Op.operands])
    split
    · rename_i t v hx
      rw [hx] at h1
      generalize ρ' x = y at h1 ⊢
      cases h1 with
      | iface _ _ z hz => exact ⟨z, by simp [Instr.panic], hz⟩
    · trivial
  case call c =>
    obtain ⟨callee, args, ats⟩ := c
    have hargs := rds_map (E := E) (w := w) (ρ := ρ) (ρ' := ρ') args.toList (fun x hx => hρ x (by simp only [Op.operands, Call.operands, Array.mem_append]; exact .inr (Array.mem_toList_iff.1 hx)))
    have c1 : args.map ρ' = ⟨args.toList.map ρ'⟩ := by apply Array.ext'; simp
    cases callee with
    | builtin b =>
      simp only [resolve, Sem.run_bind, Sem.run_pure, Result.andThen_ok, invoke, c1]
      exact builtin_ok hH hargs
    | invoke r m => trivial
    | value f =>
      have h1 := hρ f (by simp [Op.operands, Call.operands])
      simp only
      split
      · rename_i g first captured hx
        rw [hx] at h1
        simp only [resolve, Sem.run_bind, c1]
        generalize ρ' f = y at h1 ⊢
        cases h1 with
        | func _ _ _ fs cs hf hc =>
          have := callV_ok (P := P) hg (f := g) ((hf.append hargs).append hc)
          simpa [Deferred.ofValue, invoke] using this
      · rename_i n hx
        rw [hx] at h1
        simp only [resolve, Sem.run_bind, c1]
        generalize ρ' f = y at h1 ⊢
        cases h1 with
        | yield _ B hB =>
          exact ⟨_, B, by simp [Deferred.ofValue, invoke], hB, hargs⟩
      · trivial
end
end Go.Abs
