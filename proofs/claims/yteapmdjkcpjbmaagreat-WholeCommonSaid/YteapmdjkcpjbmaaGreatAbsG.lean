/- The abstract evaluator: soundness of single operations, on. -/
import Derived.Test.YteapmdjkcpjbmaaGreatAbsF
namespace Go.Abs
section
variable {P : Program} {E : Env} {w : World} {H : Heap}

theorem eqGuard_ok {op : BinOp} {t : TypeId} {ox oy : Operand} {a b : V} {x y : Value} (ha : Rd E w a x) (hb : Rd E w b y) (hg : guardT P t a b = true) :
    (eqGuard op t ox oy x y).run P w = .ok () w := by
  cases op <;> try rfl
  all_goals
    cases ha <;> try (simp [go_sem]; done)
    all_goals (try (simp [guardT] at hg; done))
    case agg cs vs h =>
      cases hb <;> try (simp [guardT] at hg; done)
      all_goals (try (simp [eqGuard]; done))
      simp only [guardT, Bool.not_eq_true'] at hg
      simp [eqGuard, hg]
    case nilIface =>
      cases hb <;> try (simp [guardT] at hg; done)
      all_goals (simp [eqGuard])

theorem binI_run {op : BinOp} {t : TypeId} {k : IntKind} {a b : Int} {v : V} (h : binI op k a b = some v) (hs : isShift op = false) :
    ∃ z, (binOp op t (.int k a) (.int k b)).run P w = .ok z w ∧ Rd E w v z := by
  cases op <;> simp only [binI, reduceCtorEq, Option.some.injEq, wr] at h <;> try (simp [isShift] at hs; done)
  case quo =>
    cases hz : eqI b 0 with
    | true => simp [hz] at h
    | false =>
      simp [hz] at h
      subst h
      have hb : ¬ b = 0 := by intro e; rw [(eqI_iff b 0).2 e] at hz; cases hz
      exact ⟨_, by simp [binOp, Op.intDiv, hb], .int _ _⟩
  case rem =>
    cases hz : eqI b 0 with
    | true => simp [hz] at h
    | false =>
      simp [hz] at h
      subst h
      have hb : ¬ b = 0 := by intro e; rw [(eqI_iff b 0).2 e] at hz; cases hz
      exact ⟨_, by simp [binOp, Op.intDiv, hb], .int _ _⟩
  all_goals subst h
  case eql => exact ⟨.bool (a == b), by simp [binOp, Op.intCmp], by rw [eqI_eq]; exact .bool _⟩
  case neq => exact ⟨.bool (a != b), by simp [binOp, Op.intCmp], by rw [eqI_eq]; exact .bool _⟩
  case lss => exact ⟨.bool (decide (a < b)), by simp [binOp, Op.intCmp], by rw [ltI_eq]; exact .bool _⟩
  case leq => exact ⟨.bool (!decide (b < a)), by rw [binOp_leq]; simp only [Sem.run_pure]; congr 2; rw [Bool.eq_iff_iff]; simp, by rw [ltI_eq]; exact .bool _⟩
  case gtr => exact ⟨.bool (decide (b < a)), by simp [binOp, Op.intCmp], by rw [ltI_eq]; exact .bool _⟩
  case geq => exact ⟨.bool (!decide (a < b)), by rw [binOp_geq]; simp only [Sem.run_pure]; congr 2; rw [Bool.eq_iff_iff]; simp, by rw [ltI_eq]; exact .bool _⟩
  case and => exact ⟨_, by rw [binOp_and]; rfl, .int _ _⟩
  case or => exact ⟨_, by rw [binOp_or]; rfl, .int _ _⟩
  case xor => exact ⟨_, by rw [binOp_xor]; rfl, .int _ _⟩
  case andNot => exact ⟨_, by rw [binOp_andNot]; rfl, .int _ _⟩
  case add => exact ⟨_, by rw [binOp_add]; rfl, .int _ _⟩
  case sub => exact ⟨_, by rw [binOp_sub]; rfl, .int _ _⟩
  case mul => exact ⟨_, by rw [binOp_mul]; rfl, .int _ _⟩
theorem mk_append (a b : List UInt8) : (⟨⟨a⟩⟩ : ByteArray) ++ ⟨⟨b⟩⟩ = ⟨⟨a ++ b⟩⟩ := by
  have := ByteArray.mk_append_mk a b
  simpa using this
theorem binStr_run {op : BinOp} {t : TypeId} {a b : List UInt8} {v : V} (h : binStr op a b = some v) :
    ∃ z, (binOp op t (.string ⟨⟨a⟩⟩) (.string ⟨⟨b⟩⟩)).run P w = .ok z w ∧ Rd E w v z := by
  cases op <;> simp only [binStr, reduceCtorEq, Option.some.injEq] at h
  case add =>
    cases hz : Nat.ble (a.length + b.length) maxI with
    | false => simp [hz] at h
    | true =>
      simp [hz] at h
      subst h
      have hz' : a.length + b.length ≤ 9223372036854775807 := by simpa [maxI] using hz
      refine ⟨.string (⟨⟨a⟩⟩ ++ ⟨⟨b⟩⟩), ?_, by rw [mk_append]; exact .str _⟩
      have := run_string_add_sum (P := P) w ⟨⟨a⟩⟩ ⟨⟨b⟩⟩ (by simpa [ByteArray.size] using hz')
      simpa [binOp] using this
  all_goals
    subst h
    exact ⟨_, by simp only [binOp, Op.stringOp, toList_mk, Sem.run_pure]; rfl, by (try rw [eqL_eq]); (try rw [ltL_eq]); exact .bool _⟩
theorem shiftI_run {op : BinOp} {t : TypeId} {k k' : IntKind} {a b : Int} {v : V} (h : shiftI op k a b = some v) (hs : isShift op = true) :
    ∃ z, (binOp op t (.int k a) (.int k' b)).run P w = .ok z w ∧ Rd E w v z := by
  unfold shiftI at h
  cases hz : ltI b 0 with
  | true => simp [hz] at h
  | false =>
    have hb : ¬ b < 0 := by rw [ltI_eq] at hz; simpa using hz
    cases op <;> simp [isShift] at hs <;> simp [hz, wr] at h <;> subst h
    · exact ⟨_, by simp [binOp, Op.shift, hb], .int _ _⟩
    · exact ⟨_, by simp [binOp, Op.shift, hb], .int _ _⟩

theorem bin_run {op : BinOp} {t : TypeId} {ox oy : Operand} {a b v : V} {x y : Value} (ha : Rd E w a x) (hb : Rd E w b y) (h : bin P op t a b = some v) :
    ∃ z, (do eqGuard op t ox oy x y; binOp op t x y : Sem Value).run P w = .ok z w ∧ Rd E w v z := by
  unfold bin at h
  split at h
  · rename_i k a k' b
    cases ha; cases hb
    cases hs : isShift op with
    | true => simp [hs] at h; simpa [go_sem] using shiftI_run (t := t) h hs
    | false =>
      simp [hs] at h
      cases hk : kEq k k' with
      | false => simp [hk] at h
      | true =>
        simp [hk] at h
        have := kEq_iff.1 hk
        subst this
        simpa [go_sem] using binI_run (t := t) h hs
  · cases ha; cases hb
    simpa [go_sem] using binStr_run (t := t) h
  · rename_i hn1 hn2
    split at h
    · cases hgt : guardT P t a b with
      | false => simp [hgt] at h
      | true =>
        simp only [hgt, cond_true, Option.map_eq_some_iff] at h
        obtain ⟨r, hr, rfl⟩ := h
        refine ⟨.bool r, ?_, .bool _⟩
        simp only [Sem.run_bind, eqGuard_ok ha hb hgt, Result.andThen_ok]
        have he := eqT_run ha hb hr
        cases ha <;> cases hb <;> first
          | (exfalso; exact hn1 _ _ _ _ rfl rfl)
          | (exfalso; exact hn2 _ _ rfl rfl)
          | (simp [guardT] at hgt; done)
          | simp [binOp, he]
    · cases hgt : guardT P t a b with
      | false => simp [hgt] at h
      | true =>
        simp only [hgt, cond_true, Option.map_eq_some_iff] at h
        obtain ⟨r, hr, rfl⟩ := h
        refine ⟨.bool (!r), ?_, .bool _⟩
        simp only [Sem.run_bind, eqGuard_ok ha hb hgt, Result.andThen_ok]
        have he := eqT_run ha hb hr
        cases ha <;> cases hb <;> first
          | (exfalso; exact hn1 _ _ _ _ rfl rfl)
          | (exfalso; exact hn2 _ _ rfl rfl)
          | (simp [guardT] at hgt; done)
          | simp [binOp, he]
    · simp at h

theorem un_run {op : UnOp} {a v : V} {x : Value} (ha : Rd E w a x) (h : un op a = some v) : ∃ z, (Op.unary op x).run P w = .ok z w ∧ Rd E w v z := by
  unfold un at h
  split at h
  · cases ha; simp [wr] at h; subst h
    exact ⟨_, by simp [Op.unary, Op.intArith], .int _ _⟩
  · cases ha; simp [binI, wr] at h; subst h
    exact ⟨_, by simp [Op.unary, Op.intBits], .int _ _⟩
  · cases ha; simp at h; subst h
    exact ⟨_, by simp [Op.unary], .bool _⟩
  · simp at h
end
end Go.Abs
