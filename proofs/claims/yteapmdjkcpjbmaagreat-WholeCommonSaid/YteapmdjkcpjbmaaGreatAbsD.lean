/- The abstract evaluator: what one operation does is what the model's operation does. First: helpers. -/
import Derived.Test.YteapmdjkcpjbmaaGreatAbsC
import Derived.Laws.Cells
import Derived.Laws.CopyRow
import Derived.Laws.Append
import Derived.Laws.StructEq
import Derived.Laws.Strings
import Derived.Laws.Strings2
import Derived.Laws.Concat
import Derived.Laws.Small
namespace Go.Abs

/-! ### The fast tests -/
theorem ltI_eq (a b : Int) : ltI a b = decide (a < b) := by
  rw [Bool.eq_iff_iff, decide_eq_true_iff]
  cases a <;> cases b <;> simp [ltI, Nat.blt_eq] <;> omega
theorem eqI_eq (a b : Int) : eqI a b = (a == b) := by
  rw [Bool.eq_iff_iff]
  cases a <;> cases b <;> simp [eqI]
  omega
theorem eqI_iff (a b : Int) : eqI a b = true ↔ a = b := by rw [eqI_eq]; simp
theorem eqB_eq (a b : Bool) : eqB a b = (a == b) := by cases a <;> cases b <;> rfl
theorem eqU_eq (a b : UInt8) : eqU a b = (a == b) := by
  rw [Bool.eq_iff_iff]
  simp [eqU, UInt8.toNat_inj]
theorem eqL_eq : ∀ (a b : List UInt8), eqL a b = (a == b)
  | [], [] => rfl
  | [], _ :: _ => rfl
  | _ :: _, [] => rfl
  | a :: x, b :: y => by simp [eqL, eqL_eq x y, eqU_eq]
theorem ltL_eq : ∀ (a b : List UInt8), ltL a b = Op.bytesLess a b
  | [], [] => rfl
  | [], _ :: _ => rfl
  | _ :: _, [] => rfl
  | a :: x, b :: y => by
    simp only [ltL, Op.bytesLess, eqU_eq, ltL_eq x y]
    congr 1
    rw [Bool.eq_iff_iff]
    simp [UInt8.lt_iff_toNat_lt]
theorem kEq_iff {a b : IntKind} : kEq a b = true ↔ a = b := by simp [kEq]

/-! ### Runs -/
section runs
variable {P : Program} {E : Env} {w : World}

theorem run_typeInfo {t : TypeId} {i : TypeInfo} (h : P.info? t = some i) (w : World) : (typeInfo t).run P w = .ok i w := by simp [typeInfo, h]
theorem run_sizeOf {t : TypeId} {n : Nat} (h : sz P t = some n) (w : World) : (sizeOf t).run P w = .ok n w := by
  unfold sz at h
  cases hi : P.info? t with
  | none => simp [hi] at h
  | some i => simp [hi] at h; simp [sizeOf, typeInfo, hi, h]
theorem tySz_spec {t : TypeId} {b : Bool} {n : Nat} (h : tySz P t = some (b, n)) (w : World) : (isAgg t).run P w = .ok b w ∧ (sizeOf t).run P w = .ok n w := by
  unfold tySz at h
  cases hi : P.info? t with
  | none => simp [hi] at h
  | some i =>
    cases hu : P.underlying t with
    | none => simp [hi, hu] at h
    | some d =>
      simp only [hi, hu, Option.some.injEq, Prod.mk.injEq] at h
      obtain ⟨h1, h2⟩ := h
      refine ⟨?_, by simp [sizeOf, typeInfo, hi, h2]⟩
      subst h1
      simp only [isAgg, Sem.run_bind, run_underlying hu, Result.andThen_ok]
      cases d <;> rfl

/-- A value of an operation: it is handed on, or there is none. -/
def IsVal (y : Next) (x : Value) : Prop := y = .value x ∨ (y = .skip ∧ x = undef)
theorem IsVal.mk (x : Value) : IsVal (.value x) x := .inl rfl

theorem Rd.ofScalar {v : Value} : Rd E w (ofScalar v) v := by
  unfold Abs.ofScalar
  split <;> first | exact .any _ | constructor
theorem Rcs.ofScalars : ∀ (l : List Value), l.all isScalar = true → Rcs E w (l.map Abs.ofScalar) l
  | [], _ => .nil
  | v :: l, h => by
    simp only [List.all_cons, Bool.and_eq_true] at h
    refine .cons _ _ _ _ Rd.ofScalar ?_ (Rcs.ofScalars l h.2)
    have h1 := h.1
    cases v <;> simp_all [isScalar, Value.oneCell']
theorem Rd.ofValue (v : Value) : Rd E w (ofValue v) v := by
  cases v with
  | agg cs =>
    simp only [Abs.ofValue]
    cases h : cs.toList.all isScalar with
    | true => exact .agg _ _ (Rcs.ofScalars _ h)
    | false => exact .any _
  | _ => simp only [Abs.ofValue]; exact Rd.ofScalar
theorem Rd.cells {v : V} {x : Value} {cs : List V} (h : Rd E w v x) (hc : v.cells? = some cs) : Rcs E w cs x.cells.toList := by
  cases h <;> simp only [V.cells?, Option.some.injEq, reduceCtorEq] at hc <;> subst hc
  case agg vs h => exact h
  all_goals (refine .cons _ _ _ _ ?_ rfl .nil; constructor <;> assumption)
theorem zeroV_run {t : TypeId} {z : V} (h : zeroV P t = some z) (w : World) : ∃ x, (zeroValue t).run P w = .ok x w ∧ Rd E w z x := by
  unfold zeroV at h
  cases hi : P.info? t with
  | none => simp [hi] at h
  | some i =>
    cases hz : i.zero with
    | none => simp [hi, hz] at h
    | some x =>
      simp [hi, hz] at h
      subst h
      exact ⟨x, by simp [zeroValue, typeInfo, hi, hz], Rd.ofValue x⟩

theorem add_addr (b o n : Nat) : (⟨b, o, none⟩ : Addr).add n = ⟨b, o + n, none⟩ := by
  unfold Addr.add
  split
  · simp_all
  · rfl

/-- A part of cells. -/
theorem partV_run {t : TypeId} {cs : List V} {vs : List Value} {off : Nat} {v : V} (h : partV P t cs off = some v) (hr : Rcs E w cs vs) :
    ∃ x, (part t ⟨vs⟩ off).run P w = .ok x w ∧ Rd E w v x := by
  unfold partV at h
  split at h
  · rename_i n ht
    obtain ⟨h1, h2⟩ := tySz_spec ht w
    unfold cut at h
    cases hb : Nat.ble (off + n) cs.length with
    | false => simp [hb] at h
    | true =>
      simp [hb] at h
      subst h
      refine ⟨.agg ⟨(vs.drop off).take n⟩, ?_, .agg _ _ ((hr.drop off).take n)⟩
      simp only [part, Sem.run_bind, h1, Result.andThen_ok, if_true, h2, Sem.run_pure]
      congr 2
      simp [List.extract_eq_take_drop, Nat.add_sub_cancel_left]
  · rename_i n ht
    obtain ⟨h1, h2⟩ := tySz_spec ht w
    obtain ⟨x, hx, hrx, _⟩ := hr.get h
    refine ⟨x, ?_, hrx⟩
    simp [part, h1, hx]
  · simp at h

/-- Cells that lie in the world one behind the other. -/
def Lies (w : World) (b o : Nat) (vs : List Value) : Prop := ∀ i v, vs[i]? = some v → w.cell? ⟨b, o + i, none⟩ = some v
theorem Lies.drop {b o : Nat} {vs : List Value} (h : Lies w b o vs) (n : Nat) : Lies w b (o + n) (vs.drop n) := by
  intro i v hv
  rw [List.getElem?_drop] at hv
  have := h (n + i) v hv
  rwa [← Nat.add_assoc] at this
theorem Lies.take {b o : Nat} {vs : List Value} (h : Lies w b o vs) (n : Nat) : Lies w b o (vs.take n) := by
  intro i v hv
  rw [List.getElem?_take] at hv
  split at hv
  · exact h i v hv
  · simp at hv
theorem run_loadCells_lies {b o : Nat} {vs : List Value} (h : Lies w b o vs) (w' : World) (hw : w' = w) : (loadCells ⟨b, o, none⟩ vs.length).run P w' = .ok ⟨vs⟩ w' := by
  subst hw
  have := run_loadCells_list (P := P) (w := w') ⟨b, o, none⟩ vs (fun j v hv => by rw [add_addr]; exact h j v hv)
  simpa using this

theorem loadVar_run {t : TypeId} {cs : List V} {vs : List Value} {b o off : Nat} {v : V} (h : partV P t cs off = some v) (hr : Rcs E w cs vs) (hl : Lies w b o vs) :
    ∃ x, (loadVar t ⟨b, o + off, none⟩).run P w = .ok x w ∧ Rd E w v x := by
  unfold partV at h
  split at h
  · rename_i n ht
    obtain ⟨h1, h2⟩ := tySz_spec ht w
    unfold cut at h
    cases hb : Nat.ble (off + n) cs.length with
    | false => simp [hb] at h
    | true =>
      simp [hb] at h
      subst h
      have hlen : ((vs.drop off).take n).length = n := by
        have := hr.length
        have hb' : off + n ≤ cs.length := by simpa using hb
        simp; omega
      refine ⟨.agg ⟨(vs.drop off).take n⟩, ?_, .agg _ _ ((hr.drop off).take n)⟩
      have := run_loadCells_lies (P := P) ((hl.drop off).take n) w rfl
      rw [hlen] at this
      simp only [loadVar, Sem.run_bind, h1, Result.andThen_ok, if_true, h2, this, Sem.run_pure]
  · rename_i n ht
    obtain ⟨h1, h2⟩ := tySz_spec ht w
    obtain ⟨x, hx, hrx, _⟩ := hr.get h
    refine ⟨x, ?_, hrx⟩
    have := hl off x hx
    simp [loadVar, h1, this]
  · simp at h
end runs
end Go.Abs
