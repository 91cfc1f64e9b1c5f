/- The abstract evaluator: soundness of single operations. -/
import Derived.Test.YteapmdjkcpjbmaaGreatAbsD
namespace Go.Abs

/-- A new block has been made. -/
structure NewB (w w' : World) (B : Blk) : Prop where
  os : w'.os = w.os
  tape : w'.tape = w.tape
  output : w'.output = w.output
  size : w'.heap.size = w.heap.size + 1
  old : ∀ b, b < w.heap.size → w'.heap[b]? = w.heap[b]?
  b : B.b = w.heap.size
/-- At most one block has turned. -/
structure Chg (w w' : World) (b : Nat) : Prop where
  os : w'.os = w.os
  tape : w'.tape = w.tape
  output : w'.output = w.output
  size : w'.heap.size = w.heap.size
  other : ∀ c, c ≠ b → w'.heap[c]? = w.heap[c]?
theorem Chg.refl (w : World) (b : Nat) : Chg w w b := ⟨rfl, rfl, rfl, rfl, fun _ _ => rfl⟩
theorem Chg.trans {w w' w'' : World} {b : Nat} (h : Chg w w' b) (k : Chg w' w'' b) : Chg w w'' b :=
  ⟨k.os.trans h.os, k.tape.trans h.tape, k.output.trans h.output, k.size.trans h.size, fun c hc => (k.other c hc).trans (h.other c hc)⟩

def MkRel (mk : Mk) (B : Blk) (x : Value) : Prop :=
  match mk with
  | .ptr => x = .pointer (some ⟨B.b, B.base, none⟩)
  | .map => x = .map (some B.b)
  | .slice len s => ∃ cap, x = .slice (some ⟨B.b, B.base, none⟩) len cap ∧ len ≤ cap ∧ cap ≤ maxLen ∧ cap * s ≤ B.size

/-- What it is that an operation does what the evaluator says. -/
def EffOk (P : Program) (E : Env) (w : World) (r : Result Next) : Eff → Prop
  | .val v => ∃ y x, r = .ok y w ∧ IsVal y x ∧ Rd E w v x
  | .new o mk => ∃ x w' B, r = .ok (.value x) w' ∧ NewB w w' B ∧ ObjRep E w' B o ∧ MkRel mk B x
  | .upd n o v => ∃ y x w' B, r = .ok y w' ∧ IsVal y x ∧ E.σ n = some B ∧ Chg w w' B.b ∧ ObjRep E w' B o ∧ Rd E w v x
  | .app kill o len s => ∃ x w' B, r = .ok (.value x) w' ∧ ((∃ k Bk, kill = some k ∧ E.σ k = some Bk ∧ B.b = Bk.b ∧ Chg w w' B.b) ∨ NewB w w' B) ∧ ObjRep E w' B o ∧ MkRel (.slice len s) B x
  | .enter f args => ∃ xs, r = .ok (.enter f ⟨xs⟩) w ∧ Rds E w args xs
  | .round n args => ∃ xs B, r = (Instr.yield B.b ⟨xs⟩).run P w ∧ E.σ n = some B ∧ Rds E w args xs
  | .panic t v => ∃ x, r = .halt (.panic (.iface t x)) w ∧ Rd E w v x
  | .defer _ => False
  | .stop => True

section
variable {P : Program} {E : Env} {w : World} {H : Heap}

/-- An operation that yields a value and leaves the world. -/
theorem effOf {s : Sem Value} {ov : Option V} (h : ∀ v, ov = some v → ∃ x, s.run P w = .ok x w ∧ Rd E w v x) :
    EffOk P E w ((do let x ← s; pure (Next.value x) : Sem Next).run P w) (Eff.of ov) := by
  cases ov with
  | none => trivial
  | some v =>
    obtain ⟨x, hx, hr⟩ := h v rfl
    exact ⟨.value x, x, by simp [hx], .mk x, hr⟩
theorem effVal {s : Sem Value} {v : V} {x : Value} (h : s.run P w = .ok x w) (hr : Rd E w v x) :
    EffOk P E w ((do let x ← s; pure (Next.value x) : Sem Next).run P w) (.val v) := ⟨.value x, x, by simp [h], .mk x, hr⟩

/-! ### Loads -/
theorem loadV_run {t : TypeId} {a v : V} {x : Value} (hH : HInv E H.get w) (hr : Rd E w a x) (h : loadV P H t a = some v) :
    ∃ y, (Instr.loadAt t x).run P w = .ok y w ∧ Rd E w v y := by
  unfold loadV at h
  cases hr <;> try (simp at h; done)
  case ptr n off B hB =>
    simp only at h
    cases ho : H.get n with
    | none => simp [ho] at h
    | some o =>
      cases o <;> simp only [ho] at h <;> try (simp at h; done)
      rename_i cs et
      obtain ⟨B', hB', c, lo, hi, vs, h1, h2, h3, h4, h5, h6⟩ := hH.obj n _ ho
      rw [hB] at hB'
      cases hB'
      have hl : Lies w B.b B.base vs := fun i v hv => by
        rw [cell_of_row w B.b _ c et (lo, hi) h1]
        exact h6 i v hv
      obtain ⟨y, hy, hry⟩ := loadVar_run h h4 hl
      exact ⟨y, by simpa [Instr.loadAt, Instr.sureAddr] using hy, hry⟩
  case vptr cells off b o vs hI hc hw =>
    simp only at h
    obtain ⟨y, hy, hry⟩ := loadVar_run h hc hw
    exact ⟨y, by simpa [Instr.loadAt, Instr.sureAddr] using hy, hry⟩

/-! ### Equality -/
theorem toList_mk (l : List UInt8) : (⟨⟨l⟩⟩ : ByteArray).toList = l := by rw [ByteArray.toList_eq]
theorem mk_beq (a b : List UInt8) : ((⟨⟨a⟩⟩ : ByteArray) == ⟨⟨b⟩⟩) = (a == b) := by rw [beq_toListBytes, toList_mk, toList_mk]

theorem eqScT_run {t : TypeId} {a b : V} {x y : Value} {r : Bool} (ha : Rd E w a x) (hb : Rd E w b y) (h : eqScT P t a b = some r) (d : Nat) :
    (Op.equalIn (d + 1) t x y).run P w = .ok r w ∧ ∃ b, (isAgg t).run P w = .ok b w ∧ b = false := by
  unfold eqScT at h
  cases hu : P.underlying t with
  | none => simp [hu] at h
  | some u =>
    cases ha <;> cases hb <;> cases u <;> simp only [hu, reduceCtorEq] at h
    case int.int.int k n k' n' kk =>
      cases hkk : kEq k k' with
      | false => simp [hkk] at h
      | true =>
        simp [hkk] at h
        have := kEq_iff.1 hkk
        subst this
        exact ⟨by simp [Op.equalIn, run_underlying hu, ← h, eqI_eq], false, by simp [isAgg, run_underlying hu], rfl⟩
    case bool.bool.bool p q =>
      simp at h
      exact ⟨by simp [Op.equalIn, run_underlying hu, ← h, eqB_eq], false, by simp [isAgg, run_underlying hu], rfl⟩
    case str.str.string p q =>
      simp at h
      exact ⟨by simp [Op.equalIn, run_underlying hu, ← h, eqL_eq, mk_beq], false, by simp [isAgg, run_underlying hu], rfl⟩
theorem noGo (hg : goodB P = true) {f : FuncId} {fn : Func} (h : P.funcs[f]? = some fn) : fn.name ≠ "runtime.NumGoroutine" := by
  simp only [goodB, Bool.and_eq_true, List.all_eq_true] at hg
  have hm : fn ∈ P.funcs.toList := Array.mem_toList_iff.2 (Array.mem_of_getElem? h)
  have := hg.2 fn hm
  simpa using this
theorem mixed (hg : goodB P = true) : P.follows .mixedOrders = true := by
  simp only [goodB, Bool.and_eq_true] at hg
  exact hg.1

theorem part_scalar {t : TypeId} (hb : ∃ b, (isAgg t).run P w = .ok b w ∧ b = false) {vs : List Value} {k : Nat} {x : Value} (hx : vs[k]? = some x) : (part t ⟨vs⟩ k).run P w = .ok x w := by
  obtain ⟨b, hb, rfl⟩ := hb
  simp [part, hb, hx]
theorem Rcs.dropCons {a : V} {l : List V} {vs : List Value} {k : Nat} (h : Rcs E w (a :: l) (vs.drop k)) : ∃ x, vs[k]? = some x ∧ Rd E w a x ∧ Rcs E w l (vs.drop (k + 1)) := by
  generalize hv : vs.drop k = us at h
  cases h with
  | cons _ x _ xs hh h1 ht =>
    refine ⟨x, ?_, hh, ?_⟩
    · have := congrArg (fun l => l[0]?) hv
      simpa using this
    · have := congrArg (List.drop 1) hv
      simp only [List.drop_drop, List.drop_succ_cons, List.drop_zero] at this
      rw [this]; exact ht

theorem eqFieldsT_run : ∀ (fs : List Field) (k : Nat) (x y : List V) (xs ys : List Value) (r : Bool), Rcs E w x (xs.drop k) → Rcs E w y (ys.drop k) → eqFieldsT P fs k x y = some r → ∀ d, (Op.eqFields (d + 1) ⟨xs⟩ ⟨ys⟩ fs).run P w = .ok r w
  | [], k, x, y, xs, ys, r, hx, hy, h, d => by
    cases x <;> cases y <;> simp [eqFieldsT] at h
    subst h; simp [Op.eqFields]
  | f :: fs, k, x, y, xs, ys, r, hx, hy, h, d => by
    cases x with
    | nil => simp [eqFieldsT] at h
    | cons a x =>
      cases y with
      | nil => simp [eqFieldsT] at h
      | cons b y =>
        simp only [eqFieldsT] at h
        cases hk : (Nat.beq f.offset k && f.name != "_") with
        | false => simp [hk] at h
        | true =>
          obtain ⟨hk', hfn⟩ : f.offset = k ∧ f.name ≠ "_" := by simpa using hk
          obtain ⟨u, hu, hru, hxt⟩ := hx.dropCons
          obtain ⟨v, hv, hrv, hyt⟩ := hy.dropCons
          simp only [hk, cond_true] at h
          cases hs : eqScT P f.type a b with
          | none => simp [hs] at h
          | some r' =>
            obtain ⟨he, hagg⟩ := eqScT_run hru hrv hs d
            rw [Op.eqFields, if_pos hfn]
            simp only [hk', Sem.run_bind, part_scalar hagg hu, part_scalar hagg hv, Result.andThen_ok, he]
            cases r' with
            | true =>
              simp only [hs] at h
              simpa using eqFieldsT_run fs (k + 1) x y xs ys r hxt hyt h d
            | false =>
              simp only [hs] at h
              simp at h; subst h; simp

theorem eqArrT_run {e : TypeId} : ∀ (n k : Nat) (x y : List V) (xs ys : List Value) (r : Bool), Rcs E w x (xs.drop k) → Rcs E w y (ys.drop k) → eqArrT P e n x y = some r →
    ∀ d, (forIn (List.range' k n) ((none, ()) : Option Bool × Unit) (fun i _ => do
        let a ← part e ⟨xs⟩ (i * 1)
        let b ← part e ⟨ys⟩ (i * 1)
        let r ← Op.equalIn (d + 1) e a b
        if (!r) = true then pure (ForInStep.done (some false, ())) else pure (ForInStep.yield (none, ()))) : Sem _).run P w = .ok (if r then (none, ()) else (some false, ())) w
  | 0, k, x, y, xs, ys, r, hx, hy, h, d => by
    cases x <;> cases y <;> simp [eqArrT] at h
    subst h; simp
  | n + 1, k, x, y, xs, ys, r, hx, hy, h, d => by
    cases x with
    | nil => simp [eqArrT] at h
    | cons a x =>
      cases y with
      | nil => simp [eqArrT] at h
      | cons b y =>
        simp only [eqArrT] at h
        obtain ⟨u, hu, hru, hxt⟩ := hx.dropCons
        obtain ⟨v, hv, hrv, hyt⟩ := hy.dropCons
        cases hs : eqScT P e a b with
        | none => simp [hs] at h
        | some r' =>
          obtain ⟨he, hagg⟩ := eqScT_run hru hrv hs d
          have ih := eqArrT_run (e := e) n (k + 1) x y xs ys r hxt hyt
          rw [List.range'_succ, List.forIn_cons]
          simp only [Nat.mul_one, Sem.run_bind, part_scalar hagg hu, part_scalar hagg hv, Result.andThen_ok, he] at ih ⊢
          cases r' with
          | true =>
            simp only [hs] at h
            simpa using ih h d
          | false =>
            simp only [hs] at h
            simp at h; subst h; simp

set_option maxHeartbeats 1000000 in
theorem eqT_runD {t : TypeId} {a b : V} {x y : Value} {r : Bool} (ha : Rd E w a x) (hb : Rd E w b y) (h : eqT P t a b = some r) (d : Nat) :
    (Op.equalIn (d + 2) t x y).run P w = .ok r w := by
  unfold eqT at h
  split at h
  case h_17 fs l m hu =>
    cases hp : P.stoodInHeld t with
    | true => simp [hp] at h
    | false =>
      simp only [hp, cond_false] at h
      cases ha with
      | agg _ xs hx =>
        cases hb with
        | agg _ ys hy =>
          have hf : P.fieldsOf t = fs := by simp [Program.fieldsOf, hu]
          rw [run_equalIn_struct w (d + 1) t ⟨xs⟩ ⟨ys⟩ (by rw [hf]; exact hu) hp, hf]
          exact eqFieldsT_run fs.toList 0 l m xs ys r (by simpa using hx) (by simpa using hy) h d
  case h_18 n e l m hu =>
    cases hs : sz P e with
    | none => simp [hs] at h
    | some s =>
      match s, hs, h with
      | 0, hs, h => simp [hs] at h
      | s + 2, hs, h => simp [hs] at h
      | 1, hs, h =>
        simp only [hs] at h
        cases ha with
        | agg _ xs hx =>
          cases hb with
          | agg _ ys hy =>
            have := eqArrT_run n 0 l m xs ys r (by simpa using hx) (by simpa using hy) h d
            rw [Op.equalIn]
            simp only [Sem.run_bind, run_underlying hu, Result.andThen_ok, run_sizeOf hs]
            simp only [Std.Legacy.Range.forIn_eq_forIn_range', Std.Legacy.Range.size] at this ⊢
            simp only [Nat.sub_zero, Nat.add_sub_cancel, Nat.div_one]
            rw [this]
            cases r <;> simp
  case h_19 => exact (eqScT_run ha hb h (d + 1)).1
  all_goals
    rename_i hu
    simp at h
    subst h
    cases ha <;> cases hb <;> (rw [Op.equalIn]; simp only [Sem.run_bind, run_underlying hu, Result.andThen_ok]; rfl)
theorem eqT_run {t : TypeId} {a b : V} {x y : Value} {r : Bool} (ha : Rd E w a x) (hb : Rd E w b y) (h : eqT P t a b = some r) : (Op.equal t x y).run P w = .ok r w :=
  eqT_runD ha hb h 9998
end
end Go.Abs
