/- The abstract evaluator: what an operation does is what the evaluator says. -/
import Derived.Test.YteapmdjkcpjbmaaGreatAbsL
namespace Go.Abs
section
variable {P : Program} {E : Env} {w w' : World} {H : Heap}

theorem wrap_i64_in {n : Int} (h0 : 0 ≤ n) (h1 : n ≤ 140737488355328) : IntKind.i64.wrap n = n := by
  rw [IntKind.wrap_i64]; omega
theorem makeSlice_ok {t e : TypeId} {i : TypeInfo} {z : V} {zc : List V} {n : Int} (hI : ∀ b, E.I b → b < w.heap.size) (hu : P.underlying t = some (.slice e)) (hi : P.info? e = some i) (hz : zeroV P e = some z)
    (hzc : z.cells? = some zc) (hzl : zc.length = i.size) (hs0 : 0 < i.size) (h0 : 0 ≤ n) (hby : n.toNat * i.bytes ≤ roomN) (hn : n.toNat ≤ roomN) :
    EffOk P E w ((do let y ← Instr.makeSlice t (.int .i64 n) (.int .i64 n); pure (Next.value y) : Sem Next).run P w) (.new (.cells (repl zc n.toNat) e) (.slice n.toNat i.size)) := by
  obtain ⟨y, hy, hr⟩ := zeroV_run (E := E) hz w
  have hcells := hr.cells hzc
  have hys : y.cells.size = i.size := by have := hcells.length; simp at this; omega
  have hiz : i.zero = some y := by
    simp [zeroValue, typeInfo, hi] at hy
    cases hz0 : i.zero with
    | none => simp [hz0] at hy
    | some q => simp [hz0] at hy; rw [hy]
  simp only [roomN] at hby hn
  have hw := wrap_i64_in h0 (by omega)
  have hbig : ¬ ((i.bytes : Int) * n > 2 ^ 48) := by
    have e1 : (i.bytes : Int) * n = ((n.toNat * i.bytes : Nat) : Int) := by
      rw [Int.natCast_mul, Int.mul_comm, show ((n.toNat : Nat) : Int) = n by omega]
    rw [e1]
    have : (2 : Int) ^ 48 = 281474976710656 := by decide
    omega
  have hsz : ((Array.range (n.toNat * i.size)).map (fun j => y.cells[j % y.cells.size]!)).size = n.toNat * i.size := by simp
  refine eff_cells (c := (Array.range (n.toNat * i.size)).map (fun j => y.cells[j % y.cells.size]!)) (x := .slice (some ⟨w.heap.size, 0, none⟩) n.toNat n.toNat) hI ?_ ?_
    ⟨n.toNat, rfl, Nat.le_refl _, by simp only [maxLen]; omega, by show n.toNat * i.size ≤ _; rw [hsz]; exact Nat.le_refl _⟩
  · have hcond : ¬ ((decide (n < 0) || decide ((i.bytes : Int) * n > 2 ^ 48)) || decide (n < 0) || decide (n > n)) = true := by
      simp only [Bool.or_eq_true, decide_eq_true_eq]
      omega
    simp only [Instr.makeSlice, Sem.run_bind, run_underlying hu, Result.andThen_ok, asInt, asIntOf, Sem.run_pure, run_typeInfo hi, hw, if_neg hcond, run_askRoom]
    by_cases hz0 : n.toNat * i.size = 0
    · simp [sizeOf, typeInfo, hi, hz0, newRow, show Array.range 0 = #[] from rfl]
    · simp [sizeOf, typeInfo, hi, hz0, hy, newRow]
  · rw [← hys, range_mod _ _ (by omega)]
    exact repl_rd hcells _

/-- Lists of operands. -/
theorem rds_map {ρ : Operand → V} {ρ' : Operand → Value} : ∀ (l : List Operand), (∀ x ∈ l, Rd E w (ρ x) (ρ' x)) → Rds E w (l.map ρ) (l.map ρ')
  | [], _ => .nil
  | x :: l, h => .cons _ _ _ _ (h x (by simp)) (rds_map l (fun y hy => h y (by simp [hy])))
theorem prel_map {ρ : Operand → V} {ρ' : Operand → Value} : ∀ (l : List (Nat × Operand)), (∀ x ∈ l, Rd E w (ρ x.2) (ρ' x.2)) → PRel E w (l.map fun x => (x.1, ρ x.2)) (l.map fun x => (x.1, ρ' x.2))
  | [], _ => trivial
  | (i, x) :: l, h => ⟨rfl, h (i, x) (by simp), prel_map l (fun y hy => h y (by simp [hy]))⟩
theorem toArr (a : Array Value) : (⟨a.toList⟩ : Array Value) = a := rfl

theorem appendV_ok {t ty : TypeId} {s x : V} {sx xx : Value} (hH : HInv E H.get w) (hs : Rd E w s sx) (hx : Rd E w x xx) :
    EffOk P E w ((do let y ← Builtin.append_ #[t, t] ty #[sx, xx]; pure (Next.value y) : Sem Next).run P w) (appendV P H t s x) := by
  unfold appendV
  split
  · rename_i e hu
    split
    · rename_i i z a n c m hi hz hrs hrx
      cases hm : Nat.beq m 0 with
      | true =>
        have hm0 : m = 0 := by simpa using hm
        subst hm0
        simp only [cond_true]
        obtain ⟨vs, hvs, hx'⟩ := rowOf_run hH hx hrx
        have hcap : ∃ b l cap, sx = .slice b l cap ∧ l ≤ cap := by
          cases hs with
          | slice => exact ⟨_, _, _, rfl, by assumption⟩
          | sliceE => exact ⟨_, _, _, rfl, Nat.le_refl _⟩
          | vec => exact ⟨_, _, _, rfl, by assumption⟩
          | vecNil => exact ⟨_, _, _, rfl, Nat.le_refl _⟩
          | nilslice => exact ⟨_, _, _, rfl, Nat.le_refl _⟩
          | _ => simp [rowOf] at hrs
        obtain ⟨bb, l, cap, rfl, hlc⟩ := hcap
        have hf : ∀ w, (Builtin.firstCells i.size 0 xx).run P w = .ok #[] w := by
          intro w
          rcases hx' with ⟨rfl, _, _⟩ | ⟨bx, ox, capx, rfl, _⟩
          · simp [Builtin.firstCells]
          · simp [Builtin.firstCells, loadCells, loadCellsFrom]
        have hlen : (Builtin.lenOf xx).run P w = .ok 0 w := by
          rcases hx' with ⟨rfl, _, _⟩ | ⟨bx, ox, capx, rfl, _⟩ <;> simp [Builtin.lenOf]
        refine ⟨_, .slice bb l cap, ?_, .mk _, hs⟩
        cases bb with
        | none => simp [Builtin.append_, run_underlying hu, sizeOf, typeInfo, hi, hlen, hlc, hf]
        | some bb => simp [Builtin.append_, run_underlying hu, sizeOf, typeInfo, hi, hlen, hlc, hf, storeCells]
      | false =>
        have hm0 : m ≠ 0 := by intro h; subst h; simp at hm
        simp only [cond_false]
        split
        · rename_i zc hzc
          cases hb : ((Nat.beq zc.length i.size && Nat.blt 0 i.size) && (Nat.beq c.length (m * i.size) && (Nat.beq a.length (n * i.size) && Nat.ble ((n + m) * i.bytes) roomN && Nat.ble (n + m) roomN))) with
          | false => trivial
          | true =>
            simp only [Bool.and_eq_true, Nat.beq_eq, Nat.ble_eq, Nat.blt_eq] at hb
            obtain ⟨⟨h1, h2⟩, h3, ⟨h4, h5⟩, h6⟩ := hb
            simp only [cond_true]
            split
            · exact append_ok hH hu hi hz hzc h1 h2 hs hx hrs hrx hm0 h3 h4 h5 h6 none (.inl ⟨rfl, rfl⟩)
            · rename_i k off l s'
              split
              · rename_i ds et ho
                cases hk : (Nat.beq s' i.size && Nat.beq et e) with
                | false => trivial
                | true =>
                  simp only [Bool.and_eq_true, Nat.beq_eq] at hk
                  obtain ⟨rfl, rfl⟩ := hk
                  have hl : l = n := by
                    simp only [rowOf, ho, Option.map_eq_some_iff, Prod.mk.injEq] at hrs
                    obtain ⟨_, _, _, h⟩ := hrs
                    exact h
                  subst hl
                  exact append_ok hH hu hi hz hzc h1 h2 hs hx hrs hrx hm0 h3 h4 h5 h6 (some k) (.inr ⟨k, off, ds, rfl, rfl, ho⟩)
              · trivial
            · trivial
        · trivial
    · trivial
  · trivial
theorem builtin_ok {b : Builtin} {ts : List TypeId} {ty : TypeId} {cs : Array Bool} {args : List V} {xs : List Value} (hH : HInv E H.get w) (ha : Rds E w args xs) :
    EffOk P E w ((builtin b ⟨ts⟩ ty cs ⟨xs⟩).run P w) (builtinV P H b ts args) := by
  unfold builtinV
  split
  · rename_i t t' s x
    cases hb : Nat.beq t t' with
    | false => trivial
    | true =>
      have e0 : t = t' := by simpa using hb
      subst e0
      cases ha with
      | cons _ sx _ _ hs ht => cases ht with
        | cons _ xx _ _ hx ht =>
          cases ht
          exact appendV_ok hH hs hx
  · rename_i t x
    cases ha with
    | cons _ xx _ _ hx ht =>
      cases ht
      split
      · rename_i n hn
        have := lenV_run hH hx hn (ty := ty)
        exact ⟨_, .int .i64 n, by simp [builtin, this], .mk _, .int _ _⟩
      · trivial
  · rename_i a r
    cases ha with
    | cons _ x _ xs hx ht =>
      refine effOf (s := Builtin.min_ ⟨ts⟩ ty ⟨x :: xs⟩) (fun v hv => ?_)
      obtain ⟨z, hz, hr⟩ := foldMM_run (P := P) hx ht hv
      exact ⟨z, by simpa [Builtin.min_] using hz, hr⟩
  · rename_i a r
    cases ha with
    | cons _ x _ xs hx ht =>
      refine effOf (s := Builtin.max_ ⟨ts⟩ ty ⟨x :: xs⟩) (fun v hv => ?_)
      obtain ⟨z, hz, hr⟩ := foldMM_run (P := P) hx ht hv
      exact ⟨z, by simpa [Builtin.max_] using hz, hr⟩
  · trivial
end
end Go.Abs
