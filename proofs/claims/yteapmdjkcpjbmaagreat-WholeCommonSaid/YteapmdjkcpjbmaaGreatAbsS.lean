/- The abstract evaluator: regions that draw their order: what the evaluator's pass over the operations has seen. -/
import Derived.Test.YteapmdjkcpjbmaaGreatAbsQ
namespace Go.Abs

/-! ### Equality of values -/
theorem sameL_eq {g : V → V → Bool} (hg : ∀ a b, g a b = true → a = b) : ∀ x y : List V, sameL g x y = true → x = y
  | [], [], _ => rfl
  | a :: x, b :: y, h => by
    simp only [sameL, Bool.and_eq_true] at h
    rw [hg a b h.1, sameL_eq hg x y h.2]
  | [], _ :: _, h => by simp [sameL] at h
  | _ :: _, [], h => by simp [sameL] at h
theorem eqL_iff {a b : List UInt8} : eqL a b = true ↔ a = b := by rw [eqL_eq]; simp
theorem eqB_iff {a b : Bool} : eqB a b = true ↔ a = b := by rw [eqB_eq]; simp
theorem sameV_eq : ∀ (f : Nat) (a b : V), sameV f a b = true → a = b := by
  intro f
  induction f with
  | zero => intro a b h; simp [sameV] at h
  | succ f ih =>
    intro a b h
    have hl := sameL_eq (g := sameV f) (fun a b => ih a b)
    unfold sameV at h
    split at h <;> try (first | rfl | (cases h; done))
    all_goals try simp only [Bool.and_eq_true, Nat.beq_eq, eqL_iff, eqB_iff, eqI_iff, kEq_iff] at h
    case h_2 => rw [h.1, h.2]
    case h_3 => rw [h]
    case h_4 => rw [h]
    case h_5 => rw [h.1, h.2]
    case h_6 => rw [h.1, hl _ _ h.2]
    case h_8 => rw [h.1.1, h.1.2, h.2.1, h.2.2]
    case h_9 => rw [h.1, hl _ _ h.2]
    case h_11 => rw [h]
    case h_13 => rw [h.1, hl _ _ h.2.1, hl _ _ h.2.2]
    case h_14 => rw [h]
    case h_16 => rw [h.1, ih _ _ h.2]
    case h_18 => rw [hl _ _ h]
    case h_19 => rw [hl _ _ h]
theorem sameVal_eq {e : Eff} {v : V} (h : sameVal e v = true) : e = .val v := by
  unfold sameVal at h
  split at h
  · rw [sameV_eq _ _ _ h]
  · cases h

theorem allB_all {f : Nat → Bool} : ∀ {n : Nat}, allB f n = true → ∀ j, j < n → f j = true
  | 0, _, j, hj => absurd hj (Nat.not_lt_zero _)
  | n + 1, h, j, hj => by
    simp only [allB, Bool.and_eq_true] at h
    rcases Nat.lt_succ_iff_lt_or_eq.1 hj with h1 | rfl
    · exact allB_all h.2 j h1
    · exact h.1
theorem inL_iff {t : Nat} : ∀ {l : List Nat}, inL t l = true ↔ t ∈ l
  | [] => by simp [inL]
  | u :: r => by simp [inL, inL_iff (l := r)]

/-! ### Masks, heaps under masks -/
section
variable {R R' : Tr RI}
theorem pmOf_congr {i : Nat} (h : ∀ l, l < i → R.get l = R'.get l) : ∀ es : List Edge, pmOf R i es = pmOf R' i es
  | [] => rfl
  | e :: es => by
    simp only [pmOf, pmOf_congr h es]
    cases hm : pmOf R' i es with
    | none => rfl
    | some m =>
      simp only
      cases bindsAny e <;> simp only [cond_true, cond_false]
      cases hb : Nat.blt e.on i with
      | false => rfl
      | true => simp only [cond_true, h e.on (by simpa [Nat.blt_eq] using hb)]
theorem pmOf_step {i : Nat} {e : Edge} {es : List Edge} {m : Nat} (h : pmOf R i (e :: es) = some m) : ∃ m', pmOf R i es = some m' ∧
    ((bindsAny e = false ∧ m = m') ∨ (bindsAny e = true ∧ e.on < i ∧ ∃ q, R.get e.on = some q ∧ m = Nat.lor m' (Nat.lor (Nat.shiftLeft 1 e.on) q.pm))) := by
  simp only [pmOf] at h
  split at h
  · cases h
  · rename_i m' hm
    refine ⟨m', hm, ?_⟩
    cases hb : bindsAny e with
    | false => simp [hb] at h; exact .inl ⟨rfl, h.symm⟩
    | true =>
      simp only [hb, cond_true] at h
      cases hl : Nat.blt e.on i with
      | false => simp [hl] at h
      | true =>
        simp only [hl, cond_true] at h
        split at h
        · rename_i q hq
          simp at h
          exact .inr ⟨rfl, by simpa [Nat.blt_eq] using hl, q, hq, h.symm⟩
        · cases h
theorem tb_lor (a b j : Nat) : (Nat.lor a b).testBit j = (a.testBit j || b.testBit j) := Nat.testBit_or a b j
theorem tb_one (i j : Nat) : (Nat.shiftLeft 1 i).testBit j = decide (i = j) := by
  have : Nat.shiftLeft 1 i = 2 ^ i := by
    show 1 <<< i = 2 ^ i
    rw [Nat.shiftLeft_eq, Nat.one_mul]
  rw [this, Nat.testBit_two_pow]
theorem pmOf_lt {i : Nat} (hR : ∀ l q, l < i → R.get l = some q → ∀ b, q.pm.testBit b = true → b < l) : ∀ (es : List Edge) (m : Nat), pmOf R i es = some m → ∀ b, m.testBit b = true → b < i
  | [], m, h, b, hb => by simp [pmOf] at h; subst h; simp at hb
  | e :: es, m, h, b, hb => by
    obtain ⟨m', hm', ⟨_, rfl⟩ | ⟨_, hlt, q, hq, rfl⟩⟩ := pmOf_step h
    · exact pmOf_lt hR es _ hm' b hb
    · simp only [tb_lor, tb_one, Bool.or_eq_true, decide_eq_true_iff] at hb
      rcases hb with hb | rfl | hb
      · exact pmOf_lt hR es _ hm' b hb
      · exact hlt
      · exact Nat.lt_trans (hR _ q hlt hq b hb) hlt
theorem pmOf_cl {i : Nat} {X : Nat → Prop} (hX : ∀ l q, X l → l < i → R.get l = some q → ∀ b, q.pm.testBit b = true → X b) : ∀ (es : List Edge) (m : Nat), pmOf R i es = some m → (∀ e ∈ es, bindsAny e = true → X e.on) → ∀ b, m.testBit b = true → X b
  | [], m, h, _, b, hb => by simp [pmOf] at h; subst h; simp at hb
  | e :: es, m, h, he, b, hb => by
    have he' : ∀ e ∈ es, bindsAny e = true → X e.on := fun e' h' => he e' (List.mem_cons_of_mem _ h')
    obtain ⟨m', hm', ⟨_, rfl⟩ | ⟨hbi, hlt, q, hq, rfl⟩⟩ := pmOf_step h
    · exact pmOf_cl hX es _ hm' he' b hb
    · have hon := he e (List.mem_cons_self ..) hbi
      simp only [tb_lor, tb_one, Bool.or_eq_true, decide_eq_true_iff] at hb
      rcases hb with hb | rfl | hb
      · exact pmOf_cl hX es _ hm' he' b hb
      · exact hon
      · exact hX _ q hon hlt hq b hb
theorem pmOf_edge {i : Nat} : ∀ (es : List Edge) (m : Nat), pmOf R i es = some m → ∀ e ∈ es, bindsAny e = true → e.on < i
  | e :: es, m, h, e', he', hb => by
    obtain ⟨m', hm', hc⟩ := pmOf_step h
    rcases List.mem_cons.1 he' with rfl | he'
    · rcases hc with ⟨hf, _⟩ | ⟨_, hlt, _⟩
      · rw [hb] at hf; cases hf
      · exact hlt
    · exact pmOf_edge es m' hm' e' he' hb

theorem mergeH_congr {nx0 core m : Nat} : ∀ {j : Nat} {K : Heap}, (∀ l, l < j → R.get l = R'.get l) → mergeH R nx0 core m j K = mergeH R' nx0 core m j K
  | 0, _, _ => rfl
  | j + 1, K, h => by simp only [mergeH, mergeH_congr (j := j) (K := K) (fun l hl => h l (by omega)), h j (by omega)]
theorem allocM_congr {m : Nat} : ∀ {j : Nat}, (∀ l, l < j → R.get l = R'.get l) → allocM R m j = allocM R' m j
  | 0, _ => rfl
  | j + 1, h => by simp only [allocM, allocM_congr (j := j) (fun l hl => h l (by omega)), h j (by omega)]
def isAlloc : RK → Option AObj
  | .alloc o => some o
  | _ => none
theorem mergeH_get {nx0 core m : Nat} : ∀ {j : Nat} {K : Heap} {n : Nat} {o : AObj}, (mergeH R nx0 core m j K).get n = some o →
    (K.get n = some o) ∨ ∃ l q, l < j ∧ n = nx0 + l ∧ m.testBit l = true ∧ core.testBit l = false ∧ R.get l = some q ∧ isAlloc q.k = some o
  | 0, _, _, _, h => .inl h
  | j + 1, K, n, o, h => by
    have ih := fun (h : (mergeH R nx0 core m j K).get n = some o) => mergeH_get h
    have ih' : (mergeH R nx0 core m j K).get n = some o → (K.get n = some o) ∨ ∃ l q, l < j + 1 ∧ n = nx0 + l ∧ m.testBit l = true ∧ core.testBit l = false ∧ R.get l = some q ∧ isAlloc q.k = some o := by
      intro h
      rcases ih h with h | ⟨l, q, h1, h2⟩
      · exact .inl h
      · exact .inr ⟨l, q, by omega, h2⟩
    simp only [mergeH] at h
    cases hb : (m.testBit j && !core.testBit j) with
    | false => rw [hb] at h; exact ih' h
    | true =>
      rw [hb] at h
      simp only [cond_true] at h
      split at h
      · rename_i ob hq
        rw [Tr.get_set] at h
        by_cases hn : n = nx0 + j
        · simp [hn] at h
          subst h
          simp only [Bool.and_eq_true, Bool.not_eq_true'] at hb
          exact .inr ⟨j, _, by omega, hn, hb.1, hb.2, hq, rfl⟩
        · rw [if_neg hn] at h
          exact ih' h
      · exact ih' h
theorem mergeH_hit {nx0 core m : Nat} : ∀ {j : Nat} {K : Heap} {l : Nat} {q : RI} {o : AObj}, l < j → m.testBit l = true → core.testBit l = false → R.get l = some q → isAlloc q.k = some o → (mergeH R nx0 core m j K).get (nx0 + l) = some o
  | j + 1, K, l, q, o, hl, hm, hc, hq, ha => by
    simp only [mergeH]
    by_cases hlj : l = j
    · subst hlj
      obtain ⟨pm, T, v, dst, reads, k⟩ := q
      cases k <;> simp only [isAlloc, reduceCtorEq, Option.some.injEq] at ha
      subst ha
      simp [hm, hc, hq, Tr.get_set]
    · have ih := mergeH_hit (nx0 := nx0) (K := K) (j := j) (by omega) hm hc hq ha
      cases hb : (m.testBit j && !core.testBit j) with
      | false => simpa using ih
      | true =>
        simp only [cond_true]
        split
        · rw [Tr.get_set, if_neg (by omega)]; exact ih
        · exact ih
theorem mergeH_low {nx0 core m : Nat} : ∀ {j : Nat} {K : Heap} {n : Nat} {o : AObj}, K.get n = some o → (∀ l, l < j → m.testBit l = true → core.testBit l = false → n ≠ nx0 + l) → (mergeH R nx0 core m j K).get n = some o
  | 0, _, _, _, h, _ => h
  | j + 1, K, n, o, h, hn => by
    have ih := mergeH_low (nx0 := nx0) (core := core) (m := m) (j := j) h (fun l hl => hn l (by omega))
    simp only [mergeH]
    cases hb : (m.testBit j && !core.testBit j) with
    | false => simpa using ih
    | true =>
      simp only [cond_true]
      simp only [Bool.and_eq_true, Bool.not_eq_true'] at hb
      split
      · rw [Tr.get_set, if_neg (hn j (by omega) hb.1 hb.2)]; exact ih
      · exact ih
theorem allocM_tb {m : Nat} : ∀ {j b : Nat}, (allocM R m j).testBit b = true ↔ b < j ∧ m.testBit b = true ∧ ∃ q o, R.get b = some q ∧ isAlloc q.k = some o
  | 0, b => by simp [allocM]
  | j + 1, b => by
    have ih := allocM_tb (m := m) (j := j) (b := b)
    have plain : (∀ q o, R.get j = some q → isAlloc q.k = some o → m.testBit j = true → False) → ((allocM R m j).testBit b = true ↔ b < j + 1 ∧ m.testBit b = true ∧ ∃ q o, R.get b = some q ∧ isAlloc q.k = some o) := by
      intro hno
      rw [ih]
      constructor
      · rintro ⟨h1, h2⟩; exact ⟨by omega, h2⟩
      · rintro ⟨h1, h2, q, o, h3, h4⟩
        refine ⟨?_, h2, q, o, h3, h4⟩
        rcases Nat.lt_succ_iff_lt_or_eq.1 h1 with h | rfl
        · exact h
        · exact (hno q o h3 h4 h2).elim
    simp only [allocM]
    cases hb : m.testBit j with
    | false => exact plain (fun q o _ _ h => by rw [hb] at h; cases h)
    | true =>
      simp only [cond_true]
      split
      · rename_i pm T v dst reads ob hq
        rw [tb_lor, tb_one, Bool.or_eq_true, ih, decide_eq_true_iff]
        constructor
        · rintro (⟨h1, h2⟩ | rfl)
          · exact ⟨by omega, h2⟩
          · exact ⟨by omega, hb, _, ob, hq, rfl⟩
        · rintro ⟨h1, h2, h3⟩
          rcases Nat.lt_succ_iff_lt_or_eq.1 h1 with h | rfl
          · exact .inl ⟨h, h2, h3⟩
          · exact .inr rfl
      · rename_i hno
        refine plain (fun q o h3 h4 _ => ?_)
        obtain ⟨pm, T, v, dst, reads, k⟩ := q
        cases k <;> simp only [isAlloc, reduceCtorEq, Option.some.injEq] at h4
        exact hno _ _ _ _ _ _ h3
end
end Go.Abs
