/- The abstract evaluator: soundness of single operations: addresses, parts, conversions, builtins that read. -/
import Derived.Test.YteapmdjkcpjbmaaGreatAbsG
import Derived.Laws.BytesString
namespace Go.Abs
section
variable {P : Program} {E : Env} {w : World} {H : Heap}

theorem fieldAddrV_run {s : TypeId} {f : Nat} {a v : V} {x : Value} (ha : Rd E w a x) (h : fieldAddrV P s a f = some v) :
    ∃ z, (Instr.fieldAt s x f).run P w = .ok z w ∧ Rd E w v z := by
  unfold fieldAddrV at h
  split at h
  · rename_i fs hu
    split at h
    · rename_i fd hf
      split at h
      · rename_i m n off hs
        simp at h; subst h
        cases ha with
        | ptr _ _ B hB =>
          refine ⟨.pointer (some ⟨B.b, B.base + (off + fd.offset), none⟩), ?_, .ptr _ _ B hB⟩
          simp [Instr.fieldAt, run_underlying hu, hf, Instr.sureAddr, fieldPlace, run_sizeOf hs, add_addr, Nat.add_assoc]
      · rename_i m cs off hs
        simp at h; subst h
        cases ha with
        | vptr _ _ b o vs hI hc hw =>
          refine ⟨.pointer (some ⟨b, o + (off + fd.offset), none⟩), ?_, .vptr _ _ b o vs hI hc hw⟩
          simp [Instr.fieldAt, run_underlying hu, hf, Instr.sureAddr, fieldPlace, run_sizeOf hs, add_addr, Nat.add_assoc]
      · simp at h
    · simp at h
  · simp at h

theorem fieldV_run {s : TypeId} {f : Nat} {a v : V} {x : Value} (ha : Rd E w a x) (h : fieldV P s a f = some v) :
    ∃ z, (Instr.field s x f).run P w = .ok z w ∧ Rd E w v z := by
  unfold fieldV at h
  split at h
  · rename_i fs cs hu
    split at h
    · rename_i fd hf
      cases ha with
      | agg _ vs hc =>
        obtain ⟨z, hz, hr⟩ := partV_run h hc
        exact ⟨z, by simpa [Instr.field, run_underlying hu, hf, asAgg] using hz, hr⟩
    · simp at h
  · simp at h

theorem indexAddrV_run {t : TypeId} {a i v : V} {x y : Value} (ha : Rd E w a x) (hi : Rd E w i y) (h : indexAddrV P t a i = some v) :
    ∃ z, (Instr.indexAt t x y).run P w = .ok z w ∧ Rd E w v z := by
  unfold indexAddrV at h
  split at h
  · rename_i k n
    cases hi
    cases hn : ltI n 0 with
    | true => simp [hn] at h
    | false =>
      have h0 : 0 ≤ n := by rw [ltI_eq] at hn; simpa using hn
      simp only [hn, cond_false] at h
      split at h
      · rename_i e nm off len s hu
        cases hb : Nat.blt n.toNat len with
        | false => simp [hb] at h
        | true =>
          simp only [hb, cond_true, Option.map_eq_some_iff] at h
          obtain ⟨q, hq, rfl⟩ := h
          have hlt : n.toNat < len := by simpa using hb
          have hlt' : n < (len : Int) := by omega
          cases ha with
          | slice _ _ _ _ cap B hB hl hm hs =>
            refine ⟨.pointer (some ⟨B.b, B.base + (off + n.toNat * q), none⟩), ?_, .ptr _ _ B hB⟩
            simp [Instr.indexAt, asIntOf, run_underlying hu, h0, hlt', run_sizeOf hq, add_addr, Nat.add_assoc]
          | sliceE _ _ _ o B hB ho => omega
      · rename_i e cs len hu
        cases hb : Nat.blt n.toNat len with
        | false => simp [hb] at h
        | true =>
          simp only [hb, cond_true, Option.map_eq_some_iff] at h
          obtain ⟨q, hq, rfl⟩ := h
          have hlt : n.toNat < len := by simpa using hb
          have hlt' : n < (len : Int) := by omega
          cases ha with
          | vec _ _ cap b o vs hI hc hw hl hm =>
            refine ⟨.pointer (some ⟨b, o + n.toNat * q, none⟩), ?_, .vptr _ _ b o vs hI hc hw⟩
            simp [Instr.indexAt, asIntOf, run_underlying hu, h0, hlt', run_sizeOf hq, add_addr]
          | vecNil => omega
      · rename_i m e nm off hu
        cases hb : Nat.blt n.toNat m with
        | false => simp [hb] at h
        | true =>
          simp only [hb, cond_true, Option.map_eq_some_iff] at h
          obtain ⟨q, hq, rfl⟩ := h
          have hlt : n.toNat < m := by simpa using hb
          have hlt' : n < (m : Int) := by omega
          cases ha with
          | ptr _ _ B hB =>
            refine ⟨.pointer (some ⟨B.b, B.base + (off + n.toNat * q), none⟩), ?_, .ptr _ _ B hB⟩
            simp [Instr.indexAt, asIntOf, run_underlying hu, h0, hlt', run_sizeOf hq, add_addr, Nat.add_assoc, Instr.sureAddr]
      · rename_i m e cs off hu
        cases hb : Nat.blt n.toNat m with
        | false => simp [hb] at h
        | true =>
          simp only [hb, cond_true, Option.map_eq_some_iff] at h
          obtain ⟨q, hq, rfl⟩ := h
          have hlt : n.toNat < m := by simpa using hb
          have hlt' : n < (m : Int) := by omega
          cases ha with
          | vptr _ _ b o vs hI hc hw =>
            refine ⟨.pointer (some ⟨b, o + (off + n.toNat * q), none⟩), ?_, .vptr _ _ b o vs hI hc hw⟩
            simp [Instr.indexAt, asIntOf, run_underlying hu, h0, hlt', run_sizeOf hq, add_addr, Nat.add_assoc, Instr.sureAddr]
      · simp at h
  · simp at h

theorem mk_get? (l : List UInt8) (i : Nat) : (⟨⟨l⟩⟩ : ByteArray)[i]? = l[i]? := by
  rcases Nat.lt_or_ge i l.length with h | h
  · have hs : i < (⟨⟨l⟩⟩ : ByteArray).size := h
    rw [ByteArray.getElem?_lt' _ _ hs, List.getElem?_eq_getElem h]
    rfl
  · have hs : ¬ i < (⟨⟨l⟩⟩ : ByteArray).size := by show ¬ i < l.length; omega
    rw [ByteArray.getElem?_ge' _ _ hs, List.getElem?_eq_none (by omega)]

theorem indexV_run {t : TypeId} {a i v : V} {x y : Value} (ha : Rd E w a x) (hi : Rd E w i y) (h : indexV P t a i = some v) :
    ∃ z, (Instr.index t x y).run P w = .ok z w ∧ Rd E w v z := by
  unfold indexV at h
  split at h
  · rename_i k n
    cases hi
    cases hn : ltI n 0 with
    | true => simp [hn] at h
    | false =>
      have h0 : 0 ≤ n := by rw [ltI_eq] at hn; simpa using hn
      simp only [hn, cond_false] at h
      split at h
      · rename_i s hu
        split at h
        · rename_i b hb
          simp at h; subst h
          cases ha
          exact ⟨.int .u8 b.toNat, by simp [Instr.index, asIntOf, run_underlying hu, h0, mk_get?, hb], .int _ _⟩
        · simp at h
      · rename_i m e cs hu
        cases hb : Nat.blt n.toNat m with
        | false => simp [hb] at h
        | true =>
          have hlt : n.toNat < m := by simpa using hb
          have hlt' : n < (m : Int) := by omega
          simp only [hb, cond_true] at h
          split at h
          · rename_i q hq
            cases ha with
            | agg _ vs hc =>
              obtain ⟨z, hz, hr⟩ := partV_run h hc
              exact ⟨z, by simpa [Instr.index, asIntOf, run_underlying hu, h0, hlt', run_sizeOf hq] using hz, hr⟩
          · simp at h
      · simp at h
  · simp at h

theorem boundV_run {i : V} {y : Value} {m n : Nat} (hi : Rd E w i y) (h : boundV i m = some n) (c : BoundsCode) : (Instr.sliceBound y m c).run P w = .ok n w ∧ n ≤ m := by
  unfold boundV at h
  split at h
  · rename_i k q
    cases hi
    cases hn : ltI q 0 with
    | true => simp [hn] at h
    | false =>
      have h0 : 0 ≤ q := by rw [ltI_eq] at hn; simpa using hn
      cases hb : Nat.ble q.toNat m with
      | false => simp [hn, hb] at h
      | true =>
        have hle : q.toNat ≤ m := by simpa using hb
        simp [hn, hb] at h
        subst h
        exact ⟨by simp [Instr.sliceBound, asIntOf, h0, show q ≤ (m : Int) by omega], hle⟩
  · simp at h

/-- Optional bounds. -/
def ORd (E : Env) (w : World) : Option V → Option Value → Prop
  | none, none => True
  | some v, some x => Rd E w v x
  | _, _ => False

theorem boundV_mono {v : V} {m m' n : Nat} (h : boundV v m = some n) (hm : m ≤ m') : boundV v m' = some n := by
  cases v <;> simp only [boundV, reduceCtorEq] at h ⊢
  rename_i k q
  cases hn : ltI q 0 with
  | true => simp [hn] at h
  | false =>
    cases hb : Nat.ble q.toNat m with
    | false => simp [hn, hb] at h
    | true =>
      simp [hn, hb] at h
      have h1 : q.toNat ≤ m := by simpa using hb
      have : Nat.ble q.toNat m' = true := by simpa using Nat.le_trans h1 hm
      rw [h] at this
      simp [h, this]
theorem boundO_run {d m n : Nat} {i : Option V} {i' : Option Value} (h : ORd E w i i') (hb : boundO d i m = some n) (hd : d ≤ m) :
    n ≤ m ∧ ((i' = none ∧ n = d) ∨ ∃ x, i' = some x ∧ ∀ m', m ≤ m' → ∀ c, (Instr.sliceBound x m' c).run P w = .ok n w) := by
  cases i with
  | none =>
    cases i' with
    | some _ => exact h.elim
    | none => simp [boundO] at hb; subst hb; exact ⟨hd, .inl ⟨rfl, rfl⟩⟩
  | some v =>
    cases i' with
    | none => exact h.elim
    | some x => exact ⟨(boundV_run (P := P) h hb .index).2, .inr ⟨x, rfl, fun m' hm' c => (boundV_run h (boundV_mono hb hm') c).1⟩⟩
theorem bounds2_run {isS : Bool} {len cap cap' : Nat} {lo hi : Option V} {lo' hi' : Option Value} {l h : Nat} (hlo : ORd E w lo lo') (hhi : ORd E w hi hi') (hlc : len ≤ cap) (hcc : cap ≤ cap')
    (hb : bounds2 len cap lo hi = some (l, h)) : (Instr.sliceBounds isS len cap' lo' hi' none).run P w = .ok (l, h, cap') w ∧ l ≤ h ∧ h ≤ cap := by
  unfold bounds2 at hb
  split at hb
  · simp at hb
  · rename_i h0 hh
    split at hb
    · simp at hb
    · rename_i l0 hl
      simp at hb
      obtain ⟨rfl, rfl⟩ := hb
      obtain ⟨hle, h1⟩ := boundO_run (P := P) hhi hh hlc
      obtain ⟨hle2, h2⟩ := boundO_run (P := P) hlo hl (Nat.zero_le _)
      refine ⟨?_, hle2, hle⟩
      rcases h1 with ⟨rfl, rfl⟩ | ⟨x, rfl, hx⟩ <;> rcases h2 with ⟨rfl, rfl⟩ | ⟨y, rfl, hy⟩
      · simp [Instr.sliceBounds]
      · simp [Instr.sliceBounds, hy _ (Nat.le_refl _)]
      · simp [Instr.sliceBounds, hx _ hcc]
      · simp [Instr.sliceBounds, hx _ hcc, hy _ (Nat.le_refl _)]

theorem mk_extract (l : List UInt8) (a b : Nat) : (⟨⟨l⟩⟩ : ByteArray).extract a b = ⟨⟨(l.drop a).take (b - a)⟩⟩ := by
  have := ByteArray.extract_mk l a b
  simpa using this

theorem sliceV_run {t : TypeId} {a v : V} {x : Value} {lo hi : Option V} {lo' hi' : Option Value} (ha : Rd E w a x) (hlo : ORd E w lo lo') (hhi : ORd E w hi hi') (h : sliceV P t a lo hi = some v) :
    ∃ z, (Instr.sliceAt t x lo' hi' none).run P w = .ok z w ∧ Rd E w v z := by
  unfold sliceV at h
  split at h
  · rename_i s hu
    split at h
    · rename_i l m hb
      simp at h; subst h
      cases ha
      obtain ⟨hr, h1, h2⟩ := bounds2_run (P := P) (isS := false) hlo hhi (Nat.le_refl _) (Nat.le_refl _) hb
      have hr' : (Instr.sliceBounds false (⟨⟨s⟩⟩ : ByteArray).size (⟨⟨s⟩⟩ : ByteArray).size lo' hi' none).run P w = .ok (l, m, s.length) w := hr
      exact ⟨.string ((⟨⟨s⟩⟩ : ByteArray).extract l m), by simp [Instr.sliceAt, Instr.slice, run_underlying hu, hr'], by rw [mk_extract]; exact .str _⟩
    · simp at h
  · rename_i e hu
    split at h
    · rename_i q k hb hk
      simp at h; subst h
      cases ha
      obtain ⟨l, m⟩ := q
      obtain ⟨hr, h1, h2⟩ := bounds2_run (P := P) (isS := true) hlo hhi (Nat.le_refl _) (Nat.le_refl _) hb
      have hm0 : m = 0 := by omega
      have hl0 : l = 0 := by omega
      subst hm0; subst hl0
      exact ⟨.slice none 0 0, by simp [Instr.sliceAt, Instr.slice, run_underlying hu, hr, run_sizeOf hk], .nilslice⟩
    · simp at h
  · rename_i e n off len s hu
    split at h
    · rename_i l m k hb hk
      cases hks : Nat.beq k s with
      | false => simp [hks] at h
      | true =>
        have : k = s := by simpa using hks
        subst this
        simp [hks] at h; subst h
        cases ha with
        | slice _ _ _ _ cap B hB hl hm hs =>
          obtain ⟨hr, h1, h2⟩ := bounds2_run (P := P) (isS := true) hlo hhi (Nat.le_refl _) hl hb
          by_cases hc : cap = l
          · subst hc
            have hml : m - cap = 0 := by omega
            refine ⟨.slice (some ⟨B.b, B.base + off, none⟩) 0 0, ?_, by rw [hml]; exact .sliceE _ _ _ _ B hB (by omega)⟩
            simp [Instr.sliceAt, Instr.slice, run_underlying hu, hr, run_sizeOf hk, hml]
          · refine ⟨.slice (some ⟨B.b, B.base + (off + l * k), none⟩) (m - l) (cap - l), ?_, .slice _ _ _ _ _ B hB (by omega) (by omega) ?_⟩
            · simp [Instr.sliceAt, Instr.slice, run_underlying hu, hr, run_sizeOf hk, hc, add_addr, Nat.add_assoc]
            · have : l * k + (cap - l) * k = cap * k := by rw [← Nat.add_mul]; congr 1; omega
              omega
        | sliceE _ _ _ o B hB ho =>
          obtain ⟨hr, h1, h2⟩ := bounds2_run (P := P) (isS := true) hlo hhi (Nat.le_refl _) (Nat.le_refl _) hb
          have hm0 : m = 0 := by omega
          have hl0 : l = 0 := by omega
          subst hm0; subst hl0
          refine ⟨.slice (some ⟨B.b, o, none⟩) 0 0, ?_, .sliceE _ _ _ _ B hB (by omega)⟩
          simp [Instr.sliceAt, Instr.slice, run_underlying hu, hr, run_sizeOf hk]
    · simp at h
  · rename_i e cs len hu
    split at h
    · rename_i l m k hb hk
      simp at h; subst h
      cases ha with
      | vec _ _ cap b o vs hI hc hw hl hm =>
        obtain ⟨hr, h1, h2⟩ := bounds2_run (P := P) (isS := true) hlo hhi (Nat.le_refl _) hl hb
        by_cases hcl : cap = l
        · subst hcl
          have hml : m - cap = 0 := by omega
          refine ⟨.slice (some ⟨b, o, none⟩) 0 0, ?_, ?_⟩
          · simp [Instr.sliceAt, Instr.slice, run_underlying hu, hr, run_sizeOf hk, hml]
          · rw [hml, Nat.zero_mul, List.take_zero]
            exact .vec [] 0 0 b o [] hI .nil (fun i v hv => by simp at hv) (Nat.le_refl _) (Nat.zero_le _)
        · refine ⟨.slice (some ⟨b, o + l * k, none⟩) (m - l) (cap - l), ?_, .vec _ _ _ b (o + l * k) _ hI ((hc.drop _).take _) ((Lies.drop hw _).take _) (by omega) (by omega)⟩
          simp [Instr.sliceAt, Instr.slice, run_underlying hu, hr, run_sizeOf hk, hcl, add_addr]
      | vecNil =>
        obtain ⟨hr, h1, h2⟩ := bounds2_run (P := P) (isS := true) hlo hhi (Nat.le_refl _) (Nat.le_refl _) hb
        have hm0 : m = 0 := by omega
        have hl0 : l = 0 := by omega
        subst hm0; subst hl0
        refine ⟨.slice none 0 0, ?_, by simpa using .vecNil⟩
        simp [Instr.sliceAt, Instr.slice, run_underlying hu, hr, run_sizeOf hk]
    · simp at h
  · simp at h


/-! ### Texts, numbers -/
theorem toBytes_run : ∀ {cs : List V} {l : List UInt8} {vs : List Value}, toBytes cs = some l → Rcs E w cs vs → ∃ ns : List Int, vs = ns.map (Value.int .u8) ∧ l = ns.map fun n => UInt8.ofNat n.toNat
  | [], l, vs, h, hr => by cases hr; simp [toBytes] at h; exact ⟨[], rfl, by simp [h]⟩
  | c :: cs, l, vs, h, hr => by
    cases hr with
    | cons _ x _ xs hh h1 ht =>
      cases c <;> try (simp [toBytes] at h; done)
      rename_i k n
      cases k <;> try (simp [toBytes] at h; done)
      simp only [toBytes, Option.map_eq_some_iff] at h
      obtain ⟨l', hl', rfl⟩ := h
      obtain ⟨ns, hns, hl⟩ := toBytes_run hl' ht
      cases hh
      exact ⟨n :: ns, by simp [hns], by simp [hl]⟩
theorem foldl_push_bytes' : ∀ (ns : List Int) (s : ByteArray), ns.foldl (fun r n => r.push (UInt8.ofNat n.toNat)) s = ⟨⟨s.data.toList ++ ns.map fun n => UInt8.ofNat n.toNat⟩⟩
  | [], s => by simp
  | n :: ns, s => by
    rw [List.foldl_cons, foldl_push_bytes' ns]
    simp [ByteArray.push]

/-- Cells of a slice that is read. -/
theorem rowOf_run {v : V} {x : Value} {cs : List V} {n : Nat} (hH : HInv E H.get w) (hr : Rd E w v x) (h : rowOf H v = some (cs, n)) :
    ∃ vs, Rcs E w cs vs ∧ ((x = .slice none 0 0 ∧ cs = [] ∧ n = 0) ∨ ∃ b o cap, x = .slice (some ⟨b, o, none⟩) n cap ∧ Lies w b o vs) := by
  unfold rowOf at h
  split at h
  · simp at h; obtain ⟨rfl, rfl⟩ := h; cases hr; exact ⟨[], .nil, .inl ⟨rfl, rfl, rfl⟩⟩
  · rename_i nm off len s
    cases ho : H.get nm with
    | none => simp [ho] at h
    | some o =>
      cases o <;> simp only [ho, reduceCtorEq] at h
      rename_i ds et
      simp only [Option.map_eq_some_iff, Prod.mk.injEq] at h
      obtain ⟨r, hcut, rfl, rfl⟩ := h
      obtain ⟨B', hB', c, lo, hi, vs, h1, h2, h3, h4, h5, h6⟩ := hH.obj nm _ ho
      have hl : Lies w B'.b B'.base vs := fun i v hv => by
        rw [cell_of_row w B'.b _ c et (lo, hi) h1]
        exact h6 i v hv
      unfold cut at hcut
      cases hb : Nat.ble (off + len * s) ds.length with
      | false => simp [hb] at hcut
      | true =>
        simp [hb] at hcut
        subst hcut
        refine ⟨(vs.drop off).take (len * s), (h4.drop off).take _, .inr ?_⟩
        cases hr with
        | slice _ _ _ _ cap B hB hl' hm hs =>
          have e : B' = B := by rw [hB] at hB'; exact (Option.some.inj hB').symm
          subst e
          exact ⟨B'.b, B'.base + off, cap, rfl, (hl.drop off).take _⟩
        | sliceE _ _ _ o B hB ho' =>
          exact ⟨B.b, o, 0, rfl, fun i v hv => by simp at hv⟩
  · simp at h; obtain ⟨rfl, rfl⟩ := h
    cases hr with
    | vec _ _ cap b o vs hI hc hw hl hm => exact ⟨vs, hc, .inr ⟨b, o, cap, rfl, hw⟩⟩
    | vecNil => exact ⟨[], .nil, .inl ⟨rfl, rfl, rfl⟩⟩
  · simp at h

theorem minmax_run {mx : Bool} {a b c : V} {x y : Value} (ha : Rd E w a x) (hb : Rd E w b y) (h : minmax mx a b = some c) :
    ∃ z, (if mx then Builtin.max2 x y else Builtin.min2 x y).run P w = .ok z w ∧ Rd E w c z := by
  unfold minmax at h
  split at h
  · cases ha; cases hb
    rename_i k p k' q
    cases hk : kEq k k' with
    | false => simp [hk] at h
    | true =>
      simp [hk] at h
      subst h
      cases mx
      · refine ⟨.int k (if q < p then q else p), by simp [Builtin.min2], ?_⟩
        simp only [ltI_eq, cond_false]
        by_cases hlt : q < p <;> simp [hlt] <;> exact .int _ _
      · refine ⟨.int k (if p < q then q else p), by simp [Builtin.max2], ?_⟩
        simp only [ltI_eq, cond_true]
        by_cases hlt : p < q <;> simp [hlt] <;> exact .int _ _
  · simp at h
theorem foldMM_run {mx : Bool} : ∀ {l : List V} {a c : V} {x : Value} {xs : List Value}, Rd E w a x → Rds E w l xs → foldMM mx a l = some c →
    ∃ z, (xs.foldlM (if mx then Builtin.max2 else Builtin.min2) x).run P w = .ok z w ∧ Rd E w c z
  | [], a, c, x, xs, ha, hl, h => by cases hl; simp [foldMM] at h; subst h; exact ⟨x, by simp, ha⟩
  | b :: l, a, c, x, xs, ha, hl, h => by
    cases hl with
    | cons _ y _ ys hb ht =>
      simp only [foldMM] at h
      cases hm : minmax mx a b with
      | none => simp [hm] at h
      | some d =>
        simp only [hm] at h
        obtain ⟨z, hz, hr⟩ := minmax_run (P := P) ha hb hm
        obtain ⟨z', hz', hr'⟩ := foldMM_run hr ht h
        refine ⟨z', ?_, hr'⟩
        cases mx <;> simp at hz hz' ⊢ <;> simp [hz, hz']

theorem lenV_run {t : TypeId} {v : V} {x : Value} {n : Nat} (hH : HInv E H.get w) (hr : Rd E w v x) (h : lenV P H t v = some n) {ty : TypeId} :
    (Builtin.len_ #[t] ty #[x]).run P w = .ok (.int .i64 n) w := by
  unfold lenV at h
  split at h
  · rename_i l hu; cases hr; simp at h; subst h; simp [Builtin.len_, run_underlying hu, goInt, show (⟨⟨l⟩⟩ : ByteArray).size = l.length from rfl]
  · rename_i m e hu; simp at h; subst h; simp [Builtin.len_, run_underlying hu, goInt]
  · rename_i e nm off m s hu
    simp at h; subst h
    cases hr <;> simp [Builtin.len_, run_underlying hu, goInt]
  · rename_i e cs m hu
    simp at h; subst h
    cases hr <;> simp [Builtin.len_, run_underlying hu, goInt]
  · rename_i e hu; simp at h; subst h; cases hr; simp [Builtin.len_, run_underlying hu, goInt]
  · rename_i kt e hu; simp at h; subst h; cases hr; simp [Builtin.len_, run_underlying hu, goInt]
  · rename_i kt e r hu
    split at h
    · rename_i es cl ho
      simp at h; subst h
      cases hr with
      | map _ B hB =>
        obtain ⟨B', hB', es', h1, h2⟩ := hH.obj r _ ho
        rw [hB] at hB'; cases hB'
        have hlen : es'.size = es.length := by
          have : ∀ (l : List (V × V × Nat)) (m : List MapEntry), REnt E w l m → m.length = l.length := by
            intro l
            induction l with
            | nil => intro m hm; cases m with
              | nil => rfl
              | cons _ _ => exact hm.elim
            | cons a l ih => intro m hm; cases m with
              | nil => exact hm.elim
              | cons b m => obtain ⟨k, v, c⟩ := a; simp [ih m hm.2.2.2]
          simpa using this _ _ h2
        have hg : (getObj B.b).run P w = .ok (.map es' cl) w := by simp [getObj, Sem.run, h1]
        simp [Builtin.len_, run_underlying hu, goInt, hg, hlen]
    · simp at h
  · rename_i a _ hu
    split at h
    · rename_i m e hu2; simp at h; subst h; simp [Builtin.len_, run_underlying hu, run_underlying hu2, goInt]
    · simp at h
  · simp at h
end
end Go.Abs
