/- WholeCommon: for every input true: by closed runs of a proved evaluator (Abs) at the inputs that go past the early returns, by the same evaluator on symbolic inputs at the early returns. -/
import Derived.Test.YteapmdjkcpjbmaaGreatRows
import Derived.Test.YteapmdjkcpjbmaaGreatRunA
import Derived.Test.YteapmdjkcpjbmaaGreatRunB
import Derived.Test.YteapmdjkcpjbmaaGreatRunC
import Derived.Test.YteapmdjkcpjbmaaGreatRunD
import Derived.Test.YteapmdjkcpjbmaaGreatRunE
import Derived.Test.YteapmdjkcpjbmaaGreatRunF
import Derived.Test.YteapmdjkcpjbmaaGreatRunG
import Derived.WalkKit
import Derived.ProofKit
import Derived.OpenShut
namespace Go.Proofs.YteapmdjkcpjbmaaGreat.wholeCommon
open Go.Abs Go.ChangeShapes Go.WideShapes Go.ChangeAt Go.RowKit
set_option linter.unusedVariables false

theorem own : ownKnob Tryz.prog.godebug = none := by kernel_rfl

def Ends (a b c d : Nat) : Prop := retB (evalM Tryz.prog [(4, true)] 200 (.call 3 [I8 a, I8 b, I8 c, I8 d] .nil 0)) = some true
theorem over_b (n b k d : Nat) (hb : b < 4) (hd : d < 4) : Ends (n + (b + 1)) b (k + 1) d := by
  match b, hb, d, hd with
  | 0, _, 0, _ => exact earlyE00 n k
  | 0, _, 1, _ => exact earlyE01 n k
  | 0, _, 2, _ => exact earlyE02 n k
  | 0, _, 3, _ => exact earlyE03 n k
  | 1, _, 0, _ => exact earlyE10 n k
  | 1, _, 1, _ => exact earlyE11 n k
  | 1, _, 2, _ => exact earlyE12 n k
  | 1, _, 3, _ => exact earlyE13 n k
  | 2, _, 0, _ => exact earlyE20 n k
  | 2, _, 1, _ => exact earlyE21 n k
  | 2, _, 2, _ => exact earlyE22 n k
  | 2, _, 3, _ => exact earlyE23 n k
  | 3, _, 0, _ => exact earlyE30 n k
  | 3, _, 1, _ => exact earlyE31 n k
  | 3, _, 2, _ => exact earlyE32 n k
  | 3, _, 3, _ => exact earlyE33 n k
theorem over_d (a b k d : Nat) (ha : 1 ≤ a) (hab : a ≤ b) (hb : b < 4) (hd : d < 4) : Ends a b (k + (d + 1)) d := by
  have hp : (a = 1 ∧ b = 1) ∨ (a = 1 ∧ b = 2) ∨ (a = 2 ∧ b = 2) ∨ (a = 1 ∧ b = 3) ∨ (a = 2 ∧ b = 3) ∨ (a = 3 ∧ b = 3) := by omega
  have hq : d = 0 ∨ d = 1 ∨ d = 2 ∨ d = 3 := by omega
  rcases hp with ⟨rfl, rfl⟩ | ⟨rfl, rfl⟩ | ⟨rfl, rfl⟩ | ⟨rfl, rfl⟩ | ⟨rfl, rfl⟩ | ⟨rfl, rfl⟩
  · rcases hq with rfl | rfl | rfl | rfl
    · exact earlyF110 k
    · exact earlyF111 k
    · exact earlyF112 k
    · exact earlyF113 k
  · rcases hq with rfl | rfl | rfl | rfl
    · exact earlyF120 k
    · exact earlyF121 k
    · exact earlyF122 k
    · exact earlyF123 k
  · rcases hq with rfl | rfl | rfl | rfl
    · exact earlyF220 k
    · exact earlyF221 k
    · exact earlyF222 k
    · exact earlyF223 k
  · rcases hq with rfl | rfl | rfl | rfl
    · exact earlyF130 k
    · exact earlyF131 k
    · exact earlyF132 k
    · exact earlyF133 k
  · rcases hq with rfl | rfl | rfl | rfl
    · exact earlyF230 k
    · exact earlyF231 k
    · exact earlyF232 k
    · exact earlyF233 k
  · rcases hq with rfl | rfl | rfl | rfl
    · exact earlyF330 k
    · exact earlyF331 k
    · exact earlyF332 k
    · exact earlyF333 k
theorem inner (a b c d : Nat) (ha : 1 ≤ a) (hab : a ≤ b) (hb : b < 4) (hc : 1 ≤ c) (hcd : c ≤ d) (hd : d < 4) : Ends a b c d := by
  have hp : (a = 1 ∧ b = 1) ∨ (a = 1 ∧ b = 2) ∨ (a = 2 ∧ b = 2) ∨ (a = 1 ∧ b = 3) ∨ (a = 2 ∧ b = 3) ∨ (a = 3 ∧ b = 3) := by omega
  have hq : (c = 1 ∧ d = 1) ∨ (c = 1 ∧ d = 2) ∨ (c = 2 ∧ d = 2) ∨ (c = 1 ∧ d = 3) ∨ (c = 2 ∧ d = 3) ∨ (c = 3 ∧ d = 3) := by omega
  rcases hp with ⟨rfl, rfl⟩ | ⟨rfl, rfl⟩ | ⟨rfl, rfl⟩ | ⟨rfl, rfl⟩ | ⟨rfl, rfl⟩ | ⟨rfl, rfl⟩
  · rcases hq with ⟨rfl, rfl⟩ | ⟨rfl, rfl⟩ | ⟨rfl, rfl⟩ | ⟨rfl, rfl⟩ | ⟨rfl, rfl⟩ | ⟨rfl, rfl⟩
    · exact run1111
    · exact run1112
    · exact run1122
    · exact run1113
    · exact run1123
    · exact run1133
  · rcases hq with ⟨rfl, rfl⟩ | ⟨rfl, rfl⟩ | ⟨rfl, rfl⟩ | ⟨rfl, rfl⟩ | ⟨rfl, rfl⟩ | ⟨rfl, rfl⟩
    · exact run1211
    · exact run1212
    · exact run1222
    · exact run1213
    · exact run1223
    · exact run1233
  · rcases hq with ⟨rfl, rfl⟩ | ⟨rfl, rfl⟩ | ⟨rfl, rfl⟩ | ⟨rfl, rfl⟩ | ⟨rfl, rfl⟩ | ⟨rfl, rfl⟩
    · exact run2211
    · exact run2212
    · exact run2222
    · exact run2213
    · exact run2223
    · exact run2233
  · rcases hq with ⟨rfl, rfl⟩ | ⟨rfl, rfl⟩ | ⟨rfl, rfl⟩ | ⟨rfl, rfl⟩ | ⟨rfl, rfl⟩ | ⟨rfl, rfl⟩
    · exact run1311
    · exact run1312
    · exact run1322
    · exact run1313
    · exact run1323
    · exact run1333
  · rcases hq with ⟨rfl, rfl⟩ | ⟨rfl, rfl⟩ | ⟨rfl, rfl⟩ | ⟨rfl, rfl⟩ | ⟨rfl, rfl⟩ | ⟨rfl, rfl⟩
    · exact run2311
    · exact run2312
    · exact run2322
    · exact run2313
    · exact run2323
    · exact run2333
  · rcases hq with ⟨rfl, rfl⟩ | ⟨rfl, rfl⟩ | ⟨rfl, rfl⟩ | ⟨rfl, rfl⟩ | ⟨rfl, rfl⟩ | ⟨rfl, rfl⟩
    · exact run3311
    · exact run3312
    · exact run3322
    · exact run3313
    · exact run3323
    · exact run3333
theorem ends_lt (a b c d : Nat) (ha : 1 ≤ a) (hb : b < 4) (hc : 1 ≤ c) (hd : d < 4) : Ends a b c d := by
  obtain ⟨a, rfl⟩ : ∃ k, a = k + 1 := ⟨a - 1, by omega⟩
  obtain ⟨c, rfl⟩ : ∃ k, c = k + 1 := ⟨c - 1, by omega⟩
  have hab : a + 1 ≤ b ∨ ∃ n, a + 1 = n + (b + 1) := by
    rcases Nat.lt_or_ge b (a + 1) with h | h
    · exact .inr ⟨a - b, by omega⟩
    · exact .inl h
  have hcd : c + 1 ≤ d ∨ ∃ n, c + 1 = n + (d + 1) := by
    rcases Nat.lt_or_ge d (c + 1) with h | h
    · exact .inr ⟨c - d, by omega⟩
    · exact .inl h
  have h4 : ∀ n, n < 4 → n = 0 ∨ n = 1 ∨ n = 2 ∨ n = 3 := fun n hn => by omega
  rcases hab with hab | ⟨n, hn⟩
  · rcases hcd with hcd | ⟨k, hk⟩
    · exact inner (a + 1) b (c + 1) d (by omega) hab (by omega) (by omega) hcd (by omega)
    · rw [hk]
      exact over_d (a + 1) b k d (by omega) hab (by omega) hd
  · rw [hn]
    exact over_b n b c d hb hd

theorem ends (a b c d : Nat) : Ends a b c d := by
  rcases Nat.eq_zero_or_pos a with rfl | ha
  · exact early0 b c d
  rcases Nat.lt_or_ge b 4 with hb | hb
  · rcases Nat.eq_zero_or_pos c with rfl | hc
    · obtain ⟨n, rfl⟩ : ∃ k, a = k + 1 := ⟨a - 1, by omega⟩
      match b, hb with
      | 0, _ => exact earlyC0 n d
      | 1, _ => exact earlyC1 n d
      | 2, _ => exact earlyC2 n d
      | 3, _ => exact earlyC3 n d
    · rcases Nat.lt_or_ge d 4 with hd | hd
      · exact ends_lt a b c d ha hb hc hd
      · obtain ⟨n, rfl⟩ : ∃ k, a = k + 1 := ⟨a - 1, by omega⟩
        obtain ⟨k, rfl⟩ : ∃ k, c = k + 1 := ⟨c - 1, by omega⟩
        obtain ⟨m, rfl⟩ : ∃ k, d = k + 4 := ⟨d - 4, by omega⟩
        match b, hb with
        | 0, _ => exact earlyD0 n k m
        | 1, _ => exact earlyD1 n k m
        | 2, _ => exact earlyD2 n k m
        | 3, _ => exact earlyD3 n k m
  · obtain ⟨n, rfl⟩ : ∃ k, a = k + 1 := ⟨a - 1, by omega⟩
    obtain ⟨m, rfl⟩ : ∃ k, b = k + 4 := ⟨b - 4, by omega⟩
    exact earlyB n m c d

theorem memo : MemoOk Tryz.prog [(4, true)] := memo_cons (memo_nil _) (fun w => calls_bool good awake w .nil)

theorem nat_of_wf {k : IntKind} {n : Int} (hk : k = .u8) (h : (Lit.int k n).wf = true) : ∃ m : Nat, n = .ofNat m := by
  subst hk
  have : (0 : Int) ≤ n := by
    simp only [Lit.wf, Bool.and_eq_true, decide_eq_true_eq] at h
    have h1 := h.1
    have : IntKind.u8.min = 0 := by decide
    omega
  exact ⟨n.toNat, by rw [Int.ofNat_eq_natCast]; omega⟩

/-! ### The walk -/
theorem walk (a0 : Int) (a1 : Int) (a2 : Int) (a3 : Int) (w0 : (Lit.int .u8 a0).wf = true) (w1 : (Lit.int .u8 a1).wf = true) (w2 : (Lit.int .u8 a2).wf = true) (w3 : (Lit.int .u8 a3).wf = true) (w : World) :
    Calls Tryz.prog 3 #[.int .u8 a0, .int .u8 a1, .int .u8 a2, .int .u8 a3] w fun e w' => e = .returned (.bool true) ∧ Below w.heap.size w w' := by
  obtain ⟨a, rfl⟩ := nat_of_wf rfl w0
  obtain ⟨b, rfl⟩ := nat_of_wf rfl w1
  obtain ⟨c, rfl⟩ := nat_of_wf rfl w2
  obtain ⟨d, rfl⟩ := nat_of_wf rfl w3
  refine (callsM_bool good memo (ends a b c d) w (.cons _ _ _ _ (.int _ _) (.cons _ _ _ _ (.int _ _) (.cons _ _ _ _ (.int _ _) (.cons _ _ _ _ (.int _ _) .nil))))).mono (fun e w' h => ?_)
  cases e with
  | returned x => exact ⟨by rw [h.1], h.2⟩
  | panicked c => exact h.elim
  | outgrown => exact h.elim

/-- What a call leaves that has turned nothing of what was there ('post_of_same' for 'Below'). -/
theorem post_of_below {H : Type} {enc : TypeId × Value → H} {P : Program} {f : Func} {s : ChangeSpec} {apart fresh handsOn again : Bool} {W W' : World} {args : Array Value} {v : Value} {ds gs : List (DataW H)} {before pa pv : List MemPlace}
    (hW : DataW.Whole enc P f.params.toList s.vars apart W args.toList ds gs before)
    (hres : ∀ (b : Nat) (sp : Nat → Bool) (hd : Bool), DataW.TrodAll enc P W' b sp hd f.resultTypes.toList (v.resultList f.resultTypes.size) (s.fn H (ds ++ gs)).results [])
    (hargs : ∀ sp : Nat → Bool, (∀ p ∈ before, sp p.block = true) → DataW.TrodAll enc P W' 0 sp true f.params.toList args.toList (s.fn H (ds ++ gs)).args pa)
    (hvars : ∀ sp : Nat → Bool, (∀ p ∈ before, sp p.block = true) → DataW.TrodVars enc P W' sp s.vars (s.fn H (ds ++ gs)).vars pv)
    (hps : before = pa ++ pv) (hb : Below W.heap.size W W')
    (hok : ∀ (j : Nat) (t : TypeId) (r : Value), f.resultTypes[j]? = some t → (v.resultList f.resultTypes.size)[j]? = some r → Value.okWide P W' .any 0 t r) :
    s.post enc P f apart fresh handsOn again W args v W' := by
  have hold : ∀ p ∈ before, (fun b => decide (b < W.heap.size)) p.block = true := fun p hp => by simpa using hW.lt p hp
  have hlt := hW.lt
  refine ⟨ds, gs, before, [], pa, pv, hW, hres _ _ _, hargs _ hold, hvars _ hold, World.keptBut_mono (fun p hp => ⟨hp, ?_⟩) (hb.frame (· ∈ before)), fun _ => ?_⟩
  · rw [hps, List.mem_append] at hp
    exact Or.inr hp
  · obtain ⟨_, _, _, _, _, hz, hn⟩ := hW
    refine ⟨hok, _, _, ([] ++ pa) ++ pv, ⟨[] ++ pa, pv, trodAll_append (hargs _ (fun _ _ => rfl)) (hres _ _ _), hvars _ (fun _ _ => rfl), rfl, ?_, ?_⟩, ?_⟩
    · intro b off hp
      have hin : MemPlace.cell b off ∈ before := by rw [hps]; simpa using hp
      rw [hb.frozen (p := ⟨b, off, Option.none⟩) (hlt _ hin)]
      exact hz b off hin
    · intro ha
      have := hn ha
      rw [hps] at this
      simpa using this
    · intro p hp _
      rw [hps]
      simpa using hp

/-! ### THE ROW's STEP: WRITTEN OUT: LEAVE IT -/
set_option maxRecDepth 100000 in
theorem lifted (os : Os) (started : os.Started) (H : Type) (enc : TypeId × Value → H) :
    ReturnsInHanded {} Tryz.checked os 3 .any (Rows.wholeCommonSpec.pre6 enc Tryz.prog Tryz.f3 Rows.wholeCommonRow.domain false) (Rows.wholeCommonSpec.post enc Tryz.prog Tryz.f3 false true false false) := by
  refine returnsInHanded_of_change (C := Tryz.checked) own started (by kernel_rfl) Tryz.func3
    (ChangeSpec.witness6 (enc := enc) (C := Tryz.checked) false ⟨#[], #[.int .u8 0, .int .u8 0, .int .u8 0, .int .u8 0], []⟩ 8 (by kernel_rfl) (by kernel_rfl) (by kernel_rfl) (by kernel_rfl)) ?_
  intro W base args ds gs before hval0 hW hcnd _
  have hval : ∀ (j : Nat) t v, Tryz.f3.params[j]? = some t → args[j]? = some v → Value.okWide Tryz.prog W .any base t v := hval0
  have hW' := hW
  obtain ⟨p, q, hA0, hV, rfl, hfz, hnd⟩ := hW
  have hA : DataW.TrodAll enc Tryz.prog W 0 (fun _ => true) true Tryz.f3.params.toList args.toList ds p := hA0
  rw [Tryz.params3] at hA hval
  obtain ⟨v0, vs0, d0, ds0, p0, q0, hargs, rfl, rfl, h0, r0⟩ := trodAll_cons hA
  obtain ⟨v1, vs1, d1, ds1, p1, q1, rfl, rfl, rfl, h1, r1⟩ := trodAll_cons r0
  obtain ⟨v2, vs2, d2, ds2, p2, q2, rfl, rfl, rfl, h2, r2⟩ := trodAll_cons r1
  obtain ⟨v3, vs3, d3, ds3, p3, q3, rfl, rfl, rfl, h3, r3⟩ := trodAll_cons r2
  obtain ⟨rfl, rfl, rfl⟩ := trodAll_nil r3
  obtain rfl : args = #[v0, v1, v2, v3] := by cases args; simp_all
  obtain ⟨rfl, rfl⟩ := trodVars_none hV
  obtain ⟨a0, rfl, rfl, rfl, w0⟩ := open_int Tryz.underlying5 (hval 0 5 v0 rfl rfl) h0
  obtain ⟨a1, rfl, rfl, rfl, w1⟩ := open_int Tryz.underlying5 (hval 1 5 v1 rfl rfl) h1
  obtain ⟨a2, rfl, rfl, rfl, w2⟩ := open_int Tryz.underlying5 (hval 2 5 v2 rfl rfl) h2
  obtain ⟨a3, rfl, rfl, rfl, w3⟩ := open_int Tryz.underlying5 (hval 3 5 v3 rfl rfl) h3
  clear hA0 hval0
  simp only [List.append_nil] at hW'
  refine (walk a0 a1 a2 a3 w0 w1 w2 w3 W).mono fun e W' ⟨he, hg⟩ => ?_
  subst he
  exact ⟨_, rfl, post_of_below (pa := []) (pv := []) hW' (fun _ _ _ => (trodAll_cons_mk (shut_bool Tryz.underlying4 _) trodAll_mk0)) (fun sp _ => (trodAll_cons_mk (shut_int Tryz.underlying5 w0) (trodAll_cons_mk (shut_int Tryz.underlying5 w1) (trodAll_cons_mk (shut_int Tryz.underlying5 w2) (trodAll_cons_mk (shut_int Tryz.underlying5 w3) trodAll_mk0))))) (fun _ _ => rfl) rfl
    hg (ok_one (by kernel_rfl) rfl (okWide_bool_mk Tryz.underlying4 _))⟩

theorem over : Rows.wholeCommonRow.holds Tryz.pinned (OpenSpec.ofChange Rows.wholeCommonSpec) :=
  OpenClaim.holds_of_wide 3 Tryz.f3 rfl rfl rfl rfl rfl rfl rfl ⟨rfl, rfl, rfl, rfl, rfl⟩ rfl rfl rfl rfl rfl (by kernel_rfl) Tryz.func3 (by kernel_rfl)
    (of_decide_eq_true (by kernel_rfl)) (by unfold Func.isWrapper; first | (rw [if_pos (by decide +kernel)]; kernel_rfl) | (rw [if_neg (by decide +kernel)]; exact ⟨rfl, rfl⟩))
    (fun os started H enc _ => lifted os started H enc)

/-- ████ THE STATEMENT ████ -/
theorem wholeCommon_holds : Rows.WholeCommonSaid :=
  over
end Go.Proofs.YteapmdjkcpjbmaaGreat.wholeCommon
