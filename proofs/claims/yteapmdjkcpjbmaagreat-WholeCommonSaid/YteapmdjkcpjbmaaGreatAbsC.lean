/- How abstract values and heaps stand for values and worlds. -/
import Derived.Test.YteapmdjkcpjbmaaGreatAbsB
import Derived.Laws.AppendOwn
import Derived.Laws.Entries
namespace Go.Abs

/-- Where a name lies: its block, from which cell on, of how many cells. -/
structure Blk where
  b : Nat
  base : Nat
  size : Nat

structure Env where
  σ : Nat → Option Blk
  /-- blocks that stay as they are -/
  I : Nat → Prop

mutual
/-- What an abstract value stands for. -/
inductive Rd (E : Env) (w : World) : V → Value → Prop
  | any (x : Value) : Rd E w .any x
  | int (k : IntKind) (n : Int) : Rd E w (.int k n) (.int k n)
  | bool (b : Bool) : Rd E w (.bool b) (.bool b)
  | str (l : List UInt8) : Rd E w (.str l) (.string ⟨⟨l⟩⟩)
  | ptr (n off : Nat) (B : Blk) (h : E.σ n = some B) : Rd E w (.ptr n off) (.pointer (some ⟨B.b, B.base + off, none⟩))
  | vptr (cells : List V) (off b o : Nat) (vs : List Value) (hI : E.I b) (hc : Rcs E w cells vs)
      (hw : ∀ i v, vs[i]? = some v → w.cell? ⟨b, o + i, none⟩ = some v) : Rd E w (.vptr cells off) (.pointer (some ⟨b, o + off, none⟩))
  | nilptr : Rd E w .nilptr (.pointer none)
  | slice (n off len sz cap : Nat) (B : Blk) (h : E.σ n = some B) (hl : len ≤ cap) (hm : cap ≤ maxLen) (hs : off + cap * sz ≤ B.size) :
      Rd E w (.slice n off len sz) (.slice (some ⟨B.b, B.base + off, none⟩) len cap)
  | sliceE (n off sz o : Nat) (B : Blk) (h : E.σ n = some B) (ho : o ≤ B.base + off) : Rd E w (.slice n off 0 sz) (.slice (some ⟨B.b, o, none⟩) 0 0)
  | vec (cells : List V) (len cap b o : Nat) (vs : List Value) (hI : E.I b) (hc : Rcs E w cells vs)
      (hw : ∀ i v, vs[i]? = some v → w.cell? ⟨b, o + i, none⟩ = some v) (hl : len ≤ cap) (hm : cap ≤ maxLen) :
      Rd E w (.vec cells len) (.slice (some ⟨b, o, none⟩) len cap)
  | vecNil : Rd E w (.vec [] 0) (.slice none 0 0)
  | nilslice : Rd E w .nilslice (.slice none 0 0)
  | map (n : Nat) (B : Blk) (h : E.σ n = some B) : Rd E w (.map n) (.map (some B.b))
  | nilmap : Rd E w .nilmap (.map none)
  | func (f : FuncId) (first captured : List V) (fs cs : List Value) (hf : Rds E w first fs) (hc : Rds E w captured cs) :
      Rd E w (.func f first captured) (.func (.func f) ⟨fs⟩ ⟨cs⟩)
  | yield (n : Nat) (B : Blk) (h : E.σ n = some B) : Rd E w (.yield n) (.func (.yield B.b) #[] #[])
  | nilfunc : Rd E w .nilfunc .nilFunc
  | iface (t : TypeId) (v : V) (x : Value) (h : Rd E w v x) : Rd E w (.iface t v) (.iface t x)
  | nilIface : Rd E w .nilIface .nilIface
  | agg (cells : List V) (vs : List Value) (h : Rcs E w cells vs) : Rd E w (.agg cells) (.agg ⟨vs⟩)
  | tuple (l : List V) (vs : List Value) (h : Rds E w l vs) : Rd E w (.tuple l) (.tuple ⟨vs⟩)
/-- Lists of values. -/
inductive Rds (E : Env) (w : World) : List V → List Value → Prop
  | nil : Rds E w [] []
  | cons (v : V) (x : Value) (l : List V) (xs : List Value) (h : Rd E w v x) (ht : Rds E w l xs) : Rds E w (v :: l) (x :: xs)
/-- Lists of cells: each is a value of one cell. -/
inductive Rcs (E : Env) (w : World) : List V → List Value → Prop
  | nil : Rcs E w [] []
  | cons (v : V) (x : Value) (l : List V) (xs : List Value) (h : Rd E w v x) (h1 : x.oneCell' = true) (ht : Rcs E w l xs) : Rcs E w (v :: l) (x :: xs)
end

/-- A later assignment, and a later world. -/
structure Evo (E : Env) (w : World) (E' : Env) (w' : World) : Prop where
  σ : ∀ n B, E.σ n = some B → E'.σ n = some B
  I : ∀ b, E.I b → E'.I b
  heap : ∀ b, E.I b → w'.heap[b]? = w.heap[b]?

theorem Evo.refl (E : Env) (w : World) : Evo E w E w := ⟨fun _ _ h => h, fun _ h => h, fun _ _ => rfl⟩
theorem Evo.trans {E E' E'' : Env} {w w' w'' : World} (h : Evo E w E' w') (k : Evo E' w' E'' w'') : Evo E w E'' w'' :=
  ⟨fun n B hB => k.σ n B (h.σ n B hB), fun b hb => k.I b (h.I b hb), fun b hb => (k.heap b (h.I b hb)).trans (h.heap b hb)⟩

theorem cell_keep {w w' : World} {b o : Nat} (h : w'.heap[b]? = w.heap[b]?) : w'.cell? ⟨b, o, none⟩ = w.cell? ⟨b, o, none⟩ := World.cell?_of_block h

mutual
theorem Rd.evo {E E' : Env} {w w' : World} (k : Evo E w E' w') : ∀ {v : V} {x : Value}, Rd E w v x → Rd E' w' v x
  | _, _, .any x => .any x
  | _, _, .int k n => .int k n
  | _, _, .bool b => .bool b
  | _, _, .str l => .str l
  | _, _, .ptr n off B h => .ptr n off B (k.σ n B h)
  | _, _, .vptr cells off b o vs hI hc hw => .vptr cells off b o vs (k.I b hI) (Rcs.evo k hc) (fun i v hv => (cell_keep (k.heap b hI)).trans (hw i v hv))
  | _, _, .nilptr => .nilptr
  | _, _, .slice n off len sz cap B h hl hm hs => .slice n off len sz cap B (k.σ n B h) hl hm hs
  | _, _, .sliceE n off sz o B h ho => .sliceE n off sz o B (k.σ n B h) ho
  | _, _, .vec cells len cap b o vs hI hc hw hl hm => .vec cells len cap b o vs (k.I b hI) (Rcs.evo k hc) (fun i v hv => (cell_keep (k.heap b hI)).trans (hw i v hv)) hl hm
  | _, _, .vecNil => .vecNil
  | _, _, .nilslice => .nilslice
  | _, _, .map n B h => .map n B (k.σ n B h)
  | _, _, .nilmap => .nilmap
  | _, _, .func f a c fs cs hf hc => .func f a c fs cs (Rds.evo k hf) (Rds.evo k hc)
  | _, _, .yield n B h => .yield n B (k.σ n B h)
  | _, _, .nilfunc => .nilfunc
  | _, _, .iface t v x h => .iface t v x (Rd.evo k h)
  | _, _, .nilIface => .nilIface
  | _, _, .agg cells vs h => .agg cells vs (Rcs.evo k h)
  | _, _, .tuple l vs h => .tuple l vs (Rds.evo k h)
theorem Rds.evo {E E' : Env} {w w' : World} (k : Evo E w E' w') : ∀ {l : List V} {xs : List Value}, Rds E w l xs → Rds E' w' l xs
  | _, _, .nil => .nil
  | _, _, .cons v x l xs h ht => .cons v x l xs (Rd.evo k h) (Rds.evo k ht)
theorem Rcs.evo {E E' : Env} {w w' : World} (k : Evo E w E' w') : ∀ {l : List V} {xs : List Value}, Rcs E w l xs → Rcs E' w' l xs
  | _, _, .nil => .nil
  | _, _, .cons v x l xs h h1 ht => .cons v x l xs (Rd.evo k h) h1 (Rcs.evo k ht)
end

section lists
variable {E : Env} {w : World}
theorem Rds.length {l : List V} {xs : List Value} (h : Rds E w l xs) : xs.length = l.length := by
  induction l generalizing xs with
  | nil => cases h; rfl
  | cons v l ih => cases h with | cons _ _ _ _ _ ht => simp [ih ht]
theorem Rds.get {l : List V} {xs : List Value} (h : Rds E w l xs) : ∀ {i : Nat} {v : V}, l[i]? = some v → ∃ x, xs[i]? = some x ∧ Rd E w v x := by
  induction l generalizing xs with
  | nil => intro i v hv; simp at hv
  | cons u l ih =>
    cases h with
    | cons _ x _ xs hh ht =>
      intro i v hv
      cases i with
      | zero => simp at hv; subst hv; exact ⟨x, rfl, hh⟩
      | succ i => simpa using ih ht (by simpa using hv)
theorem Rds.append {l m : List V} {xs ys : List Value} (h : Rds E w l xs) (k : Rds E w m ys) : Rds E w (l ++ m) (xs ++ ys) := by
  induction l generalizing xs with
  | nil => cases h; exact k
  | cons v l ih => cases h with | cons _ x _ xs hh ht => exact .cons _ _ _ _ hh (ih ht)
theorem Rcs.length {l : List V} {xs : List Value} (h : Rcs E w l xs) : xs.length = l.length := by
  induction l generalizing xs with
  | nil => cases h; rfl
  | cons v l ih => cases h with | cons _ _ _ _ _ _ ht => simp [ih ht]
theorem Rcs.get {l : List V} {xs : List Value} (h : Rcs E w l xs) : ∀ {i : Nat} {v : V}, l[i]? = some v → ∃ x, xs[i]? = some x ∧ Rd E w v x ∧ x.oneCell' = true := by
  induction l generalizing xs with
  | nil => intro i v hv; simp at hv
  | cons u l ih =>
    cases h with
    | cons _ x _ xs hh h1 ht =>
      intro i v hv
      cases i with
      | zero => simp at hv; subst hv; exact ⟨x, rfl, hh, h1⟩
      | succ i => simpa using ih ht (by simpa using hv)
theorem Rcs.one {l : List V} {xs : List Value} (h : Rcs E w l xs) : ∀ x ∈ xs, x.oneCell' = true := by
  induction l generalizing xs with
  | nil => cases h; simp
  | cons v l ih =>
    cases h with
    | cons _ x _ xs hh h1 ht =>
      intro y hy
      rcases List.mem_cons.1 hy with rfl | hy
      · exact h1
      · exact ih ht y hy
theorem Rcs.append {l m : List V} {xs ys : List Value} (h : Rcs E w l xs) (k : Rcs E w m ys) : Rcs E w (l ++ m) (xs ++ ys) := by
  induction l generalizing xs with
  | nil => cases h; exact k
  | cons v l ih => cases h with | cons _ x _ xs hh h1 ht => exact .cons _ _ _ _ hh h1 (ih ht)
theorem Rcs.take {l : List V} {xs : List Value} (h : Rcs E w l xs) (n : Nat) : Rcs E w (l.take n) (xs.take n) := by
  induction l generalizing xs n with
  | nil => cases h; simpa using Rcs.nil
  | cons v l ih => cases h with
    | cons _ x _ xs hh h1 ht => cases n with
      | zero => exact .nil
      | succ n => exact .cons _ _ _ _ hh h1 (ih ht n)
theorem Rcs.drop {l : List V} {xs : List Value} (h : Rcs E w l xs) (n : Nat) : Rcs E w (l.drop n) (xs.drop n) := by
  induction l generalizing xs n with
  | nil => cases h; simpa using Rcs.nil
  | cons v l ih => cases h with
    | cons _ x _ xs hh h1 ht => cases n with
      | zero => exact .cons _ _ _ _ hh h1 ht
      | succ n => exact ih ht n
end lists

/-- What an object stands for. -/
def REnt (E : Env) (w : World) : List (V × V × Nat) → List MapEntry → Prop
  | [], [] => True
  | (k, v, b) :: r, e :: es => Rd E w k e.key ∧ Rd E w v e.val ∧ e.born = b ∧ REnt E w r es
  | _, _ => False
def TRel (E : Env) (w : World) (T : Tr V) (tmps : Array Value) : Prop := ∀ i v, T.get i = some v → ∃ x, tmps[i]? = some x ∧ Rd E w v x
def ObjRep (E : Env) (w : World) (B : Blk) : AObj → Prop
  | .cells cs t => ∃ (c : Array Value) (lo hi : Nat) (vs : List Value), w.heap[B.b]? = some (.cells c t (lo, hi)) ∧ (lo = hi ∨ c.size ≤ lo) ∧ B.base + B.size ≤ c.size ∧
      Rcs E w cs vs ∧ cs.length ≤ B.size ∧ ∀ i v, vs[i]? = some v → c[B.base + i]? = some v
  | .strIter s pos => B.base = 0 ∧ w.heap[B.b]? = some (.stringIter ⟨⟨s⟩⟩ pos)
  | .map es clock => ∃ es', w.heap[B.b]? = some (.map es' clock) ∧ REnt E w es es'.toList
  | .mapIter none since seen st => B.base = 0 ∧ w.heap[B.b]? = some (.mapIter none since ⟨seen.reverse⟩ st)
  | .mapIter (some m) since seen st => ∃ C, E.σ m = some C ∧ B.base = 0 ∧ w.heap[B.b]? = some (.mapIter (some C.b) since ⟨seen.reverse⟩ st)
  | .loop state pending T nt params assign body defers => ∃ (D : Blk) (fn : FuncId) (tmps : Array Value), E.σ defers = some D ∧ TRel E w T tmps ∧ tmps.size = nt ∧
      w.heap[B.b]? = some (.loop { state, pending, fn, tmps, params := ⟨params⟩, assign, body, defers := D.b })
  | .deferred taken => w.heap[B.b]? = some (.deferred (if taken then none else some []))

theorem REnt.evo {E E' : Env} {w w' : World} (k : Evo E w E' w') : ∀ (l : List (V × V × Nat)) (es : List MapEntry), REnt E w l es → REnt E' w' l es
  | [], [], _ => trivial
  | (_, _, _) :: r, e :: es, ⟨h1, h2, h3, h4⟩ => ⟨h1.evo k, h2.evo k, h3, REnt.evo k r es h4⟩
theorem TRel.evo {E E' : Env} {w w' : World} (k : Evo E w E' w') {T : Tr V} {tmps : Array Value} (h : TRel E w T tmps) : TRel E' w' T tmps :=
  fun i v hv => let ⟨x, hx, hr⟩ := h i v hv; ⟨x, hx, hr.evo k⟩
theorem ObjRep.evo {E E' : Env} {w w' : World} (k : Evo E w E' w') {B : Blk} (hb : w'.heap[B.b]? = w.heap[B.b]?) : ∀ {o : AObj}, ObjRep E w B o → ObjRep E' w' B o
  | .cells _ _, ⟨c, lo, hi, vs, h1, h2, h3, h4, h5, h6⟩ => ⟨c, lo, hi, vs, hb.trans h1, h2, h3, h4.evo k, h5, h6⟩
  | .strIter _ _, h => ⟨h.1, hb.trans h.2⟩
  | .map _ _, ⟨es', h1, h2⟩ => ⟨es', hb.trans h1, REnt.evo k _ _ h2⟩
  | .mapIter none _ _ _, h => ⟨h.1, hb.trans h.2⟩
  | .mapIter (some _) _ _ _, ⟨C, h1, h0, h2⟩ => ⟨C, k.σ _ _ h1, h0, hb.trans h2⟩
  | .loop .., ⟨D, fn, tmps, h1, h2, h3, h4⟩ => ⟨D, fn, tmps, k.σ _ _ h1, h2.evo k, h3, hb.trans h4⟩
  | .deferred _, h => hb.trans h

/-- What an abstract heap stands for. -/
structure HInv (E : Env) (H : Nat → Option AObj) (w : World) : Prop where
  obj : ∀ n o, H n = some o → ∃ B, E.σ n = some B ∧ ObjRep E w B o
  inj : ∀ n m o p B C, H n = some o → H m = some p → E.σ n = some B → E.σ m = some C → B.b = C.b → n = m
  notI : ∀ n o B, H n = some o → E.σ n = some B → ¬ E.I B.b
  Ilt : ∀ b, E.I b → b < w.heap.size

theorem HInv.sub {E : Env} {H K : Nat → Option AObj} {w : World} (h : HInv E H w) (hk : ∀ n o, K n = some o → H n = some o) : HInv E K w :=
  ⟨fun n o ho => h.obj n o (hk n o ho), fun n m o p B C ho hp hB hC => h.inj n m o p B C (hk _ _ ho) (hk _ _ hp) hB hC, fun n o B ho hB => h.notI n o B (hk _ _ ho) hB, h.Ilt⟩

theorem ObjRep.lt {E : Env} {w : World} {B : Blk} : ∀ {o : AObj}, ObjRep E w B o → B.b < w.heap.size
  | .cells _ _, ⟨_, _, _, _, h1, _⟩ => (Array.getElem?_eq_some_iff.1 h1).1
  | .strIter _ _, h => (Array.getElem?_eq_some_iff.1 h.2).1
  | .map _ _, ⟨_, h1, _⟩ => (Array.getElem?_eq_some_iff.1 h1).1
  | .mapIter none _ _ _, h => (Array.getElem?_eq_some_iff.1 h.2).1
  | .mapIter (some _) _ _ _, ⟨_, _, _, h2⟩ => (Array.getElem?_eq_some_iff.1 h2).1
  | .loop .., ⟨_, _, _, _, _, _, h4⟩ => (Array.getElem?_eq_some_iff.1 h4).1
  | .deferred _, h => (Array.getElem?_eq_some_iff.1 h).1

/-- The frame of an evaluation that began in w0: of what was there nothing has turned but the blocks of O; what a heap names is one of these, or new. -/
structure GInv (w0 : World) (O : Nat → Prop) (E : Env) (H : Nat → Option AObj) (w : World) : Prop where
  os : w.os = w0.os
  tape : w.tape = w0.tape
  output : w.output = w0.output
  size : w0.heap.size ≤ w.heap.size
  block : ∀ b, b < w0.heap.size → ¬ O b → w.heap[b]? = w0.heap[b]?
  own : ∀ n o B, H n = some o → E.σ n = some B → O B.b ∨ w0.heap.size ≤ B.b
end Go.Abs
