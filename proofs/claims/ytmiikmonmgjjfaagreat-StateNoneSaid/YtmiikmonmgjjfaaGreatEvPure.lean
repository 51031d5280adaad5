/- Closed runs by the kernel: operations that leave memory alone. -/
import Derived.Test.YtmiikmonmgjjfaaGreatEvMem
namespace Go.Ev
open Go.Sx

def evs (ρ : Operand → Option Value) : List Operand → Option (List Value)
  | [] => some []
  | x :: l => match ρ x, evs ρ l with
    | some a, some b => some (a :: b)
    | _, _ => none

def sizeT (P : Program) (t : TypeId) : Option Nat := match P.info? t with
  | some i => some i.size
  | none => none
def partL (P : Program) (t : TypeId) (cs : List Value) (off : Nat) : Option Value :=
  match P.underlying t with
  | some (.struct _) | some (.array _ _) => match sizeT P t with
    | some n => some (.agg ((cs.drop off).take n).toArray)
    | none => none
  | some _ => cs[off]?
  | none => none

def intBin (op : BinOp) (k : IntKind) (a : Int) (k' : IntKind) (b : Int) : Option Value :=
  match op with
  | .shl => if b < 0 then none else some (.int k (k.wrap (a * 2 ^ (min b.toNat k.bits))))
  | .shr => if b < 0 then none else some (.int k (a.fdiv (2 ^ (min b.toNat k.bits))))
  | _ => if k ≠ k' then none else match op with
    | .add => some (.int k (k.wrap (a + b)))
    | .sub => some (.int k (k.wrap (a - b)))
    | .mul => some (.int k (k.wrap (a * b)))
    | .quo => if b = 0 then none else some (.int k (k.wrap (a.tdiv b)))
    | .rem => if b = 0 then none else some (.int k (a.tmod b))
    | .and => some (.int k (k.wrap (BitVec.ofInt k.bits a &&& BitVec.ofInt k.bits b).toNat))
    | .or => some (.int k (k.wrap (BitVec.ofInt k.bits a ||| BitVec.ofInt k.bits b).toNat))
    | .xor => some (.int k (k.wrap (BitVec.ofInt k.bits a ^^^ BitVec.ofInt k.bits b).toNat))
    | .andNot => some (.int k (k.wrap (BitVec.ofInt k.bits a &&& ~~~BitVec.ofInt k.bits b).toNat))
    | .eql => some (.bool (a == b))
    | .neq => some (.bool (a != b))
    | .lss => some (.bool (a < b))
    | .leq => some (.bool (a ≤ b))
    | .gtr => some (.bool (a > b))
    | .geq => some (.bool (a ≥ b))
    | _ => none

def strBin (op : BinOp) (x y : ByteArray) : Option Value :=
  match op with
  | .eql => some (.bool (x.data.toList == y.data.toList))
  | .neq => some (.bool !(x.data.toList == y.data.toList))
  | .lss => some (.bool (Op.bytesLess x.data.toList y.data.toList))
  | .add => if ((x.size + y.size : Nat) : Int) > IntKind.i64.max then none else some (.string ⟨(x.data.toList ++ y.data.toList).toArray⟩)
  | _ => none

/-- '== nil', '!= nil' -/
def isNil (P : Program) (t : TypeId) : Value → Value → Option Bool
  | .pointer a, .pointer none => match P.underlying t with | some (.pointer _) => some a.isNone | _ => none
  | .slice a _ _, .slice none _ _ => match P.underlying t with | some (.slice _) => some a.isNone | _ => none
  | .map a, .map none => match P.underlying t with | some (.map _ _) => some a.isNone | _ => none
  | _, _ => none

def genBin (P : Program) (op : BinOp) (t : TypeId) (x y : Operand) (vx vy : Value) : Option Value :=
  match (do eqGuard op t x y vx vy; binOp op t vx vy : Sem Value).run P default with
  | .ok v _ => if plainV v then some v else none
  | _ => none

def binL (P : Program) (ρ : Operand → Option Value) (op : BinOp) (t : TypeId) (x y : Operand) : Option Value :=
  match ρ x, ρ y with
  | some (.int k a), some (.int k' b) => intBin op k a k' b
  | some (.string a), some (.string b) => strBin op a b
  | some vx, some vy =>
    match op, isNil P t vx vy with
    | .eql, some b => some (.bool b)
    | .neq, some b => some (.bool !b)
    | _, _ => if calmV vx && calmV vy then genBin P op t x y vx vy else none
  | _, _ => none

/-- the cells of 'parts' put in their places -/
def fillL (place : Nat → Option (Nat × Nat)) (cells : List Value) : List (Nat × Value) → Option (List Value)
  | [] => some cells
  | (i, v) :: rest => match place i with
    | none => none
    | some (off, size) =>
      let vs := v.cells.toList
      if vs.length ≠ size || off + vs.length > cells.length then none else fillL place (splice cells off vs) rest
def partsL (ρ : Operand → Option Value) : List (Nat × Operand) → Option (List (Nat × Value))
  | [] => some []
  | (i, x) :: l => match ρ x, partsL ρ l with
    | some v, some r => some ((i, v) :: r)
    | _, _ => none
def placesL (P : Program) : List Field → Option (List (Nat × Nat))
  | [] => some []
  | f :: l => match sizeT P f.type, placesL P l with
    | some n, some r => some ((f.offset, n) :: r)
    | _, _ => none
def zeroL (P : Program) (t : TypeId) : Option (List Value) := match P.info? t with
  | some i => match i.zero with
    | some z => if plainA z.cells.toList then some z.cells.toList else none
    | none => none
  | none => none

def pureOp (P : Program) (ρ : Operand → Option Value) : Op → Option Value
  | .move x | .assign x => ρ x
  | .pick c a b => match ρ c with
    | some (.bool true) => ρ a
    | some (.bool false) => ρ b
    | _ => none
  | .extract x i => match ρ x with
    | some (.tuple vs) => vs.toList[i]?
    | _ => none
  | .field t x f => match P.underlying t, ρ x with
    | some (.struct fs), some (.agg cs) => match fs[f]? with
      | some fd => partL P fd.type cs.toList fd.offset
      | none => none
    | _, _ => none
  | .makeFunc fn a b => match evs ρ a.toList, evs ρ b.toList with
    | some a, some b => some (.func fn a.toArray b.toArray)
    | _, _ => none
  | .nilCheck x => match ρ x with
    | some (.pointer (some a)) => some (.pointer (some a))
    | some (.func (.func f) a b) => some (.func (.func f) a b)
    | _ => none
  | .fieldAddr s x f => match P.underlying s, ρ x with
    | some (.struct fs), some (.pointer (some ⟨id, off, none⟩)) => match fs[f]? with
      | some fd => match sizeT P fd.type with
        | some 0 => none
        | some _ => some (.pointer (some ⟨id, off + fd.offset, none⟩))
        | none => none
      | none => none
    | _, _ => none
  | .indexAddr t x i => match P.underlying t, ρ x, ρ i with
    | some (.slice e), some (.slice (some ⟨id, off, none⟩) len _), some (.int _ j) => match sizeT P e with
      | some sz => if 0 ≤ j ∧ j < len then some (.pointer (some ⟨id, off + j.toNat * sz, none⟩)) else none
      | none => none
    | some (.array len e), some (.pointer (some ⟨id, off, none⟩)), some (.int _ j) => match sizeT P e with
      | some sz => if 0 ≤ j ∧ j < len then some (.pointer (some ⟨id, off + j.toNat * sz, none⟩)) else none
      | none => none
    | _, _, _ => none
  | .build t ps => match P.underlying t, zeroL P t, partsL ρ ps.toList with
    | some (.struct fs), some z, some ps => match placesL P fs.toList with
      | some pl => match fillL (pl[·]?) z ps with
        | some cs => some (.agg cs.toArray)
        | none => none
      | none => none
    | some (.array _ e), some z, some ps => match sizeT P e with
      | some n => match fillL (fun i => some (i * n, n)) z ps with
        | some cs => some (.agg cs.toArray)
        | none => none
      | none => none
    | _, _, _ => none
  | .binOp op t x y _ => binL P ρ op t x y
  | .unOp .not _ x => match ρ x with
    | some (.bool b) => some (.bool !b)
    | _ => none
  | .unOp .neg _ x => match ρ x with
    | some (.int k n) => some (.int k (k.wrap (0 - n)))
    | _ => none
  | .convert s d x => match P.underlying s, P.underlying d, ρ x with
    | some _, some (.int k), some (.int _ n) => some (.int k (k.wrap n))
    | some .string, some .string, some (.string b) => some (.string b)
    | _, _, _ => none
  | .index t x i => match P.underlying t, ρ x, ρ i with
    | some .string, some (.string s), some (.int _ j) => if 0 ≤ j then (match s.data.toList[j.toNat]? with
      | some b => some (.int .u8 b.toNat)
      | none => none) else none
    | some (.array len e), some (.agg cs), some (.int _ j) => match sizeT P e with
      | some sz => if 0 ≤ j ∧ j < len then partL P e cs.toList (j.toNat * sz) else none
      | none => none
    | _, _, _ => none
  | .call c => match c.callee, c.args.toList, c.argTypes[0]? with
    | .builtin .len, [x], some t => match P.underlying t, ρ x with
      | some (.slice _), some (.slice _ n _) => some (.int .i64 n)
      | some .string, some (.string s) => some (.int .i64 s.size)
      | _, _ => none
    | .builtin .max, [x, y], _ => match ρ x, ρ y with
      | some (.int k a), some (.int _ b) => some (.int k (if b > a then b else a))
      | _, _ => none
    | .builtin .min, [x, y], _ => match ρ x, ρ y with
      | some (.int k a), some (.int _ b) => some (.int k (if b < a then b else a))
      | _, _ => none
    | _, _, _ => none
  | _ => none

/-! ### What they answer is what every world answers -/

section
variable {P : Program} {ι : List Spot}

theorem run_und {t : TypeId} {d : TypeDesc} (h : P.underlying t = some d) (w : World) : (underlying t).run P w = .ok d w := run_underlying h w
theorem run_szT {t : TypeId} {n : Nat} (h : sizeT P t = some n) (w : World) : (sizeOf t).run P w = .ok n w := by
  unfold sizeT at h
  split at h
  · rename_i i hi
    cases h
    simp [sizeOf, typeInfo, hi]
  · cases h
theorem partL_sound {t : TypeId} {cs rcs : List Value} {off : Nat} {v : Value} (h : partL P t cs off = some v) (hc : rns ι cs = some rcs) (w : World) : ∃ rv, (part t rcs.toArray off).run P w = .ok rv w ∧ rn ι v = some rv := by
  unfold partL at h
  have agg : ∀ d n, P.underlying t = some d → (∃ fs, d = .struct fs) ∨ (∃ a b, d = .array a b) → sizeT P t = some n → v = .agg ((cs.drop off).take n).toArray → ∃ rv, (part t rcs.toArray off).run P w = .ok rv w ∧ rn ι v = some rv := by
    intro d n hd hk hn e
    subst e
    refine ⟨.agg ((rcs.drop off).take n).toArray, ?_, ?_⟩
    · have : (isAgg t).run P w = .ok true w := by
        rcases hk with ⟨fs, rfl⟩ | ⟨a, b, rfl⟩ <;> simp [isAgg, run_und hd]
      simp only [part, Sem.run_bind, this, Result.andThen_ok, if_true, run_szT hn, Sem.run_pure]
      congr 2
      apply Array.ext'
      rw [Array.toList_extract, List.extract_eq_take_drop]
      simp
    · simp only [rn, (rns_split (rns_split hc off).2 n).1, Option.map_some]
  split at h
  · rename_i fs hu
    split at h
    · rename_i n hn; cases h; exact agg _ n hu (.inl ⟨_, rfl⟩) hn rfl
    · cases h
  · rename_i a b hu
    split at h
    · rename_i n hn; cases h; exact agg _ n hu (.inr ⟨_, _, rfl⟩) hn rfl
    · cases h
  · rename_i d hs ha hu
    obtain ⟨rv, h1, h2⟩ := rns_get hc h
    refine ⟨rv, ?_, h2⟩
    have : (isAgg t).run P w = .ok false w := by
      cases d <;> first | exact absurd rfl (hs _) | exact absurd rfl (ha _ _) | simp [isAgg, run_und hu]
    simp only [part, Sem.run_bind, this, Result.andThen_ok]
    simp [h1]
  · cases h

theorem intBin_sound {op : BinOp} {k k' : IntKind} {a b : Int} {v : Value} (h : intBin op k a k' b = some v) (t : TypeId) (x y : Operand) (w : World) :
    (do eqGuard op t x y (.int k a) (.int k' b); binOp op t (.int k a) (.int k' b) : Sem Value).run P w = .ok v w ∧ plainV v = true := by
  cases op <;> simp only [intBin] at h
  all_goals
    first
      | (split at h
         · cases h
         · first
             | (cases h
                rename_i hk
                simp only [ne_eq, Classical.not_not] at hk
                subst hk
                exact ⟨by simp [eqGuard, binOp, Op.intArith, Op.intBits, Op.intCmp], rfl⟩)
             | (split at h
                · cases h
                · rename_i hk _
                  simp only [ne_eq, Classical.not_not] at hk
                  subst hk
                  cases h
                  exact ⟨by simp [eqGuard, binOp, Op.intDiv, *], rfl⟩)
             | (cases h
                exact ⟨by simp [eqGuard, binOp, Op.shift, *], rfl⟩)
             | cases h)
      | cases h

theorem strBin_sound {op : BinOp} {a b : ByteArray} {v : Value} (h : strBin op a b = some v) (t : TypeId) (x y : Operand) (w : World) :
    (do eqGuard op t x y (.string a) (.string b); binOp op t (.string a) (.string b) : Sem Value).run P w = .ok v w ∧ plainV v = true := by
  cases op <;> simp only [strBin, reduceCtorEq, Option.some.injEq] at h
  all_goals
    first
      | (subst h; exact ⟨by simp [eqGuard, binOp, Op.stringOp, ByteArray.toList_eq], rfl⟩)
      | (split at h
         · cases h
         · rename_i hn
           cases h
           refine ⟨?_, rfl⟩
           simp only [eqGuard, binOp, Op.stringOp, hn, if_false]
           simp
           apply ByteArray.ext
           simp)

theorem isNil_sound {t : TypeId} {vx vy rx ry : Value} {b : Bool} (h : isNil P t vx vy = some b) (hx : rn ι vx = some rx) (hy : rn ι vy = some ry) (w : World) :
    (Op.equal t rx ry).run P w = .ok b w ∧ ∀ (op : BinOp) (x y : Operand), ((eqGuard op t x y rx ry).run P w = .ok () w ∧ binOp .eql t rx ry = (do pure (.bool (← Op.equal t rx ry))) ∧ binOp .neq t rx ry = (do pure (.bool (!(← Op.equal t rx ry))))) := by
  unfold isNil at h
  split at h
  · rename_i a
    split at h
    · rename_i e hu
      cases h
      simp only [rn, Option.some.injEq] at hy
      subst hy
      have hu := run_und hu w
      have key : ∀ a' : Option Addr, ∀ d, (Op.equalIn (d + 1) t (.pointer a') (.pointer none)).run P w = .ok a'.isNone w := fun a' d => by cases a' <;> simp [Op.equalIn, hu]
      have fin : ∀ a' : Option Addr, rx = .pointer a' → a'.isNone = a.isNone → (Op.equal t rx (.pointer none)).run P w = .ok a.isNone w ∧ ∀ (op : BinOp) (x y : Operand), ((eqGuard op t x y rx (.pointer none)).run P w = .ok () w ∧ binOp .eql t rx (.pointer none) = (do pure (.bool (← Op.equal t rx (.pointer none)))) ∧ binOp .neq t rx (.pointer none) = (do pure (.bool (!(← Op.equal t rx (.pointer none)))))) := by
        rintro a' rfl he
        exact ⟨by rw [← he]; exact key a' 9999, fun op x y => ⟨by cases op <;> simp [eqGuard], rfl, rfl⟩⟩
      cases a with
      | none => simp only [rn, Option.some.injEq] at hx; exact fin none hx.symm rfl
      | some a =>
        obtain ⟨id, off, sp⟩ := a
        cases sp with
        | some _ => simp [rn] at hx
        | none =>
          simp only [rn, Option.map_eq_some_iff] at hx
          obtain ⟨s, hs, rfl⟩ := hx
          exact fin _ rfl rfl
    · cases h
  · rename_i a n1 c1 n2 c2
    split at h
    · rename_i e hu
      cases h
      simp only [rn, Option.some.injEq] at hy
      subst hy
      have hu := run_und hu w
      have key : ∀ a' : Option Addr, ∀ n c d, (Op.equalIn (d + 1) t (.slice a' n c) (.slice none n2 c2)).run P w = .ok a'.isNone w := fun a' n c d => by cases a' <;> simp [Op.equalIn, hu]
      have fin : ∀ (a' : Option Addr) n c, rx = .slice a' n c → a'.isNone = a.isNone → (Op.equal t rx (.slice none n2 c2)).run P w = .ok a.isNone w ∧ ∀ (op : BinOp) (x y : Operand), ((eqGuard op t x y rx (.slice none n2 c2)).run P w = .ok () w ∧ binOp .eql t rx (.slice none n2 c2) = (do pure (.bool (← Op.equal t rx (.slice none n2 c2)))) ∧ binOp .neq t rx (.slice none n2 c2) = (do pure (.bool (!(← Op.equal t rx (.slice none n2 c2)))))) := by
        rintro a' n c rfl he
        exact ⟨by rw [← he]; exact key a' n c 9999, fun op x y => ⟨by cases op <;> simp [eqGuard], rfl, rfl⟩⟩
      cases a with
      | none => simp only [rn, Option.some.injEq] at hx; exact fin none _ _ hx.symm rfl
      | some a =>
        obtain ⟨id, off, sp⟩ := a
        cases sp with
        | some _ => simp [rn] at hx
        | none =>
          simp only [rn, Option.map_eq_some_iff] at hx
          obtain ⟨s, hs, rfl⟩ := hx
          exact fin _ _ _ rfl rfl
    · cases h
  · rename_i a
    split at h
    · rename_i e hu
      cases h
      simp only [rn, Option.some.injEq] at hy
      subst hy
      have hu := run_und hu w
      have key : ∀ a' : Option Nat, ∀ d, (Op.equalIn (d + 1) t (.map a') (.map none)).run P w = .ok a'.isNone w := fun a' d => by cases a' <;> simp [Op.equalIn, hu]
      have fin : ∀ a' : Option Nat, rx = .map a' → a'.isNone = a.isNone → (Op.equal t rx (.map none)).run P w = .ok a.isNone w ∧ ∀ (op : BinOp) (x y : Operand), ((eqGuard op t x y rx (.map none)).run P w = .ok () w ∧ binOp .eql t rx (.map none) = (do pure (.bool (← Op.equal t rx (.map none)))) ∧ binOp .neq t rx (.map none) = (do pure (.bool (!(← Op.equal t rx (.map none)))))) := by
        rintro a' rfl he
        exact ⟨by rw [← he]; exact key a' 9999, fun op x y => ⟨by cases op <;> simp [eqGuard], rfl, rfl⟩⟩
      cases a with
      | none => simp only [rn, Option.some.injEq] at hx; exact fin none hx.symm rfl
      | some a =>
        simp only [rn, Option.map_eq_some_iff] at hx
        obtain ⟨s, hs, rfl⟩ := hx
        exact fin _ rfl rfl
    · cases h
  · cases h

mutual
theorem calm_plainV (v : Value) (h : calmV v = true) : plainV v = true := by
  match v with
  | .agg cs | .tuple cs => simp only [calmV] at h; simp only [plainV]; exact calm_plainA _ h
  | .pointer none | .slice none _ _ | .map none | .nilFunc | .nilIface | .bool _ | .int _ _ | .float _ _ | .complex _ _ _ | .string _ => rfl
  | .pointer (some _) | .slice (some _) _ _ | .map (some _) | .chan _ | .func _ _ _ | .iface _ _ => simp [calmV] at h
theorem calm_plainA (l : List Value) (h : calmA l = true) : plainA l = true := by
  match l with
  | [] => rfl
  | v :: l =>
    simp only [calmA, Bool.and_eq_true] at h
    simp only [plainA, Bool.and_eq_true]
    exact ⟨calm_plainV v h.1, calm_plainA l h.2⟩
end
theorem calm_plain (v : Value) (h : calmV v = true) : rn ι v = some v := rn_plain v (calm_plainV v h)

theorem binL_sound {ρl : Operand → Option Value} {ρ : Operand → Value} (hρ : ∀ x v, ρl x = some v → rn ι v = some (ρ x)) {op : BinOp} {t : TypeId} {x y : Operand} {v : Value} (h : binL P ρl op t x y = some v) (w : World) :
    ∃ rv, (do eqGuard op t x y (ρ x) (ρ y); binOp op t (ρ x) (ρ y) : Sem Value).run P w = .ok rv w ∧ rn ι v = some rv := by
  unfold binL at h
  split at h
  · rename_i k a k' b hx hy
    have hx := hρ _ _ hx
    have hy := hρ _ _ hy
    simp only [rn, Option.some.injEq] at hx hy
    rw [← hx, ← hy]
    have := intBin_sound (P := P) h t x y w
    exact ⟨v, this.1, rn_plain _ this.2⟩
  · rename_i a b hx hy
    have hx := hρ _ _ hx
    have hy := hρ _ _ hy
    simp only [rn, Option.some.injEq] at hx hy
    rw [← hx, ← hy]
    have := strBin_sound (P := P) h t x y w
    exact ⟨v, this.1, rn_plain _ this.2⟩
  · rename_i vx vy n1 n2 hx hy
    have hx := hρ _ _ hx
    have hy := hρ _ _ hy
    split at h
    · rename_i b hb
      cases h
      have := isNil_sound hb hx hy w
      refine ⟨.bool b, ?_, by simp [rn]⟩
      simp only [Sem.run_bind, (this.2 .eql x y).1, Result.andThen_ok, (this.2 .eql x y).2.1, this.1, Sem.run_pure]
    · rename_i b hb
      cases h
      have := isNil_sound hb hx hy w
      refine ⟨.bool !b, ?_, by simp [rn]⟩
      simp only [Sem.run_bind, (this.2 .neq x y).1, Result.andThen_ok, (this.2 .eql x y).2.2, this.1, Sem.run_pure]
    · split at h
      · rename_i hc
        simp only [Bool.and_eq_true] at hc
        rw [calm_plain _ hc.1] at hx
        rw [calm_plain _ hc.2] at hy
        cases hx; cases hy
        unfold genBin at h
        split at h
        · rename_i u w0 hr
          split at h
          · rename_i hp
            cases h
            rcases Ob.bind (Ob.eqGuard (P := P) _ t x y (ρ x) (ρ y)) (fun _ => Ob.binOp (P := P) _ t (ρ x) (ρ y) hc.1 hc.2) with ⟨a, ha⟩ | hn
            · have := ha default
              rw [hr] at this
              cases this
              exact ⟨_, ha w, rn_plain _ hp⟩
            · exact absurd hr (hn _ _ _)
          · cases h
        · cases h
      · cases h
  · cases h

theorem splice_cons (L : List Value) (p : Nat) (v : Value) (vs : List Value) (h : p + (v :: vs).length ≤ L.length) : splice (L.set p v) (p + 1) vs = splice L p (v :: vs) := by
  simp only [List.length_cons] at h
  apply List.ext_getElem?
  intro j
  rw [splice_get (by simp; omega), splice_get (by simp; omega)]
  simp only [List.length_cons, List.getElem?_set]
  by_cases h1 : p + 1 ≤ j ∧ j < p + 1 + vs.length
  · rw [if_pos h1, if_pos (by omega), show j - p = (j - (p + 1)) + 1 by omega, List.getElem?_cons_succ]
  · rw [if_neg h1]
    by_cases h2 : p = j
    · subst h2
      rw [if_pos rfl, if_pos (by omega), if_pos (by omega)]
      simp
    · rw [if_neg h2, if_neg (by omega)]
theorem splice_nil (L : List Value) (p : Nat) : splice L p [] = L := by simp [splice]
theorem foldl_splice (off : Nat) : ∀ (vs : List Value) (k : Nat) (cs : Array Value), off + k + vs.length ≤ cs.size →
    ((vs.zipIdx k).foldl (fun cs (x : Value × Nat) => cs.setIfInBounds (off + x.2) x.1) cs).toList = splice cs.toList (off + k) vs := by
  intro vs
  induction vs with
  | nil => intro k cs _; simp [splice_nil]
  | cons v vs ih =>
    intro k cs h
    rw [List.zipIdx_cons, List.foldl_cons, ih (k + 1) _ (by simp at h ⊢; omega), Array.toList_setIfInBounds, ← splice_cons _ _ _ _ (by simpa using h)]
    rfl

theorem fillL_sound {place place' : Nat → Option (Nat × Nat)} (hp : ∀ i x, place i = some x → place' i = some x) : ∀ (ps : List (Nat × Value)) (rps : List (Nat × Value)) (cells rcells : List Value) (cs : List Value),
    fillL place cells ps = some cs → rns ι cells = some rcells → ps.map (·.1) = rps.map (·.1) → rns ι (ps.map (·.2)) = some (rps.map (·.2)) → ∃ rcs, Instr.fill place' rcells.toArray rps = some rcs.toArray ∧ rns ι cs = some rcs := by
  intro ps
  induction ps with
  | nil =>
    intro rps cells rcells cs h hc h1 h2
    have : rps = [] := by
      cases rps with
      | nil => rfl
      | cons x l => simp at h1
    subst this
    simp only [fillL, Option.some.injEq] at h
    subst h
    exact ⟨rcells, rfl, hc⟩
  | cons q ps ih =>
    obtain ⟨i, v⟩ := q
    intro rps cells rcells cs h hc h1 h2
    cases rps with
    | nil => simp at h1
    | cons rq rps =>
      obtain ⟨i', rv⟩ := rq
      simp only [List.map_cons, List.cons.injEq] at h1
      obtain ⟨rfl, h1⟩ := h1
      simp only [List.map_cons] at h2
      obtain ⟨a, b, h3, h4, h5⟩ := rns_cons.1 h2
      cases h5
      simp only [fillL] at h
      split at h
      · cases h
      · rename_i off size hpl
        split at h
        · cases h
        · rename_i hb
          simp only [ne_eq, Bool.or_eq_true, decide_eq_true_eq, not_or, Classical.not_not, Nat.not_lt, gt_iff_lt] at hb
          have hvc := rn_cells h3
          have hvl := rns_length hvc
          have hcl := rns_length hc
          obtain ⟨rcs, h6, h7⟩ := ih rps _ _ cs h (rns_splice hc hvc off) h1 h4
          refine ⟨rcs, ?_, h7⟩
          simp only [Instr.fill, hp _ _ hpl]
          have e1 : rv.cells.size = size := by rw [← Array.length_toList, hvl]; exact hb.1
          rw [if_neg (by simp only [List.size_toArray, ne_eq, Bool.or_eq_true, decide_eq_true_eq, not_or, Classical.not_not, Nat.not_lt, gt_iff_lt]; exact ⟨e1, by rw [hcl, ← Array.length_toList, hvl]; exact hb.2⟩), ← h6]
          congr 1
          apply Array.ext'
          rw [← Array.foldl_toList, Array.toList_zipIdx, foldl_splice off rv.cells.toList 0 rcells.toArray (by simp only [List.size_toArray]; rw [hcl, hvl]; exact hb.2)]
          rfl

theorem evs_sound {ρl : Operand → Option Value} {ρ : Operand → Value} (hρ : ∀ x v, ρl x = some v → rn ι v = some (ρ x)) : ∀ (l : List Operand) (vs : List Value), evs ρl l = some vs → rns ι vs = some (l.map ρ) := by
  intro l
  induction l with
  | nil => intro vs h; simp [evs] at h; subst h; rfl
  | cons x l ih =>
    intro vs h
    simp only [evs] at h
    split at h
    · rename_i a b ha hb
      cases h
      exact rns_cons.2 ⟨_, _, hρ _ _ ha, ih _ hb, rfl⟩
    · cases h
theorem partsL_sound {ρl : Operand → Option Value} {ρ : Operand → Value} (hρ : ∀ x v, ρl x = some v → rn ι v = some (ρ x)) : ∀ (l : List (Nat × Operand)) (ps : List (Nat × Value)), partsL ρl l = some ps →
    ps.map (·.1) = (l.map fun (i, x) => (i, ρ x)).map (·.1) ∧ rns ι (ps.map (·.2)) = some ((l.map fun (i, x) => (i, ρ x)).map (·.2)) := by
  intro l
  induction l with
  | nil => intro vs h; simp [partsL] at h; subst h; exact ⟨rfl, rfl⟩
  | cons x l ih =>
    obtain ⟨i, x⟩ := x
    intro vs h
    simp only [partsL] at h
    split at h
    · rename_i a b ha hb
      cases h
      obtain ⟨h1, h2⟩ := ih _ hb
      exact ⟨by simp only [List.map_cons, h1], rns_cons.2 ⟨_, _, hρ _ _ ha, h2, rfl⟩⟩
    · cases h
theorem placesL_sound : ∀ (l : List Field) (pl : List (Nat × Nat)), placesL P l = some pl → ∀ w, (l.mapM (fun f => do pure (f.offset, ← sizeOf f.type) : Field → Sem (Nat × Nat))).run P w = .ok pl w := by
  intro l
  induction l with
  | nil => intro pl h w; simp [placesL] at h; subst h; simp
  | cons f l ih =>
    intro pl h w
    simp only [placesL] at h
    split at h
    · rename_i n r hn hr
      cases h
      simp only [List.mapM_cons, Sem.run_bind, run_szT hn, Result.andThen_ok, Sem.run_pure, ih _ hr w]
    · cases h
theorem zeroL_sound {t : TypeId} {z : List Value} (h : zeroL P t = some z) (w : World) : (∃ v, (zeroValue t).run P w = .ok v w ∧ v.cells.toList = z) ∧ rns ι z = some z := by
  unfold zeroL at h
  split at h
  · rename_i i hi
    split at h
    · rename_i v hv
      split at h
      · rename_i hp
        cases h
        exact ⟨⟨v, by simp [zeroValue, typeInfo, hi, hv], rfl⟩, rns_plain _ hp⟩
      · cases h
    · cases h
  · cases h

theorem rn_ptr {id off : Nat} {rv : Value} (h : rn ι (.pointer (some ⟨id, off, none⟩)) = some rv) : ∃ s, ι[id]? = some s ∧ rv = .pointer (some ⟨s.b, s.base + off, none⟩) := by
  simp only [rn, Option.map_eq_some_iff] at h
  obtain ⟨s, hs, rfl⟩ := h
  exact ⟨s, hs, rfl⟩
theorem rn_sl {id off n c : Nat} {rv : Value} (h : rn ι (.slice (some ⟨id, off, none⟩) n c) = some rv) : ∃ s, ι[id]? = some s ∧ rv = .slice (some ⟨s.b, s.base + off, none⟩) n (s.slot c) := by
  simp only [rn, Option.map_eq_some_iff] at h
  obtain ⟨s, hs, rfl⟩ := h
  exact ⟨s, hs, rfl⟩

set_option maxHeartbeats 1000000 in
theorem pureOp_sound {ρl : Operand → Option Value} {ρ : Operand → Value} (hρ : ∀ x v, ρl x = some v → rn ι v = some (ρ x)) (o : Oper) {v : Value} (h : pureOp P ρl o.op = some v) (w : World) :
    ∃ rv, (execOp ρ o).run P w = .ok (.value rv) w ∧ rn ι v = some rv := by
  obtain ⟨dst, op, type, pos, after, guard⟩ := o
  simp only at h
  cases op <;> simp only [pureOp, reduceCtorEq] at h <;> simp only [execOp]
  case move x => exact ⟨_, rfl, hρ _ _ h⟩
  case assign x => exact ⟨_, rfl, hρ _ _ h⟩
  case pick c a b =>
    split at h
    · rename_i hc
      have hc := hρ _ _ hc
      simp only [rn, Option.some.injEq] at hc
      exact ⟨_, by rw [← hc]; rfl, hρ _ _ h⟩
    · rename_i hc
      have hc := hρ _ _ hc
      simp only [rn, Option.some.injEq] at hc
      exact ⟨_, by rw [← hc]; rfl, hρ _ _ h⟩
    · cases h
  case extract x i =>
    split at h
    · rename_i vs hx
      have hx := hρ _ _ hx
      simp only [rn, Option.map_eq_some_iff] at hx
      obtain ⟨l, hl, hx⟩ := hx
      obtain ⟨rv, h1, h2⟩ := rns_get hl h
      exact ⟨rv, by rw [← hx]; simp [Instr.extract, h1], h2⟩
    · cases h
  case field t x f =>
    split at h
    · rename_i fs cs hu hx
      split at h
      · rename_i fd hf
        have hx := hρ _ _ hx
        simp only [rn, Option.map_eq_some_iff] at hx
        obtain ⟨l, hl, hx⟩ := hx
        obtain ⟨rv, h1, h2⟩ := partL_sound h hl w
        refine ⟨rv, ?_, h2⟩
        simp only [Instr.field, Sem.run_bind, run_und hu, Result.andThen_ok, hf, ← hx, asAgg, Sem.run_pure, h1]
      · cases h
    · cases h
  case makeFunc fn a b =>
    split at h
    · rename_i va vb ha hb
      cases h
      have ha := evs_sound hρ _ _ ha
      have hb := evs_sound hρ _ _ hb
      refine ⟨_, rfl, ?_⟩
      simp only [rn, ha, hb, Option.some.injEq, Value.func.injEq, true_and]
      exact ⟨Array.ext' (by simp), Array.ext' (by simp)⟩
    · cases h
  case nilCheck x =>
    split at h
    · rename_i a hx
      cases h
      have hx := hρ _ _ hx
      obtain ⟨id, off, sp⟩ := a
      cases sp with
      | some _ => simp [rn] at hx
      | none =>
        obtain ⟨s, hs, e⟩ := rn_ptr hx
        exact ⟨_, by rw [e]; rfl, hx.trans (by rw [e])⟩
    · rename_i f a b hx
      cases h
      have hx := hρ _ _ hx
      have hx0 := hx
      simp only [rn] at hx
      split at hx
      · simp only [Option.some.injEq] at hx
        exact ⟨_, by rw [← hx]; rfl, hx0.trans (by rw [← hx])⟩
      · cases hx
    · cases h
  case fieldAddr s x f =>
    split at h
    · rename_i fs id off hu hx
      split at h
      · rename_i fd hf
        split at h
        · cases h
        · rename_i n hn0 hn
          cases h
          obtain ⟨s, hs, e⟩ := rn_ptr (hρ _ _ hx)
          refine ⟨_, ?_, by simp only [rn, hs, Option.map_some]; rfl⟩
          have hn0' : n ≠ 0 := fun e => hn0 (by rw [e])
          simp [Instr.fieldAt, run_und hu, hf, e, Instr.sureAddr, fieldPlace, run_szT hn, hn0', Addr.add_at, Nat.add_assoc]
        · cases h
      · cases h
    · cases h
  case indexAddr t x i =>
    split at h
    · rename_i e id off len cap k j hu hx hi
      split at h
      · rename_i sz hsz
        split at h
        · rename_i hj
          cases h
          obtain ⟨s, hs, ex⟩ := rn_sl (hρ _ _ hx)
          have hi := hρ _ _ hi
          simp only [rn, Option.some.injEq] at hi
          refine ⟨_, ?_, by simp only [rn, hs, Option.map_some]; rfl⟩
          simp [Instr.indexAt, ← hi, asIntOf, run_und hu, ex, run_szT hsz, hj, Addr.add_at, Nat.add_assoc]
        · cases h
      · cases h
    · rename_i len e id off k j hu hx hi
      split at h
      · rename_i sz hsz
        split at h
        · rename_i hj
          cases h
          obtain ⟨s, hs, ex⟩ := rn_ptr (hρ _ _ hx)
          have hi := hρ _ _ hi
          simp only [rn, Option.some.injEq] at hi
          refine ⟨_, ?_, by simp only [rn, hs, Option.map_some]; rfl⟩
          simp [Instr.indexAt, ← hi, asIntOf, run_und hu, ex, Instr.sureAddr, run_szT hsz, hj, Addr.add_at, Nat.add_assoc]
        · cases h
      · cases h
    · cases h
  case build t ps =>
    split at h
    · rename_i fs z qs hu hz hq
      split at h
      · rename_i pl hpl
        split at h
        · rename_i cs hf
          cases h
          obtain ⟨⟨zv, hz1, hz2⟩, hz3⟩ := zeroL_sound (ι := ι) hz w
          obtain ⟨hq1, hq2⟩ := partsL_sound hρ _ _ hq
          obtain ⟨rcs, h1, h2⟩ := fillL_sound (place' := fun i => pl.toArray[i]?) (by intro i x hi; simpa using hi) _ _ _ _ _ hf hz3 hq1 hq2
          refine ⟨.agg rcs.toArray, ?_, by simp [rn, h2]⟩
          have hm : (fs.mapM (fun f => do pure (f.offset, ← sizeOf f.type) : Field → Sem (Nat × Nat))).run P w = .ok pl.toArray w := by
            rw [Array.mapM_eq_mapM_toList]
            show Sem.run P (List.mapM (fun f => do pure (f.offset, ← sizeOf f.type) : Field → Sem (Nat × Nat)) fs.toList >>= fun l => pure l.toArray) w = _
            rw [Sem.run_bind, placesL_sound _ _ hpl w]
            rfl
          have hz4 : zv.cells = z.toArray := Array.ext' (by simpa using hz2)
          rw [Sem.run_bind, Instr.build, Sem.run_bind, hz1, Result.andThen_ok, Sem.run_bind, run_und hu, Result.andThen_ok]
          simp only
          rw [Sem.run_bind, hm, Result.andThen_ok, hz4, Array.toList_map, h1]
          rfl
        · cases h
      · cases h
    · rename_i n0 e z qs hu hz hq
      split at h
      · rename_i n hn
        split at h
        · rename_i cs hf
          cases h
          obtain ⟨⟨zv, hz1, hz2⟩, hz3⟩ := zeroL_sound (ι := ι) hz w
          obtain ⟨hq1, hq2⟩ := partsL_sound hρ _ _ hq
          obtain ⟨rcs, h1, h2⟩ := fillL_sound (place' := fun i => some (i * n, n)) (by intro i x hi; exact hi) _ _ _ _ _ hf hz3 hq1 hq2
          refine ⟨.agg rcs.toArray, ?_, by simp [rn, h2]⟩
          have hz4 : zv.cells = z.toArray := Array.ext' (by simpa using hz2)
          rw [Sem.run_bind, Instr.build, Sem.run_bind, hz1, Result.andThen_ok, Sem.run_bind, run_und hu, Result.andThen_ok]
          simp only
          rw [Sem.run_bind, run_szT hn, Result.andThen_ok, hz4, Array.toList_map, h1]
          rfl
        · cases h
      · cases h
    · cases h
  case binOp op t x y u =>
    obtain ⟨rv, h1, h2⟩ := binL_sound hρ h w
    refine ⟨rv, ?_, h2⟩
    rw [Sem.run_bind, h1]
    rfl
  case unOp op t x =>
    cases op <;> simp only [reduceCtorEq] at h
    · split at h
      · rename_i k n hx
        cases h
        have hx := hρ _ _ hx
        simp only [rn, Option.some.injEq] at hx
        exact ⟨.int k (k.wrap (0 - n)), by rw [← hx]; simp [Op.unary, Op.intArith], by simp [rn]⟩
      · cases h
    · split at h
      · rename_i b hx
        cases h
        have hx := hρ _ _ hx
        simp only [rn, Option.some.injEq] at hx
        exact ⟨.bool !b, by rw [← hx]; simp [Op.unary], by simp [rn]⟩
      · cases h
  case convert s d x =>
    split at h
    · rename_i d0 k k' n hs hd hx
      cases h
      have hx := hρ _ _ hx
      simp only [rn, Option.some.injEq] at hx
      exact ⟨.int k (k.wrap n), by rw [← hx]; simp [convert, run_und hs, run_und hd, Conv.intToInt], by simp [rn]⟩
    · rename_i b hs hd hx
      cases h
      have hx := hρ _ _ hx
      simp only [rn, Option.some.injEq] at hx
      exact ⟨.string b, by rw [← hx]; simp [convert, run_und hs, run_und hd], by simp [rn]⟩
    · cases h
  case index t x i =>
    split at h
    · rename_i s k j hu hx hi
      split at h
      · rename_i hj
        split at h
        · rename_i b hb
          cases h
          have hx := hρ _ _ hx
          have hi := hρ _ _ hi
          simp only [rn, Option.some.injEq] at hx hi
          refine ⟨.int .u8 b.toNat, ?_, by simp [rn]⟩
          have hb' : s[j.toNat]? = some b := by
            rw [Array.getElem?_toList] at hb
            obtain ⟨hlt, e⟩ := Array.getElem?_eq_some_iff.1 hb
            exact (getElem?_pos s j.toNat hlt).trans (congrArg some e)
          simp [Instr.index, ← hi, ← hx, asIntOf, run_und hu, hj, hb']
        · cases h
      · cases h
    · rename_i len e cs k j hu hx hi
      split at h
      · rename_i sz hsz
        split at h
        · rename_i hj
          have hx := hρ _ _ hx
          have hi := hρ _ _ hi
          simp only [rn, Option.some.injEq, Option.map_eq_some_iff] at hx hi
          obtain ⟨l, hl, hx⟩ := hx
          obtain ⟨rv, h1, h2⟩ := partL_sound h hl w
          refine ⟨rv, ?_, h2⟩
          simp [Instr.index, ← hi, ← hx, asIntOf, run_und hu, hj, run_szT hsz, h1]
        · cases h
      · cases h
    · cases h
  case call c =>
    obtain ⟨callee, args, argTypes⟩ := c
    obtain ⟨args⟩ := args
    simp only at h
    split at h
    · rename_i x t ht
      split at h
      · rename_i e a n cp hu hx
        cases h
        have hx := hρ _ _ hx
        refine ⟨.int .i64 n, ?_, by simp [rn]⟩
        have hx' : ∃ a' cp', ρ x = .slice a' n cp' := by
          cases a with
          | none => simp only [rn, Option.some.injEq] at hx; exact ⟨_, _, hx.symm⟩
          | some a =>
            obtain ⟨id, off, sp⟩ := a
            cases sp with
            | some _ => simp [rn] at hx
            | none => obtain ⟨s, _, e⟩ := rn_sl hx; exact ⟨_, _, e⟩
        obtain ⟨a', cp', hx'⟩ := hx'
        simp [resolve, invoke, builtin, Builtin.len_, ht, run_und hu, hx', goInt]
      · rename_i s hu hx
        cases h
        have hx := hρ _ _ hx
        simp only [rn, Option.some.injEq] at hx
        refine ⟨.int .i64 s.size, ?_, by simp [rn]⟩
        simp [resolve, invoke, builtin, Builtin.len_, ht, run_und hu, ← hx, goInt]
      · cases h
    · rename_i x y
      split at h
      · rename_i k a k' b hx hy
        cases h
        have hx := hρ _ _ hx
        have hy := hρ _ _ hy
        simp only [rn, Option.some.injEq] at hx hy
        refine ⟨.int k (if b > a then b else a), ?_, by simp [rn]⟩
        simp [resolve, invoke, builtin, Builtin.max_, Builtin.max2, ← hx, ← hy]
      · cases h
    · rename_i x y
      split at h
      · rename_i k a k' b hx hy
        cases h
        have hx := hρ _ _ hx
        have hy := hρ _ _ hy
        simp only [rn, Option.some.injEq] at hx hy
        refine ⟨.int k (if b < a then b else a), ?_, by simp [rn]⟩
        simp [resolve, invoke, builtin, Builtin.min_, Builtin.min2, ← hx, ← hy]
      · cases h
    · cases h
end
end Go.Ev
