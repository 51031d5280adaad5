/- A region of operations that draws its order is carried out in the order of the text: for every program, wherever of two operations that no edge orders one stays as it is. -/
import Derived.Orders
import Derived.Tactics
import Derived.StillTail
namespace Go.Sx


/-- In every world the same answer and the world as it was; or an answer in no world. -/
def Ob (P : Program) {α : Type} (s : Sem α) : Prop := (∃ a, ∀ w, s.run P w = .ok a w) ∨ (∀ w a w', s.run P w ≠ .ok a w')

variable {P : Program}

theorem Ob.pure {α : Type} (a : α) : Ob P (Pure.pure a : Sem α) := .inl ⟨a, fun _ => rfl⟩
theorem Ob.halt {α : Type} (h : Halt) : Ob P (Sem.halt h : Sem α) := .inr fun _ _ _ e => by simp [Sem.run] at e
theorem Ob.bind {α β : Type} {s : Sem α} {f : α → Sem β} (h : Ob P s) (hf : ∀ a, Ob P (f a)) : Ob P (s >>= f) := by
  rcases h with ⟨a, ha⟩ | h
  · rcases hf a with ⟨b, hb⟩ | hb
    · exact .inl ⟨b, fun w => by rw [Sem.run_bind, ha]; exact hb w⟩
    · exact .inr fun w b w' e => by rw [Sem.run_bind, ha] at e; exact hb _ _ _ e
  · refine .inr fun w b w' e => ?_
    rw [Sem.run_bind] at e
    cases hs : s.run P w with
    | ok a w1 => exact h _ _ _ hs
    | halt x w1 => rw [hs] at e; cases e
theorem Ob.program {β : Type} {f : Program → Sem β} (h : Ob P (f P)) : Ob P (Go.program >>= f) := h
theorem Ob.stuck {α : Type} (m : String) : Ob P (Go.stuck m : Sem α) := Ob.halt _
theorem Ob.unsupported {α : Type} (u : Unsupported) : Ob P (Go.unsupported u : Sem α) := Ob.halt _
theorem Ob.ite {α : Type} {c : Prop} [Decidable c] {x y : Sem α} (hx : Ob P x) (hy : Ob P y) : Ob P (if c then x else y) := by split <;> assumption

theorem never_bind {α β : Type} {s : Sem α} {f : α → Sem β} (hf : ∀ a w b w', (f a).run P w ≠ .ok b w') : ∀ w a w', (s >>= f).run P w ≠ .ok a w' := by
  intro w a w' e
  rw [Sem.run_bind] at e
  cases hs : s.run P w with
  | ok b w1 => rw [hs] at e; exact hf _ _ _ _ e
  | halt x w1 => rw [hs] at e; cases e
theorem never_panic {α : Type} (v : Value) : ∀ w a w', (goPanic v : Sem α).run P w ≠ .ok a w' := fun w a w' h => by simp at h

theorem never_rt {α : Type} (e : RuntimeError) : ∀ w a w', (runtimePanic e : Sem α).run P w ≠ .ok a w' := by
  unfold runtimePanic
  refine never_bind fun p => ?_
  cases e
  all_goals (repeat' (first | exact never_panic _ | exact never_bind fun _ => never_panic _ | exact never_bind fun _ => never_bind fun _ => never_panic _))
theorem Ob.rt {α : Type} (e : RuntimeError) : Ob P (runtimePanic e : Sem α) := .inr (never_rt e)
theorem Ob.bounds {α : Type} (k : IntKind) (x y : Int) (c : BoundsCode) : Ob P (boundsPanic k x y c : Sem α) := by
  refine .inr ?_
  unfold boundsPanic
  split <;> exact never_bind fun _ => never_rt _

theorem Ob.typeInfo (t : TypeId) : Ob P (Go.typeInfo t) := by
  unfold Go.typeInfo; refine Ob.program ?_; split
  · exact Ob.pure _
  · exact Ob.stuck _
theorem Ob.underlying (t : TypeId) : Ob P (Go.underlying t) := by
  unfold Go.underlying; refine Ob.program ?_; split
  · exact Ob.pure _
  · exact Ob.stuck _
theorem Ob.sizeOf (t : TypeId) : Ob P (Go.sizeOf t) := Ob.bind (Ob.typeInfo t) fun _ => Ob.pure _
theorem Ob.zeroValue (t : TypeId) : Ob P (Go.zeroValue t) := by
  unfold Go.zeroValue; refine Ob.bind (Ob.typeInfo t) fun i => ?_; split
  · exact Ob.pure _
  · exact Ob.unsupported _
theorem Ob.isAgg (t : TypeId) : Ob P (Go.isAgg t) := by
  unfold Go.isAgg; refine Ob.bind (Ob.underlying t) fun i => ?_; split <;> exact Ob.pure _
theorem Ob.part (t : TypeId) (cs : Array Value) (o : Nat) : Ob P (Go.part t cs o) := by
  unfold Go.part; refine Ob.bind (Ob.isAgg t) fun i => ?_; split
  · exact Ob.bind (Ob.sizeOf t) fun _ => Ob.pure _
  · split
    · exact Ob.pure _
    · exact Ob.stuck _
theorem Ob.asIntOf (v : Value) : Ob P (Go.asIntOf v) := by
  unfold Go.asIntOf; split <;> first | exact Ob.pure _ | exact Ob.unsupported _ | exact Ob.stuck _
theorem Ob.asBool (v : Value) : Ob P (Go.asBool v) := by
  unfold Go.asBool; split <;> first | exact Ob.pure _ | exact Ob.stuck _
theorem Ob.asAgg (v : Value) : Ob P (Go.asAgg v) := by
  unfold Go.asAgg; split <;> first | exact Ob.pure _ | exact Ob.stuck _
theorem Ob.sureAddr (v : Value) : Ob P (Instr.sureAddr v) := by
  unfold Instr.sureAddr; split <;> first | exact Ob.pure _ | exact Ob.stuck _
theorem Ob.asAddr (v : Value) : Ob P (Go.asAddr v) := by
  unfold Go.asAddr; split <;> first | exact Ob.pure _ | exact Ob.stuck _ | exact Ob.rt _

theorem Ob.sliceBound (x : Value) (y : Nat) (c : BoundsCode) : Ob P (Instr.sliceBound x y c) := by
  unfold Instr.sliceBound; refine Ob.bind (Ob.asIntOf x) fun p => ?_
  exact Ob.ite (Ob.pure _) (Ob.bounds _ _ _ _)
theorem Ob.sliceBounds (b : Bool) (l c : Nat) (lo hi mx : Option Value) : Ob P (Instr.sliceBounds b l c lo hi mx) := by
  unfold Instr.sliceBounds
  cases lo <;> cases hi <;> cases mx <;> dsimp only <;>
    (repeat' (first | exact Ob.pure _ | exact Ob.stuck _ | exact Ob.sliceBound _ _ _ | refine Ob.bind ?_ (fun _ => ?_)))
theorem Ob.slice (t : TypeId) (x : Value) (lo hi mx : Option Value) : Ob P (Instr.slice t x lo hi mx) := by
  unfold Instr.slice
  refine Ob.bind (Ob.underlying t) fun d => ?_
  split
  · split
    · exact Ob.bind (Ob.stuck _) fun _ => Ob.bind (Ob.sliceBounds _ _ _ _ _ _) fun _ => Ob.pure _
    · exact Ob.bind (Ob.sliceBounds _ _ _ _ _ _) fun _ => Ob.pure _
  · exact Ob.bind (Ob.sliceBounds _ _ _ _ _ _) fun _ => Ob.bind (Ob.sizeOf _) fun _ => Ob.pure _
  · refine Ob.bind (Ob.asAddr _) fun _ => Ob.bind (Ob.underlying _) fun d => ?_
    split
    · exact Ob.bind (Ob.sliceBounds _ _ _ _ _ _) fun _ => Ob.bind (Ob.sizeOf _) fun _ => Ob.pure _
    · exact Ob.stuck _
  · exact Ob.stuck _
theorem Ob.sliceAt (t : TypeId) (x : Value) (lo hi mx : Option Value) : Ob P (Instr.sliceAt t x lo hi mx) := by
  unfold Instr.sliceAt
  refine Ob.bind (Ob.underlying t) fun d => ?_
  split
  · exact Ob.bind (Ob.sureAddr _) fun _ => Ob.bind (Ob.sliceBounds _ _ _ _ _ _) fun _ => Ob.bind (Ob.sizeOf _) fun _ => Ob.pure _
  · exact Ob.slice _ _ _ _ _
theorem Ob.field (t : TypeId) (x : Value) (f : Nat) : Ob P (Instr.field t x f) := by
  unfold Instr.field
  refine Ob.bind (Ob.underlying t) fun d => ?_
  split
  · split
    · exact Ob.bind (Ob.asAgg _) fun _ => Ob.part _ _ _
    · exact Ob.stuck _
  · exact Ob.stuck _
theorem Ob.extract (x : Value) (i : Nat) : Ob P (Instr.extract x i) := by
  unfold Instr.extract
  split
  · split <;> first | exact Ob.pure _ | exact Ob.stuck _
  · exact Ob.stuck _
theorem Ob.indexAt (t : TypeId) (x i : Value) : Ob P (Instr.indexAt t x i) := by
  unfold Instr.indexAt
  refine Ob.bind (Ob.asIntOf i) fun p => Ob.bind (Ob.underlying t) fun d => ?_
  have key : ∀ q : Option Addr × Nat × TypeId, Ob P (do
      let tiny := decide (q.2.1 ≤ 1) && (match ← Go.underlying t with | .array .. => true | _ => false)
      match q.1 with
      | some a =>
        if 0 ≤ p.2 ∧ p.2 < q.2.1 then Pure.pure (Value.pointer (some (a.add (p.2.toNat * (← Go.sizeOf q.2.2)))))
        else if tiny then Go.unsupported (.noEntry "op/indexAddr.an index out of range at an array of length 0 or 1 (ledger 616)")
        else boundsPanic p.1 p.2 q.2.1 .index
      | none => boundsPanic p.1 p.2 0 .index) := by
    rintro ⟨base, len, elem⟩
    refine Ob.bind (Ob.underlying t) fun d' => ?_
    dsimp only
    cases base with
    | some a => exact Ob.ite (Ob.bind (Ob.sizeOf _) fun _ => Ob.pure _) (Ob.ite (Ob.unsupported _) (Ob.bounds _ _ _ _))
    | none => exact Ob.bounds _ _ _ _
  dsimp only
  split
  · exact Ob.bind (Ob.sureAddr _) fun _ => Ob.bind (Ob.pure _) fun q => key q
  · exact Ob.bind (Ob.pure _) fun q => key q
  · exact Ob.bind (Ob.stuck _) fun q => key q
theorem Ob.index (t : TypeId) (x i : Value) : Ob P (Instr.index t x i) := by
  unfold Instr.index
  refine Ob.bind (Ob.asIntOf i) fun p => Ob.bind (Ob.underlying t) fun d => ?_
  split
  · exact Ob.ite (Ob.bind (Ob.sizeOf _) fun _ => Ob.part _ _ _) (Ob.bounds _ _ _ _)
  · split <;> first | exact Ob.pure _ | exact Ob.bounds _ _ _ _
  · exact Ob.stuck _
theorem Ob.mapM {α β : Type} {f : α → Sem β} (hf : ∀ a, Ob P (f a)) (l : List α) : Ob P (l.mapM f) := by
  induction l with
  | nil => simp only [List.mapM_nil]; exact Ob.pure _
  | cons x l ih => simp only [List.mapM_cons]; exact Ob.bind (hf x) fun _ => Ob.bind ih fun _ => Ob.pure _
theorem Ob.amapM {α β : Type} {f : α → Sem β} (hf : ∀ a, Ob P (f a)) (l : Array α) : Ob P (l.mapM f) := by
  rw [Array.mapM_eq_mapM_toList]
  exact Ob.bind (f := fun l => Pure.pure l.toArray) (Ob.mapM hf _) fun _ => Ob.pure _
theorem Ob.build (t : TypeId) (ps : Array (Nat × Value)) : Ob P (Instr.build t ps) := by
  unfold Instr.build
  refine Ob.bind (Ob.zeroValue t) fun z => Ob.bind (Ob.underlying t) fun d => ?_
  split
  · refine Ob.bind (Ob.amapM (fun _ => Ob.bind (Ob.sizeOf _) fun _ => Ob.pure _) _) fun _ => ?_
    split <;> first | exact Ob.pure _ | exact Ob.stuck _
  · refine Ob.bind (Ob.sizeOf _) fun _ => ?_
    split <;> first | exact Ob.pure _ | exact Ob.stuck _
  · exact Ob.stuck _
theorem Ob.nilAhead : ∀ (n : Nat) (t : TypeId) (v : Value) (m : String), Ob P (Go.nilAhead n t v m) := by
  have fb : ∀ (l : List FieldStep) (t : TypeId) (x : Option Value), Ob P (followBlind l t x) := by
    intro l
    induction l with
    | nil => intro t x; unfold followBlind; exact Ob.pure _
    | cons s l ih =>
      intro t x
      unfold followBlind
      refine Ob.bind (Ob.underlying _) fun d => ?_
      split
      · split
        · split
          · exact Ob.pure _
          · exact ih _ _
          · exact Ob.stuck _
          · exact Ob.pure _
          · exact Ob.bind (Ob.part _ _ _) fun _ => ih _ _
          · exact Ob.stuck _
          · exact ih _ _
        · exact Ob.stuck _
      · exact Ob.stuck _
  intro n
  induction n with
  | zero => intro t v m; unfold Go.nilAhead; exact Ob.pure _
  | succ n ih =>
    intro t v m
    unfold Go.nilAhead
    refine Ob.bind (Ob.typeInfo t) fun i => ?_
    split
    · refine Ob.bind (fb _ _ _) fun r => ?_
      split
      · exact Ob.pure _
      · split
        · exact ih _ _ _
        · exact Ob.pure _
        · exact Ob.stuck _
        · exact Ob.pure _
        · exact Ob.pure _
        · refine Ob.bind (Ob.underlying _) fun d => ?_
          split <;> exact Ob.pure _
    · exact Ob.stuck _

/-- What kind of operation: 'pure': the same in every world; 'cond': so if its operands are calm; 'read': it leaves the world as it is; 'eff': whatever. -/
inductive Kd where
  | pure | cond | read | eff
  deriving DecidableEq

mutual
/-- No pointer (but nil), no interface value, no function within. -/
def calmV : Value → Bool
  | .pointer _ => false
  | .iface _ _ => false
  | .nilIface => false
  | .func _ _ _ => false
  | .nilFunc => false
  | .slice _ _ _ => false
  | .map _ => false
  | .chan _ => false
  | .float _ _ => false
  | .complex _ _ _ => false
  | .agg cs => calmA cs.toList
  | .tuple cs => calmA cs.toList
  | _ => true
def calmA : List Value → Bool
  | [] => true
  | v :: l => calmV v && calmA l
end

def isIntT (P : Program) (t : TypeId) : Bool := match P.underlying t with | some (.int _) => true | _ => false

def nilC : Operand → Bool
  | .const (.pointer none) | .const (.slice none _ _) | .const (.map none) | .const .nilFunc | .const .nilIface => true
  | _ => false

/-- 'len' and 'cap' of a slice, 'len' of a string. -/
def lenKind (P : Program) (c : Call) : Bool :=
  match c.callee with
  | .builtin b => match c.argTypes[0]? with
    | some t => match P.underlying t with
      | some (.slice _) => match b with | .len | .cap => true | _ => false
      | some .string => match b with | .len => true | _ => false
      | _ => false
    | none => false
  | _ => false

/-- A field that takes room. -/
def roomField (P : Program) (s : TypeId) (f : Nat) : Bool :=
  match P.underlying s with
  | some (.struct fs) => match fs[f]? with
    | some fd => match P.info? fd.type with
      | some i => i.size != 0
      | none => false
    | none => false
  | _ => false

def kindOf (P : Program) (o : Oper) : Kd :=
  match o.op with
  | .move _ | .assign _ | .pick .. | .nilCheck _ | .makeFunc .. | .field .. | .extract .. | .unOp .. | .build .. | .slice .. | .indexAddr .. | .index .. => .pure
  | .fieldAddr s _ f => if roomField P s f then .pure else .eff
  | .convert s d _ => if isIntT P s && isIntT P d then .cond else .eff
  | .binOp .. => .cond
  | .call c => if lenKind P c then .pure else .eff
  | .load .. => .read
  | _ => .eff

/-- The operands of a test or a sum are calm, or the second one is the word nil. -/
def calmOp (ρ : Operand → Value) (o : Oper) : Bool :=
  match o.op with
  | .binOp op _ x y _ => (calmV (ρ x) && calmV (ρ y)) || (nilC y && (match op with | .eql | .neq => true | _ => false))
  | .convert _ _ x => calmV (ρ x)
  | _ => true

/-- An operation's answer, if it has one, is a value: not a call. -/
def Flat (P : Program) (s : Sem Next) : Prop := (∃ v, ∀ w, s.run P w = .ok (.value v) w) ∨ (∀ w a w', s.run P w ≠ .ok a w')

theorem Flat.of {s : Sem Value} (h : Ob P s) : Flat P (do pure (Next.value (← s)) : Sem Next) := by
  rcases h with ⟨a, ha⟩ | h
  · exact .inl ⟨a, fun w => by rw [Sem.run_bind, ha]; rfl⟩
  · refine .inr fun w b w' e => ?_
    rw [Sem.run_bind] at e
    cases hs : s.run P w with
    | ok a w1 => exact h _ _ _ hs
    | halt x w1 => rw [hs] at e; cases e
theorem Flat.halt (h : Halt) : Flat P (Sem.halt h) := .inr fun _ _ _ e => by simp [Sem.run] at e
theorem Flat.pure (v : Value) : Flat P (Pure.pure (Next.value v)) := .inl ⟨v, fun _ => rfl⟩
theorem Flat.rt (e : RuntimeError) : Flat P (runtimePanic e) := .inr (never_rt e)

theorem Ob.intArith (op : BinOp) (k : IntKind) (x y : Int) : Ob P (Op.intArith op k x y) := by
  unfold Op.intArith; split <;> first | exact Ob.pure _ | exact Ob.stuck _
theorem Ob.intBits (op : BinOp) (k : IntKind) (x y : Int) : Ob P (Op.intBits op k x y) := by
  unfold Op.intBits; dsimp only; split <;> first | exact Ob.pure _ | exact Ob.stuck _
theorem Ob.intDiv (op : BinOp) (k : IntKind) (x y : Int) : Ob P (Op.intDiv op k x y) := by
  unfold Op.intDiv; refine Ob.ite (Ob.rt _) ?_; split <;> first | exact Ob.pure _ | exact Ob.stuck _
theorem Ob.intCmp (op : BinOp) (x y : Int) : Ob P (Op.intCmp op x y) := by
  unfold Op.intCmp; split <;> first | exact Ob.pure _ | exact Ob.stuck _
theorem Ob.shift (op : BinOp) (k : IntKind) (x : Int) (k' : IntKind) (y : Int) : Ob P (Op.shift op k x k' y) := by
  unfold Op.shift; refine Ob.ite (Ob.rt _) ?_; dsimp only; split <;> first | exact Ob.pure _ | exact Ob.stuck _
theorem Ob.stringOp (op : BinOp) (x y : ByteArray) : Ob P (Op.stringOp op x y) := by
  unfold Op.stringOp; dsimp only; split
  · exact Ob.ite (Ob.unsupported _) (Ob.pure _)
  all_goals first | exact Ob.pure _ | exact Ob.stuck _
theorem Ob.unary (op : UnOp) (x : Value) : Ob P (Op.unary op x) := by
  unfold Op.unary; split <;> first | exact Ob.pure _ | exact Ob.stuck _ | exact Ob.unsupported _ | exact Ob.intArith _ _ _ _ | exact Ob.intBits _ _ _ _


theorem calmA_get {l : List Value} (h : calmA l = true) : ∀ v ∈ l, calmV v = true := by
  induction l with
  | nil => intro v hv; cases hv
  | cons x l ih =>
    simp only [calmA, Bool.and_eq_true] at h
    intro v hv
    cases hv with
    | head => exact h.1
    | tail _ hm => exact ih h.2 v hm
theorem calmA_of {l : List Value} (h : ∀ v ∈ l, calmV v = true) : calmA l = true := by
  induction l with
  | nil => rfl
  | cons x l ih =>
    simp only [calmA, Bool.and_eq_true]
    exact ⟨h x (by simp), ih fun v hv => h v (by simp [hv])⟩

theorem Ob.bind1 {α β : Type} {s : Sem α} {f : α → Sem β} (h : Ob P s) (hf : ∀ a, (∃ w w', s.run P w = .ok a w') → Ob P (f a)) : Ob P (s >>= f) := by
  rcases h with ⟨a, ha⟩ | h
  · rcases hf a ⟨default, default, ha _⟩ with ⟨b, hb⟩ | hb
    · exact .inl ⟨b, fun w => by rw [Sem.run_bind, ha]; exact hb w⟩
    · exact .inr fun w b w' e => by rw [Sem.run_bind, ha] at e; exact hb _ _ _ e
  · refine .inr fun w b w' e => ?_
    rw [Sem.run_bind] at e
    cases hs : s.run P w with
    | ok a w1 => exact h _ _ _ hs
    | halt x w1 => rw [hs] at e; cases e

theorem part_calm {t : TypeId} {cs : Array Value} {o : Nat} (hc : calmA cs.toList = true) {v : Value} (h : ∃ w w', (Go.part t cs o).run P w = .ok v w') : calmV v = true := by
  obtain ⟨w, w', h⟩ := h
  unfold Go.part at h
  rw [Sem.run_bind] at h
  cases hs : (Go.isAgg t).run P w with
  | halt x w1 => rw [hs] at h; cases h
  | ok b w1 =>
    rw [hs] at h
    simp only [Result.andThen_ok] at h
    split at h
    · rw [Sem.run_bind] at h
      cases hs2 : (Go.sizeOf t).run P w1 with
      | halt x w1 => rw [hs2] at h; cases h
      | ok n w2 =>
        rw [hs2] at h
        simp only [Result.andThen_ok, Sem.run_pure, Result.ok.injEq] at h
        obtain ⟨rfl, _⟩ := h
        simp only [calmV]
        refine calmA_of fun v hv => calmA_get hc v ?_
        rw [Array.mem_toList_iff] at hv ⊢
        obtain ⟨i, hi, rfl⟩ := Array.mem_iff_getElem.1 hv
        simp
    · split at h
      · rename_i u hu
        simp only [Sem.run_pure, Result.ok.injEq] at h
        obtain ⟨rfl, _⟩ := h
        exact calmA_get hc _ (by rw [Array.mem_toList_iff]; exact Array.mem_of_getElem? hu)
      · simp at h

theorem Ob.forIn {α β : Type} {f : α → β → Sem (ForInStep β)} (hf : ∀ a b, Ob P (f a b)) : ∀ (l : List α) (b : β), Ob P (forIn l b f) := by
  intro l
  induction l with
  | nil => intro b; simp only [List.forIn_nil]; exact Ob.pure _
  | cons x l ih =>
    intro b
    simp only [List.forIn_cons]
    refine Ob.bind (hf x b) fun r => ?_
    cases r with
    | done b => exact Ob.pure _
    | yield b => exact ih b

theorem Ob.equalIn : ∀ (d : Nat) (t : TypeId) (x y : Value), calmV x = true → calmV y = true → Ob P (Op.equalIn d t x y) := by
  intro d
  induction d with
  | zero => intro t x y _ _; unfold Op.equalIn; exact Ob.unsupported _
  | succ d ih =>
    intro t x y hx hy
    unfold Op.equalIn
    refine Ob.bind (Ob.underlying t) fun k => ?_
    split
    all_goals first
      | exact Ob.pure _
      | exact Ob.stuck _
      | exact Ob.unsupported _
      | (simp [calmV] at hx; done)
      | (simp [calmV] at hy; done)
      | exact Ob.ite (Ob.pure _) (Ob.stuck _)
      | skip
    · rename_i fields xs ys
      simp only [calmV] at hx hy
      refine Ob.program ?_
      refine Ob.ite (Ob.bind (Ob.unsupported _) fun _ => ?_) ?_
      all_goals
        simp only [← Array.forIn_toList]
        refine Ob.bind (Ob.forIn (fun f r => ?_) _ _) fun r => ?_
        · refine Ob.ite ?_ (Ob.pure _)
          refine Ob.bind1 (Ob.part _ _ _) fun a ha => Ob.bind1 (Ob.part _ _ _) fun b hb => ?_
          refine Ob.bind (ih _ _ _ (part_calm hx ha) (part_calm hy hb)) fun c => ?_
          exact Ob.ite (Ob.pure _) (Ob.pure _)
        · split <;> exact Ob.pure _
    · rename_i len elem xs ys
      simp only [calmV] at hx hy
      refine Ob.bind (Ob.sizeOf _) fun n => ?_
      simp only [Std.Legacy.Range.forIn_eq_forIn_range']
      refine Ob.bind (Ob.forIn (fun f r => ?_) _ _) fun r => ?_
      · refine Ob.bind1 (Ob.part _ _ _) fun a ha => Ob.bind1 (Ob.part _ _ _) fun b hb => ?_
        refine Ob.bind (ih _ _ _ (part_calm hx ha) (part_calm hy hb)) fun c => ?_
        exact Ob.ite (Ob.pure _) (Ob.pure _)
      · split <;> exact Ob.pure _

theorem Ob.eqGuardIn : ∀ (d : Nat) (t : TypeId) (x y : Value), Ob P (Op.eqGuardIn d t x y) := by
  intro d
  induction d with
  | zero => intro t x y; unfold Op.eqGuardIn; exact Ob.unsupported _
  | succ d ih =>
    intro t x y
    unfold Op.eqGuardIn
    refine Ob.bind (Ob.underlying t) fun k => ?_
    split
    · exact Ob.pure _
    · rename_i fields xs ys
      simp only [← Array.forIn_toList]
      refine Ob.bind (Ob.forIn (fun f r => ?_) _ _) fun r => ?_
      · refine Ob.ite ?_ (Ob.pure _)
        refine Ob.bind (Ob.part _ _ _) fun a => Ob.bind (Ob.part _ _ _) fun b => ?_
        refine Ob.bind (ih _ _ _) fun c => ?_
        exact Ob.ite (Ob.pure _) (Ob.pure _)
      · split <;> exact Ob.pure _
    · rename_i len elem xs ys
      refine Ob.bind (Ob.sizeOf _) fun n => ?_
      simp only [Std.Legacy.Range.forIn_eq_forIn_range']
      refine Ob.bind (Ob.forIn (fun f r => ?_) _ _) fun r => ?_
      · refine Ob.bind (Ob.part _ _ _) fun a => Ob.bind (Ob.part _ _ _) fun b => ?_
        refine Ob.bind (ih _ _ _) fun c => ?_
        exact Ob.ite (Ob.pure _) (Ob.pure _)
      · split <;> exact Ob.pure _
    · exact Ob.pure _

theorem Ob.eqGuard (op : BinOp) (t : TypeId) (x y : Operand) (a b : Value) : Ob P (Go.eqGuard op t x y a b) := by
  have key : Ob P (match a, b with
      | .nilIface, .nilIface => do
        if (x matches .const _) || (y matches .const _) then Pure.pure () else do
        if ← Op.eqGuardIn Op.maxDepth t a b then Go.unsupported (.noEntry "binop/eql: two nil values of an interface type with methods, neither of them the literal nil") else Pure.pure ()
      | .agg _, .agg _ => do
        if !(← Go.program).eqGuardType (← Go.program).depth t then Pure.pure () else do
        if ← Op.eqGuardIn Op.maxDepth t a b then Go.unsupported (.noEntry "binop/eql: two nil values of an interface type with methods, in a part of a struct or an array") else Pure.pure ()
      | _, _ => (Pure.pure () : Sem Unit)) := by
    split
    · exact Ob.ite (Ob.pure _) (Ob.bind (Ob.eqGuardIn _ _ _ _) fun _ => Ob.ite (Ob.unsupported _) (Ob.pure _))
    · refine Ob.program ?_
      refine Ob.program ?_
      exact Ob.ite (Ob.pure _) (Ob.bind (Ob.eqGuardIn _ _ _ _) fun _ => Ob.ite (Ob.unsupported _) (Ob.pure _))
    · exact Ob.pure _
  unfold Go.eqGuard
  exact Ob.ite (Ob.pure _) key

theorem Ob.binOp (op : BinOp) (t : TypeId) (x y : Value) (hx : calmV x = true) (hy : calmV y = true) : Ob P (Go.binOp op t x y) := by
  unfold Go.binOp
  split
  all_goals first
    | exact Ob.shift _ _ _ _ _
    | exact Ob.stringOp _ _ _
    | exact Ob.bind (Ob.equalIn _ _ _ _ hx hy) fun _ => Ob.pure _
    | exact Ob.unsupported _
    | exact Ob.stuck _
    | (simp [calmV] at hx; done)
    | (simp [calmV] at hy; done)
    | skip
  · refine Ob.ite (Ob.stuck _) ?_
    split <;> first | exact Ob.intArith _ _ _ _ | exact Ob.intDiv _ _ _ _ | exact Ob.intBits _ _ _ _ | exact Ob.intCmp _ _ _

theorem Ob.equalNil (d : Nat) (t : TypeId) (x : Value) (v : Value) (h : nilC (.const v) = true) : Ob P (Op.equalIn d t x v) := by
  cases d with
  | zero => unfold Op.equalIn; exact Ob.unsupported _
  | succ d =>
    unfold Op.equalIn
    refine Ob.bind (Ob.underlying t) fun k => ?_
    split
    all_goals first
      | exact Ob.pure _
      | exact Ob.stuck _
      | exact Ob.unsupported _
      | (simp [nilC] at h; done)
      | exact Ob.ite (Ob.pure _) (Ob.stuck _)
      | skip
    rename_i a b
    cases b with
    | none => unfold Go.samePointer; cases a <;> exact Ob.pure _
    | some b => simp [nilC] at h

theorem Ob.binNil (op : BinOp) (t : TypeId) (x v : Value) (h : nilC (.const v) = true) (ho : (match op with | .eql | .neq => true | _ => false) = true) : Ob P (Go.binOp op t x v) := by
  cases op <;> first | (simp at ho; done) | skip
  all_goals
    unfold Go.binOp
    cases v <;> first | (simp [nilC] at h; done) | skip
  all_goals
    cases x <;> first
      | exact Ob.bind (Ob.equalNil _ _ _ _ h) fun _ => Ob.pure _
      | skip

theorem Ob.fieldAt (s : TypeId) (x : Value) (f : Nat) (h : roomField P s f = true) : Ob P (Instr.fieldAt s x f) := by
  unfold roomField at h
  split at h
  · rename_i fs hu
    split at h
    · rename_i fd hf
      split at h
      · rename_i i hi
        have h1 : ∀ w, (Go.underlying s).run P w = .ok (.struct fs) w := fun w => by simp [Go.underlying, hu]
        have h2 : ∀ w, (Go.sizeOf fd.type).run P w = .ok i.size w := fun w => by simp [Go.sizeOf, Go.typeInfo, hi]
        have h3 : i.size ≠ 0 := by simpa using h
        rcases Ob.sureAddr (P := P) x with ⟨a, ha⟩ | ha
        · refine .inl ⟨.pointer (some (a.add fd.offset)), fun w => ?_⟩
          simp [Instr.fieldAt, h1, hf, ha, Go.fieldPlace, h2, h3]
        · refine .inr fun w b w' e => ?_
          simp only [Instr.fieldAt, Sem.run_bind, h1, Result.andThen_ok, hf] at e
          cases hs : (Instr.sureAddr x).run P w with
          | ok a w1 => exact ha _ _ _ hs
          | halt y w1 => rw [hs] at e; cases e
      · cases h
    · cases h
  · cases h

theorem Ob.convInt (s d : TypeId) (x : Value) (hs : isIntT P s = true) (hd : isIntT P d = true) (hx : calmV x = true) : Ob P (Go.convert s d x) := by
  unfold isIntT at hs hd
  split at hs <;> first | (cases hs; done) | skip
  split at hd <;> first | (cases hd; done) | skip
  rename_i _ k hk _ k' hk'
  have h1 : ∀ w, (Go.underlying s).run P w = .ok (.int k) w := fun w => by simp [Go.underlying, hk]
  have h2 : ∀ w, (Go.underlying d).run P w = .ok (.int k') w := fun w => by simp [Go.underlying, hk']
  cases x <;> first | (simp [calmV] at hx; done) | skip
  case int j n => exact .inl ⟨.int k' (k'.wrap n), fun w => by simp [Go.convert, h1, h2, Conv.intToInt]⟩
  all_goals
    refine .inr fun w a w' e => ?_
    simp [Go.convert, h1, h2] at e

theorem Flat.len (c : Call) (type : TypeId) (ρ : Operand → Value) (h : lenKind P c = true) : Flat P (do let d ← resolve ρ c type; invoke d.target d.args) := by
  unfold lenKind at h
  obtain ⟨callee, args, argTypes⟩ := c
  dsimp only at h
  split at h <;> first | (cases h; done) | skip
  rename_i b
  split at h <;> first | (cases h; done) | skip
  rename_i t ht
  have key : ∀ (x : Option Value), (args.map ρ)[0]? = x → Flat P (do let d ← resolve ρ { callee := .builtin b, args := args, argTypes := argTypes } type; invoke d.target d.args) := by
    intro x hx
    split at h
    · rename_i e hu
      have h1 : ∀ w, (Go.underlying t).run P w = .ok (.slice e) w := fun w => by simp [Go.underlying, hu]
      cases b <;> first | (cases h; done) | skip
      all_goals
        cases x with
        | none => exact .inr fun w a w' e => by simp [resolve, invoke, builtin, Builtin.len_, Builtin.cap_, ht, hx] at e
        | some v =>
          cases v
          case slice a n c => exact .inl ⟨_, fun w => by simp [resolve, invoke, builtin, Builtin.len_, Builtin.cap_, ht, hx, h1]; rfl⟩
          all_goals exact .inr fun w a w' e => by simp [resolve, invoke, builtin, Builtin.len_, Builtin.cap_, ht, hx, h1] at e
    · rename_i hu
      have h1 : ∀ w, (Go.underlying t).run P w = .ok .string w := fun w => by simp [Go.underlying, hu]
      cases b <;> first | (cases h; done) | skip
      cases x with
      | none => exact .inr fun w a w' e => by simp [resolve, invoke, builtin, Builtin.len_, Builtin.cap_, ht, hx] at e
      | some v =>
        cases v
        case string s => exact .inl ⟨goInt s.size, fun w => by simp [resolve, invoke, builtin, Builtin.len_, Builtin.cap_, ht, hx, h1]⟩
        all_goals exact .inr fun w a w' e => by simp [resolve, invoke, builtin, Builtin.len_, Builtin.cap_, ht, hx, h1] at e
    · cases h
  exact key _ rfl

/-- What 'kindOf' says is so. -/
theorem flat_of (o : Oper) (act : Act) (hk : kindOf P o = .pure ∨ kindOf P o = .cond) (hc : calmOp act.eval o = true) : Flat P (execOp act.eval o) := by
  obtain ⟨ρ, hρ⟩ : ∃ ρ, ρ = act.eval := ⟨_, rfl⟩
  rw [← hρ] at hc ⊢
  obtain ⟨dst, op, type, pos, after, guard⟩ := o
  cases op <;> simp only [kindOf, reduceCtorEq, or_self] at hk <;> simp only [execOp]
  case move x => exact Flat.pure _
  case assign x => exact Flat.pure _
  case pick c a b =>
    rcases Ob.asBool (P := P) (ρ c) with ⟨x, hx⟩ | hx
    · exact .inl ⟨if x = true then ρ a else ρ b, fun w => by simp [hx]⟩
    · refine .inr fun w u w' e => ?_
      rw [Sem.run_bind] at e
      cases hs : (asBool (ρ c)).run P w with
      | ok b w1 => exact hx _ _ _ hs
      | halt y w1 => rw [hs] at e; cases e
  case build t ps => exact Flat.of (Ob.build _ _)
  case makeFunc fn f c => exact Flat.of (Ob.pure _)
  case field t x f => exact Flat.of (Ob.field _ _ _)
  case extract x i => exact Flat.of (Ob.extract _ _)
  case unOp p t x => exact Flat.of (Ob.unary _ _)
  case slice t x l h m => exact Flat.of (Ob.sliceAt _ _ _ _ _)
  case indexAddr t x i => exact Flat.of (Ob.indexAt _ _ _)
  case index t x i => exact Flat.of (Ob.index _ _ _)
  case fieldAddr s x f =>
    split at hk
    · rename_i h; exact Flat.of (Ob.fieldAt _ _ _ h)
    · simp at hk
  case convert s d x =>
    split at hk
    · rename_i h; simp only [Bool.and_eq_true] at h; exact Flat.of (Ob.convInt _ _ _ h.1 h.2 hc)
    · simp at hk
  case binOp p t x y u =>
    simp only [calmOp, Bool.or_eq_true, Bool.and_eq_true] at hc
    refine Flat.of (Ob.bind (Ob.eqGuard _ _ _ _ _ _) fun _ => ?_)
    rcases hc with ⟨h1, h2⟩ | ⟨h1, h2⟩
    · exact Ob.binOp _ _ _ _ h1 h2
    · cases y <;> first | (simp [nilC] at h1; done) | skip
      rename_i v
      have hv : ρ (.const v) = v := by rw [hρ]; rfl
      rw [hv]
      exact Ob.binNil _ _ _ _ h1 h2
  case call c =>
    split at hk
    · rename_i h; exact Flat.len c type ρ h
    · simp at hk
  case nilCheck x =>
    split
    · exact Flat.rt _
    · exact Flat.rt _
    · exact Flat.rt _
    · split
      · exact Flat.rt _
      · refine (?_ : Flat P _)
        rename_i nm _ _ _ _ t u _
        rcases Ob.nilAhead (P := P) (P.types.size + Made.depth) t u nm with ⟨x, hx⟩ | hx
        · by_cases hb : x = some false
          · subst hb
            exact .inl ⟨_, fun w => by simp [hx]; rfl⟩
          · exact .inr fun w a w' e => by simp [hx, hb] at e
        · refine .inr fun w a w' e => ?_
          simp only [Sem.run_bind, run_program, Result.andThen_ok] at e
          cases hs : (nilAhead (P.types.size + Made.depth) t u nm).run P w with
          | ok b w1 => exact hx _ _ _ hs
          | halt y w1 => rw [hs] at e; cases e
      · exact Flat.pure _
    · exact Flat.pure _

theorem read_still (o : Oper) (ρ : Operand → Value) (hk : kindOf P o = .read) (w : World) (x : Next) (w' : World) (h : (execOp ρ o).run P w = .ok x w') : w' = w ∧ ∃ v, x = .value v := by
  obtain ⟨dst, op, type, pos, after, guard⟩ := o
  have hop : ∃ t y, op = .load t y := by
    cases op <;> simp only [kindOf, reduceCtorEq] at hk
    case load t y => exact ⟨t, y, rfl⟩
    all_goals (split at hk <;> cases hk)
  obtain ⟨t, y, rfl⟩ := hop
  have hl : ∀ (a : Addr) (w : World) (v : Value) (w' : World), (Go.load a).run P w = .ok v w' → w' = w := by
    intro a w v w' h
    rw [run_load] at h
    split at h
    · cases h; rfl
    · split at h
      · cases h; rfl
      · cases h
  have hc : ∀ (n : Nat) (a : Addr) (i : Nat) (acc : Array Value) (w : World) (v : Array Value) (w' : World), (Go.loadCellsFrom a i n acc).run P w = .ok v w' → w' = w := by
    intro n
    induction n with
    | zero => intro a i acc w v w' h; simp only [loadCellsFrom, Sem.run_pure] at h; cases h; rfl
    | succ n ih =>
      intro a i acc w v w' h
      simp only [loadCellsFrom, Sem.run_bind] at h
      cases hs : (Go.load (a.add i)).run P w with
      | halt y w1 => rw [hs] at h; cases h
      | ok u w1 =>
        rw [hs] at h
        have := hl _ _ _ _ hs
        subst this
        exact ih _ _ _ _ _ _ h
  have ho : ∀ {α : Type} {s : Sem α} (_ : Ob P s) (w : World) (v : α) (w' : World), s.run P w = .ok v w' → w' = w := by
    intro α s hs w v w' h
    rcases hs with ⟨a, ha⟩ | hs
    · rw [ha] at h; cases h; rfl
    · exact absurd h (hs _ _ _)
  simp only [execOp, Instr.loadAt, Go.loadVar, Sem.run_bind] at h
  cases h1 : (Instr.sureAddr (ρ y)).run P w with
  | halt y w1 => rw [h1] at h; cases h
  | ok a w1 =>
    have e1 := ho (Ob.sureAddr _) _ _ _ h1
    subst e1
    rw [h1] at h
    simp only [Result.andThen_ok] at h
    cases h2 : (Go.isAgg t).run P w1 with
    | halt y w2 => rw [h2] at h; cases h
    | ok b w2 =>
      have e2 := ho (Ob.isAgg _) _ _ _ h2
      subst e2
      rw [h2] at h
      simp only [Result.andThen_ok] at h
      cases b with
      | true =>
        simp only [if_true, Sem.run_bind] at h
        cases h3 : (Go.sizeOf t).run P w2 with
        | halt y w3 => rw [h3] at h; cases h
        | ok n w3 =>
          have e3 := ho (Ob.sizeOf _) _ _ _ h3
          subst e3
          rw [h3] at h
          simp only [Result.andThen_ok] at h
          cases h4 : (Go.loadCells a n).run P w3 with
          | halt y w4 => rw [h4] at h; cases h
          | ok vs w4 =>
            have e4 := hc _ _ _ _ _ _ _ h4
            subst e4
            rw [h4] at h
            simp only [Result.andThen_ok, Sem.run_pure] at h
            cases h
            exact ⟨rfl, _, rfl⟩
      | false =>
        simp only [Bool.false_eq_true, if_false] at h
        cases h4 : (Go.load a).run P w2 with
        | halt y w4 => rw [h4] at h; cases h
        | ok vs w4 =>
          have e4 := hl _ _ _ _ h4
          subst e4
          rw [h4] at h
          simp only [Result.andThen_ok, Sem.run_pure] at h
          cases h
          exact ⟨rfl, _, rfl⟩
variable {ops : Array Oper} {S : World → Prop}

/-- What an answer leaves: the value, a deferred call, the world. -/
def oT (P : Program) (J : Option Deferred → Value → World → Prop) : Result Next → Prop
  | .ok (.value v) w' => J none v w'
  | .ok .skip w' => J none undef w'
  | .ok (.defer d) w' => J (some d) undef w'
  | .ok (.enter f args) w' => Calls P f args w' fun e w'' => ∃ v, e = .returned v ∧ J none v w''
  | .ok (.row row args) w' => Rows P row args w' fun v w'' => J none v w''
  | _ => False

theorem oT.mono {J J' : Option Deferred → Value → World → Prop} {r : Result Next} (h : oT P J r) (hj : ∀ d v w, J d v w → J' d v w) : oT P J' r := by
  cases r with
  | halt x w => cases h
  | ok n w =>
    cases n <;> simp only [oT] at h ⊢ <;> first
      | exact hj _ _ _ h
      | exact h.mono fun e w'' ⟨v, he, hv⟩ => ⟨v, he, hj _ _ _ hv⟩
      | exact h.mono fun v w'' hv => hj _ _ _ hv

theorem oT.some {J : Option Deferred → Value → World → Prop} {r : Result Next} (h : oT P J r) : ∃ d v w, J d v w := by
  cases r with
  | halt x w => cases h
  | ok n w =>
    cases n <;> simp only [oT] at h <;> first
      | exact ⟨_, _, _, h⟩
      | (obtain ⟨e, w', fr, ⟨v, _, hv⟩, _⟩ := h []; exact ⟨_, _, _, hv⟩)
      | (obtain ⟨v, w', hv, _⟩ := h default []; exact ⟨_, _, _, hv⟩)

def addD (d : Option Deferred) (a : Act) : Act := match d with
  | none => a
  | some d => { a with defers := d :: a.defers }

def nx (o : Oper) (a : Act) (d : Option Deferred) (v : Value) : Act := (addD d a).put o.dst v

theorem addD_put (d : Option Deferred) (a : Act) (x : Option Tmp) (v : Value) : addD d (a.put x v) = (addD d a).put x v := by
  cases d <;> cases x <;> rfl

theorem addD_eval (d : Option Deferred) (a : Act) : (addD d a).eval = a.eval := by
  cases d with
  | none => rfl
  | some d => funext x; cases x <;> rfl

theorem addD_tmps (d : Option Deferred) (a : Act) : (addD d a).tmps = a.tmps := by cases d <;> rfl

def noQ : Exit → Act → World → Prop := fun _ _ _ => False

theorem wp_of_oT {o : Oper} {a : Act} {w : World} {K : Act → World → Prop} (h : oT P (fun d v w' => K (nx o a d v) w') ((execOp a.eval o).run P w)) (Q : Exit → Act → World → Prop) : o.wp P a w K Q := by
  unfold Oper.wp
  generalize (execOp a.eval o).run P w = r at *
  cases r with
  | halt x w => cases h
  | ok n w =>
    cases n <;> simp only [oT, nx, addD] at h <;> simp only [Oper.upon] <;> first
      | exact h
      | exact h.mono fun e w'' ⟨v, he, hv⟩ => by subst he; exact hv

theorem oT_of_wp {o : Oper} {a : Act} {w : World} {K : Act → World → Prop} (h : o.wp P a w K noQ) : oT P (fun d v w' => K (nx o a d v) w') ((execOp a.eval o).run P w) := by
  unfold Oper.wp at h
  generalize (execOp a.eval o).run P w = r at *
  cases r with
  | halt x w => cases x <;> simp only [Oper.upon, noQ] at h
  | ok n w =>
    cases n <;> simp only [oT, nx, addD] <;> simp only [Oper.upon] at h <;> first
      | exact h
      | (refine h.mono fun e w'' he => ?_
         cases e with
         | returned v => exact ⟨v, rfl, he⟩
         | panicked c => exact he.elim
         | outgrown => obtain ⟨a, w, hq⟩ := he; exact hq.elim)

/-- One operation in the order of the text. 'held': its answer hangs on S alone; 'ns': behind it S must hold. -/
def stepT (P : Program) (ops : Array Oper) (S : World → Prop) (o : Oper) (held ns : Bool) (K : Act → World → Prop) (a : Act) (w : World) : Prop :=
  if Region.wanted o (yielded ops a.tmps) then
    if held then ∃ v, (∀ w', S w' → (execOp a.eval o).run P w' = .ok (.value v) w') ∧ K (a.put o.dst v) w
    else if kindOf P o = .eff then oT P (fun d v w' => (ns = true → S w') ∧ K (nx o a d v) w') ((execOp a.eval o).run P w)
    else calmOp a.eval o = true ∧ oT P (fun d v w' => K (nx o a d v) w') ((execOp a.eval o).run P w)
  else K (a.put o.dst undef) w

/-- The answers of an operation that is no effect leave the world. -/
theorem still_of {o : Oper} {a : Act} {w : World} {J : Option Deferred → Value → World → Prop} (hk : kindOf P o ≠ .eff) (hc : calmOp a.eval o = true) (h : oT P J ((execOp a.eval o).run P w)) :
    oT P (fun d v w' => J d v w' ∧ w' = w) ((execOp a.eval o).run P w) := by
  generalize hr : (execOp a.eval o).run P w = r at *
  cases r with
  | halt x w => cases h
  | ok n w1 =>
    have hw : w1 = w ∧ ∃ v, n = .value v := by
      cases hkd : kindOf P o with
      | eff => exact absurd hkd hk
      | read => exact read_still o _ hkd _ _ _ hr
      | pure =>
        rcases flat_of o a (.inl hkd) hc with ⟨v, hv⟩ | hv
        · rw [hv] at hr; cases hr; exact ⟨rfl, _, rfl⟩
        · exact absurd hr (hv _ _ _)
      | cond =>
        rcases flat_of o a (.inr hkd) hc with ⟨v, hv⟩ | hv
        · rw [hv] at hr; cases hr; exact ⟨rfl, _, rfl⟩
        · exact absurd hr (hv _ _ _)
    obtain ⟨e1, v, e2⟩ := hw
    subst e1; subst e2
    exact ⟨h, rfl⟩

theorem stepT.mono {o : Oper} {h ns : Bool} {K K' : Act → World → Prop} {a : Act} {w : World} (hk : ∀ a w', (w' = w ∨ (ns = true → S w')) → K a w' → K' a w') (hs : stepT P ops S o h ns K a w) : stepT P ops S o h ns K' a w := by
  unfold stepT at *
  split
  · rename_i hw
    rw [if_pos hw] at hs
    split
    · rename_i hh
      rw [if_pos hh] at hs
      obtain ⟨v, h1, h2⟩ := hs
      exact ⟨v, h1, hk _ _ (.inl rfl) h2⟩
    · rename_i hh
      rw [if_neg hh] at hs
      split
      · rename_i he
        rw [if_pos he] at hs
        exact hs.mono fun d v w' ⟨h1, h2⟩ => ⟨h1, hk _ _ (.inr h1) h2⟩
      · rename_i he
        rw [if_neg he] at hs
        exact ⟨hs.1, (still_of he hs.1 hs.2).mono fun d v w' ⟨h1, h2⟩ => hk _ _ (.inl h2) h1⟩
  · rename_i hw
    rw [if_neg hw] at hs
    exact hk _ _ (.inl rfl) hs

/-- In every world (a held one: in every world that meets S) the operation leaves 'v', and the world as it is; or it is not wanted. -/
def Fix (P : Program) (ops : Array Oper) (S : World → Prop) (o : Oper) (held : Bool) (a : Act) (v : Value) : Prop :=
  (Region.wanted o (yielded ops a.tmps) = true ∧ (held = false → kindOf P o ≠ .eff ∧ calmOp a.eval o = true) ∧ ∀ w', (held = true → S w') → (execOp a.eval o).run P w' = .ok (.value v) w') ∨
  (Region.wanted o (yielded ops a.tmps) = false ∧ v = undef)

def fixable (P : Program) (o : Oper) (held : Bool) : Bool := held || kindOf P o == .pure || kindOf P o == .cond

theorem Fix.step {o : Oper} {h ns : Bool} {a : Act} {v : Value} {K : Act → World → Prop} {w : World} (hf : Fix P ops S o h a v) (hS : h = true → S w) (hk : K (a.put o.dst v) w) : stepT P ops S o h ns K a w := by
  unfold stepT
  rcases hf with ⟨hw, h1, h2⟩ | ⟨hw, rfl⟩
  · rw [if_pos hw]
    cases h with
    | true => exact ⟨v, fun w' hw' => h2 w' fun _ => hw', hk⟩
    | false =>
      obtain ⟨h3, h4⟩ := h1 rfl
      simp only [Bool.false_eq_true, if_false, if_neg h3]
      refine ⟨h4, ?_⟩
      rw [h2 w hS]
      exact hk
  · rw [hw]; exact hk

theorem Fix.unstep {o : Oper} {h ns : Bool} {a : Act} {v : Value} {K : Act → World → Prop} {w : World} (hf : Fix P ops S o h a v) (hS : h = true → S w) (hs : stepT P ops S o h ns K a w) : K (a.put o.dst v) w := by
  unfold stepT at hs
  rcases hf with ⟨hw, h1, h2⟩ | ⟨hw, rfl⟩
  · rw [if_pos hw] at hs
    cases h with
    | true =>
      obtain ⟨u, h3, h4⟩ := hs
      have := h3 w (hS rfl)
      rw [h2 w hS] at this
      cases this
      exact h4
    | false =>
      obtain ⟨h3, h4⟩ := h1 rfl
      simp only [Bool.false_eq_true, if_false, if_neg h3] at hs
      have := hs.2
      rw [h2 w hS] at this
      exact this
  · rw [hw] at hs; exact hs

theorem Fix.of_step {o : Oper} {h ns : Bool} {a : Act} {K : Act → World → Prop} {w : World} (hfx : fixable P o h = true ∨ Region.wanted o (yielded ops a.tmps) = false) (hs : stepT P ops S o h ns K a w) : ∃ v, Fix P ops S o h a v := by
  cases hw : Region.wanted o (yielded ops a.tmps) with
  | false => exact ⟨undef, .inr ⟨hw, rfl⟩⟩
  | true =>
    have hfx := hfx.resolve_right (by simp [hw])
    unfold stepT at hs
    rw [if_pos hw] at hs
    cases h with
    | true =>
      obtain ⟨v, h1, h2⟩ := hs
      exact ⟨v, .inl ⟨hw, by simp, fun w' hw' => h1 w' (hw' rfl)⟩⟩
    | false =>
      simp only [fixable, Bool.false_or, Bool.or_eq_true, beq_iff_eq] at hfx
      have hne : kindOf P o ≠ .eff := by rcases hfx with h | h <;> rw [h] <;> simp
      simp only [Bool.false_eq_true, if_false, if_neg hne] at hs
      rcases flat_of o a hfx hs.1 with ⟨v, hv⟩ | hv
      · exact ⟨v, .inl ⟨hw, fun _ => ⟨hne, hs.1⟩, fun w' _ => hv w'⟩⟩
      · have h2 := hs.2
        generalize hr : (execOp a.eval o).run P w = r at *
        cases r with
        | halt x w => cases h2
        | ok n w1 => exact absurd hr (hv _ _ _)

theorem calmOp_congr {ρ ρ' : Operand → Value} (o : Oper) (h : ∀ x ∈ o.op.operands, ρ x = ρ' x) : calmOp ρ o = calmOp ρ' o := by
  obtain ⟨dst, op, type, pos, after, guard⟩ := o
  cases op <;> simp only [calmOp]
  case binOp p t x y u => simp only [Op.operands] at h; rw [h x (by simp), h y (by simp)]
  case convert s d x => simp only [Op.operands] at h; rw [h x (by simp)]

theorem calmOp_put (o : Oper) (a : Act) (dst : Option Tmp) (v : Value) (h : ∀ d, dst = some d → d ∉ o.looksAt ops) : calmOp (a.put dst v).eval o = calmOp a.eval o :=
  calmOp_congr o fun x hx => Act.eval_put fun d hd hxd => h d hd (by
    subst hxd
    exact List.mem_append_left _ (List.mem_filterMap.2 ⟨.tmp d, by simpa using hx, rfl⟩))

/-- What an operation does that is apart turns nothing of what 'o' looks at. -/
theorem same_nx (o o' : Oper) (hs : ∀ cs b, o.op ≠ .select cs b) (a : Act) (d : Option Deferred) (v : Value) (h : ∀ t, o'.dst = some t → t ∉ o.looksAt ops) :
    execOp (nx o' a d v).eval o = execOp a.eval o ∧ Region.wanted o (yielded ops (nx o' a d v).tmps) = Region.wanted o (yielded ops a.tmps) ∧ calmOp (nx o' a d v).eval o = calmOp a.eval o := by
  unfold nx
  refine ⟨?_, ?_, ?_⟩
  · rw [execOp_put o hs _ _ _ h, addD_eval]
  · rw [wanted_put o _ _ _ h, addD_tmps]
  · rw [calmOp_put o _ _ _ h, addD_eval]

theorem Fix.nx {o o' : Oper} (hs : ∀ cs b, o.op ≠ .select cs b) {h : Bool} {a : Act} {v : Value} (d : Option Deferred) (u : Value) (hl : ∀ t, o'.dst = some t → t ∉ o.looksAt ops) :
    Fix P ops S o h (Sx.nx o' a d u) v ↔ Fix P ops S o h a v := by
  obtain ⟨h1, h2, h3⟩ := same_nx o o' hs a d u hl
  unfold Fix
  rw [h1, h2, h3]

theorem nx_comm (oi oj : Oper) (a : Act) (v u : Value) (d : Option Deferred) (h : ∀ t, oi.dst = some t → oj.dst ≠ some t) :
    nx oj (a.put oi.dst v) d u = (nx oj a d u).put oi.dst v := by
  unfold nx
  rw [addD_put, Act.put_comm _ _ _ h]

def readB (P : Program) (o : Oper) : Bool := kindOf P o == .read
def compat (P : Program) (oi : Oper) (hi : Bool) (oj : Oper) (hj : Bool) : Bool := fixable P oi hi || fixable P oj hj || (readB P oi && readB P oj)

/-- Two operations that are apart, one of which stays as it is: the later one may come first. -/
theorem stepT_swap {oi oj : Oper} {hi hj ni nj : Bool} (hsi : ∀ cs b, oi.op ≠ .select cs b) (hsj : ∀ cs b, oj.op ≠ .select cs b) (hap : oi.apart ops oj = true) (hc : compat P oi hi oj hj = true)
    (hni : hj = true → ni = true) (hnj : hi = true → nj = true)
    {K : Act → World → Prop} {a : Act} {w : World} (hSi : hi = true → S w) (hSj : hj = true → S w) (h : stepT P ops S oi hi ni (stepT P ops S oj hj nj K) a w) : stepT P ops S oj hj nj (stepT P ops S oi hi ni K) a w := by
  obtain ⟨a1, a2, a3⟩ := Oper.apart_spec hap
  have a2' : ∀ t, oj.dst = some t → oi.dst ≠ some t := fun t ht hti => a2 t hti ht
  by_cases hfi : fixable P oi hi = true ∨ Region.wanted oi (yielded ops a.tmps) = false
  · -- the first one is fixed
    obtain ⟨v, hv⟩ := Fix.of_step hfi h
    have h1 := hv.unstep hSi h
    obtain ⟨e1, e2, e3⟩ := same_nx (ops := ops) oj oi hsj a none v a1
    unfold stepT at h1
    change execOp (a.put oi.dst v).eval oj = execOp a.eval oj at e1
    change Region.wanted oj (yielded ops (a.put oi.dst v).tmps) = _ at e2
    change calmOp (a.put oi.dst v).eval oj = _ at e3
    rw [e1, e2, e3] at h1
    have fin : ∀ d u w', (hi = true → S w') → K (nx oj (a.put oi.dst v) d u) w' → stepT P ops S oi hi ni K (nx oj a d u) w' := fun d u w' hw' hk => by
      refine Fix.step ((Fix.nx hsi d u a3).2 hv) hw' ?_
      rw [← nx_comm _ _ _ _ _ _ a2]; exact hk
    unfold stepT
    split
    · rename_i hw
      rw [if_pos hw] at h1
      split
      · rename_i hh
        rw [if_pos hh] at h1
        obtain ⟨u, h2, h3⟩ := h1
        exact ⟨u, h2, fin none u w hSi h3⟩
      · rename_i hh
        rw [if_neg hh] at h1
        split
        · rename_i he
          rw [if_pos he] at h1
          exact h1.mono fun d u w' ⟨s1, s2⟩ => ⟨s1, fin d u w' (fun e => s1 (hnj e)) s2⟩
        · rename_i he
          rw [if_neg he] at h1
          exact ⟨h1.1, (still_of he h1.1 h1.2).mono fun d u w' ⟨s1, s2⟩ => by subst s2; exact fin d u _ hSi s1⟩
    · rename_i hw
      rw [if_neg hw] at h1
      exact fin none undef w hSi h1
  · have hfi2 : fixable P oi hi = false ∧ Region.wanted oi (yielded ops a.tmps) = true := by
      constructor
      · exact Bool.eq_false_iff.2 fun h => hfi (.inl h)
      · exact (Bool.not_eq_false _).mp fun h => hfi (.inr h)
    obtain ⟨f1, f2⟩ := hfi2
    have hih : hi = false := by
      cases hi with
      | false => rfl
      | true => simp [fixable] at f1
    subst hih
    by_cases hfj : fixable P oj hj = true ∨ Region.wanted oj (yielded ops a.tmps) = false
    · -- the second one is fixed
      unfold stepT at h
      rw [if_pos f2] at h
      simp only [Bool.false_eq_true, if_false] at h
      have same := fun d u => same_nx (ops := ops) oj oi hsj a d u a1
      have back : ∀ d u w', (hj = true → S w') → stepT P ops S oj hj nj K (nx oi a d u) w' → ∀ x, Fix P ops S oj hj a x → K (nx oi (a.put oj.dst x) d u) w' := fun d u w' hw' hs x hx => by
        have := ((Fix.nx hsj d u a1).2 hx).unstep hw' hs
        rw [nx_comm _ _ _ _ _ _ a2']
        exact this
      have hwj : ∀ d u, fixable P oj hj = true ∨ Region.wanted oj (yielded ops (nx oi a d u).tmps) = false := fun d u => hfj.imp id fun h => by rw [(same d u).2.1]; exact h
      have sx : ∀ x, execOp (a.put oj.dst x).eval oi = execOp a.eval oi ∧ Region.wanted oi (yielded ops (a.put oj.dst x).tmps) = Region.wanted oi (yielded ops a.tmps) ∧ calmOp (a.put oj.dst x).eval oi = calmOp a.eval oi := fun x => same_nx (ops := ops) oi oj hsi a none x a3
      by_cases he : kindOf P oi = .eff
      · rw [if_pos he] at h
        obtain ⟨d, u, w', s1, s2⟩ := h.some
        obtain ⟨x, hx⟩ := Fix.of_step (hwj d u) s2
        have hx := (Fix.nx hsj d u a1).1 hx
        refine hx.step hSj ?_
        obtain ⟨e1, e2, e3⟩ := sx x
        unfold stepT
        rw [e2, if_pos f2, if_neg (by simp), if_pos he, e1]
        exact h.mono fun d u w' ⟨s1, s2⟩ => ⟨s1, back d u w' (fun e => s1 (hni e)) s2 x hx⟩
      · rw [if_neg he] at h
        have h2 := still_of he h.1 h.2
        obtain ⟨d, u, w', s2, s1⟩ := h2.some
        subst s1
        obtain ⟨x, hx⟩ := Fix.of_step (hwj d u) s2
        have hx := (Fix.nx hsj d u a1).1 hx
        refine hx.step hSj ?_
        obtain ⟨e1, e2, e3⟩ := sx x
        unfold stepT
        rw [e2, if_pos f2, if_neg (by simp), if_neg he, e1, e3]
        exact ⟨h.1, h2.mono fun d2 u2 w2 s => by obtain ⟨t2, t1⟩ := s; rw [t1] at t2 ⊢; exact back d2 u2 _ hSj t2 x hx⟩
    · have hfj2 : fixable P oj hj = false ∧ Region.wanted oj (yielded ops a.tmps) = true := by
        constructor
        · exact Bool.eq_false_iff.2 fun h => hfj (.inl h)
        · exact (Bool.not_eq_false _).mp fun h => hfj (.inr h)
      obtain ⟨g1, g2⟩ := hfj2
      have hjh : hj = false := by
        cases hj with
        | false => rfl
        | true => simp [fixable] at g1
      subst hjh
      simp only [compat, f1, g1, Bool.false_or, Bool.and_eq_true, readB, beq_iff_eq] at hc
      obtain ⟨r1, r2⟩ := hc
      unfold stepT at h
      rw [if_pos f2, if_neg (by simp), if_neg (by rw [r1]; simp)] at h
      obtain ⟨c1, h⟩ := h
      generalize hr : (execOp a.eval oi).run P w = r at h
      cases r with
      | halt x w => cases h
      | ok n w1 =>
        obtain ⟨q1, v, q2⟩ := read_still oi _ r1 _ _ _ hr
        subst q1; subst q2
        simp only [oT] at h
        obtain ⟨e1, e2, e3⟩ := same_nx (ops := ops) oj oi hsj a none v a1
        rw [e2, if_pos g2, if_neg (by simp), if_neg (by rw [r2]; simp), e1, e3] at h
        obtain ⟨c2, h⟩ := h
        unfold stepT
        rw [if_pos g2, if_neg (by simp), if_neg (by rw [r2]; simp)]
        refine ⟨c2, ?_⟩
        generalize hr2 : (execOp a.eval oj).run P w1 = r at h
        cases r with
        | halt x w => cases h
        | ok n w2 =>
          obtain ⟨q1, u, q2⟩ := read_still oj _ r2 _ _ _ hr2
          subst q1; subst q2
          simp only [oT] at h ⊢
          obtain ⟨k1, k2, k3⟩ := same_nx (ops := ops) oi oj hsi a none u a3
          rw [k2, if_pos f2, if_neg (by simp), if_neg (by rw [r1]; simp), k1, k3, hr]
          refine ⟨c1, ?_⟩
          have := nx_comm oi oj a v u none a2
          unfold nx at this ⊢ h
          simp only [addD] at this h ⊢
          rw [← this]; exact h

/-- Operations in the order of the text, each with its words 'held', 'ns'. -/
def wpT (P : Program) (ops : Array Oper) (S : World → Prop) (Q : Act → World → Prop) : List (Oper × Bool × Bool) → Act → World → Prop
  | [], a, w => Q a w
  | o :: l, a, w => stepT P ops S o.1 o.2.1 o.2.2 (wpT P ops S Q l) a w

/-- One that may come now comes first. -/
theorem wpT_front {Q : Act → World → Prop} (hsel : ∀ (j : Nat) (o : Oper) cs b, ops[j]? = some o → o.op ≠ .select cs b) (x : Oper × Bool × Bool) (hx : ∃ j : Nat, ops[j]? = some x.1) (post : List (Oper × Bool × Bool)) :
    ∀ (pre : List (Oper × Bool × Bool)), (∀ y ∈ pre, (∃ i : Nat, ops[i]? = some y.1) ∧ y.1.apart ops x.1 = true ∧ compat P y.1 y.2.1 x.1 x.2.1 = true ∧ (y.2.1 = true → x.2.2 = true) ∧ (x.2.1 = true → y.2.2 = true)) →
      pre.Pairwise (fun y z => z.2.1 = true → y.2.2 = true) →
      ∀ (a : Act) (w : World), (x.2.1 = true → S w) → (∀ y ∈ pre, y.2.1 = true → S w) → wpT P ops S Q (pre ++ x :: post) a w → wpT P ops S Q (x :: (pre ++ post)) a w := by
  intro pre
  induction pre with
  | nil => intro _ _ a w _ _ h; exact h
  | cons y pre ih =>
    intro hp hpw a w hSx hSy h
    obtain ⟨⟨i, hi⟩, h1, h2, h3, h4⟩ := hp y (by simp)
    obtain ⟨j, hj⟩ := hx
    obtain ⟨hy, hpw⟩ := List.pairwise_cons.1 hpw
    simp only [List.cons_append, wpT] at h ⊢
    refine stepT_swap (fun cs b => hsel i _ cs b hi) (fun cs b => hsel j _ cs b hj) h1 h2 h4 h3 (hSy y (by simp)) hSx ?_
    refine stepT.mono (fun a w' hw hk => ih (fun z hz => hp z (by simp [hz])) hpw a w' (fun e => ?_) (fun z hz e => ?_) hk) h
    · rcases hw with rfl | hw
      · exact hSx e
      · exact hw (h4 e)
    · rcases hw with rfl | hw
      · exact hSy z (by simp [hz]) e
      · exact hw (hy z hz e)

/-- What must have come ahead of an operation, as bits: 'acc': of those ahead of it in the text. -/
def mask (acc : List Nat) (o : Oper) : Nat :=
  o.after.toList.foldl (fun s e => if Region.binds .any e then s ||| 2 ^ e.on ||| acc.getD e.on 0 else s) 0
def anc (l : List Oper) : List Nat := l.foldl (fun acc o => acc ++ [mask acc o]) []

theorem mask_bit (acc : List Nat) (i : Nat) : ∀ (es : List Edge) (s : Nat), (es.foldl (fun s e => if Region.binds .any e then s ||| 2 ^ e.on ||| acc.getD e.on 0 else s) s).testBit i = true →
    s.testBit i = true ∨ ∃ e ∈ es, Region.binds .any e = true ∧ (e.on = i ∨ (acc.getD e.on 0).testBit i = true) := by
  intro es
  induction es with
  | nil => intro s h; exact .inl h
  | cons e es ih =>
    intro s h
    simp only [List.foldl_cons] at h
    rcases ih _ h with h | ⟨e', he', h⟩
    · split at h
      · rename_i hb
        simp only [Nat.testBit_or, Nat.testBit_two_pow, Bool.or_eq_true, decide_eq_true_eq] at h
        rcases h with (h | h) | h
        · exact .inl h
        · exact .inr ⟨e, by simp, hb, .inl h⟩
        · exact .inr ⟨e, by simp, hb, .inr h⟩
      · exact .inl h
    · exact .inr ⟨e', by simp [he'], h⟩

theorem anc_append (l1 l2 : List Oper) : ∃ r, anc (l1 ++ l2) = anc l1 ++ r := by
  induction l2 generalizing l1 with
  | nil => exact ⟨[], by simp⟩
  | cons o l2 ih =>
    obtain ⟨r, hr⟩ := ih (l1 ++ [o])
    refine ⟨[mask (anc l1) o] ++ r, ?_⟩
    rw [show l1 ++ o :: l2 = (l1 ++ [o]) ++ l2 by simp, hr]
    simp [anc, List.foldl_append]

theorem anc_length (l : List Oper) : (anc l).length = l.length := by
  have : ∀ (l : List Oper) (acc : List Nat), (l.foldl (fun acc o => acc ++ [mask acc o]) acc).length = acc.length + l.length := by
    intro l
    induction l with
    | nil => intro acc; simp
    | cons o l ih => intro acc; simp [ih]; omega
  simpa [anc] using this l []

theorem anc_getD {l : List Oper} {j : Nat} {o : Oper} (h : l[j]? = some o) (i : Nat) (hi : ((anc l).getD j 0).testBit i = true) :
    ∃ e ∈ o.after, Region.binds .any e = true ∧ (e.on = i ∨ (e.on < j ∧ ((anc l).getD e.on 0).testBit i = true)) := by
  have hj : j < l.length := (List.getElem?_eq_some_iff.1 h).1
  have hl : l = l.take j ++ [o] ++ l.drop (j + 1) := by
    have : l[j] = o := by simpa [List.getElem?_eq_getElem hj] using h
    rw [← this, List.take_append_getElem hj, List.take_append_drop]
  obtain ⟨r, hr⟩ := anc_append (l.take j ++ [o]) (l.drop (j + 1))
  rw [← hl] at hr
  have hlen : (anc (l.take j)).length = j := by rw [anc_length]; simp; omega
  have h1 : anc (l.take j ++ [o]) = anc (l.take j) ++ [mask (anc (l.take j)) o] := by simp [anc, List.foldl_append]
  have hg : ∀ k, k < j → (anc (l.take j)).getD k 0 = (anc l).getD k 0 := fun k hk => by
    rw [hr, h1]
    simp only [List.getD_eq_getElem?_getD, List.append_assoc]
    rw [List.getElem?_append_left (by rw [hlen]; exact hk)]
  have hgj : (anc l).getD j 0 = mask (anc (l.take j)) o := by
    rw [hr, h1]
    simp only [List.getD_eq_getElem?_getD, List.append_assoc]
    rw [List.getElem?_append_right (by rw [hlen]; exact Nat.le_refl _), hlen]
    simp
  rw [hgj] at hi
  rcases mask_bit _ _ _ _ hi with h | ⟨e, he, hb, h⟩
  · simp at h
  · refine ⟨e, by simpa using he, hb, ?_⟩
    rcases h with h | h
    · exact .inl h
    · by_cases hej : e.on < j
      · exact .inr ⟨hej, by rw [← hg _ hej]; exact h⟩
      · rw [List.getD_eq_getElem?_getD, List.getElem?_eq_none (by rw [hlen]; omega)] at h
        simp at h

/-- Behind this operation S must hold: a held one need not have come ahead of it. -/
def needS (b : List Nat) (held : List Nat) (k : Nat) : Bool := held.any fun h => h != k && !(b.getD k 0).testBit h

/-- The check: the text's order is one that the edges allow; of two operations that no edge orders one stays as it is. -/
def okB (P : Program) (ops : Array Oper) (held : List Nat) : Bool :=
  let b := anc ops.toList
  Region.noSelect ops && (List.range ops.size).all fun j =>
    match ops[j]? with
    | none => true
    | some oj => oj.after.toList.all (fun e => !Region.binds .any e || decide (e.on < j)) && (List.range j).all fun i =>
        (b.getD j 0).testBit i || match ops[i]? with
          | none => true
          | some oi => oi.apart ops oj && compat P oi (held.contains i) oj (held.contains j)

theorem stepT_wpOp {Q' : Exit → Act → World → Prop} {j : Nat} {o : Oper} {h ns : Bool} {K K' : Act → World → Prop} {a : Act} {w : World} (hj : ops[j]? = some o) (hS : h = true → S w)
    (hk : ∀ a w', (w' = w ∨ (ns = true → S w')) → K a w' → K' a w') (hs : stepT P ops S o h ns K a w) : wpOp P ops Q' j K' a w := by
  have hs := stepT.mono hk hs
  unfold wpOp
  simp only [hj]
  unfold stepT at hs
  split
  · rename_i hw
    rw [if_pos hw] at hs
    refine .inl (wp_of_oT ?_ _)
    split at hs
    · rename_i hh
      obtain ⟨v, h1, h2⟩ := hs
      rw [h1 w (hS hh)]; exact h2
    · split at hs
      · exact hs.mono fun d v w' h => h.2
      · exact hs.2
  · rename_i hw
    rw [if_neg hw] at hs
    exact hs

def pr (ops : Array Oper) (held : List Nat) (i : Nat) : Oper × Bool × Bool := ((ops[i]?).getD default, held.contains i, needS (anc ops.toList) held i)

/-- An ancestor comes ahead in the text. -/
theorem anc_lt {held : List Nat} (hB : okB P ops held = true) : ∀ (k i : Nat), ((anc ops.toList).getD k 0).testBit i = true → i < k := by
  intro k
  induction k using Nat.strongRecOn with
  | _ k ih =>
    intro i hbit
    have hk : k < ops.size := by
      rcases Nat.lt_or_ge k ops.size with h | h
      · exact h
      · rw [List.getD_eq_getElem?_getD, List.getElem?_eq_none (by rw [anc_length]; simpa using h)] at hbit
        simp at hbit
    have ho : ops[k]? = some ops[k] := Array.getElem?_eq_getElem hk
    simp only [okB, Bool.and_eq_true, List.all_eq_true, List.mem_range] at hB
    have h1 := hB.2 k hk
    simp only [ho, Bool.and_eq_true, List.all_eq_true, Bool.or_eq_true, Bool.not_eq_true', decide_eq_true_eq] at h1
    obtain ⟨e, he, hb, h⟩ := anc_getD (l := ops.toList) (o := ops[k]) (by rw [Array.getElem?_toList]; exact ho) i hbit
    have hlt : e.on < k := (h1.1 e (by simpa using he)).resolve_left (by simp [hb])
    rcases h with h | ⟨_, h⟩
    · omega
    · have := ih e.on hlt i h; omega

theorem wpT_any {Q : Act → World → Prop} {Q' : Exit → Act → World → Prop} {held : List Nat} (hB : okB P ops held = true) (hQ : ∀ a w, Q a w → Q' .normal a w) :
    ∀ (n : Nat) (pend : List Nat) (listed : Array Bool) (a : Act) (w : World), pend.length = n → pend.Pairwise (· < ·) → listed.size = ops.size →
      (∀ j, j ∈ pend ↔ listed.getD j true = false) →
      (∀ j oj, ops[j]? = some oj → listed.getD j false = true → ∀ e ∈ oj.after, Region.binds .any e = true → listed.getD e.on false = true) →
      (∀ j ∈ pend, held.contains j = true → S w) → wpT P ops S Q (pend.map (pr ops held)) a w → wpAny P .any ops Q' n listed a w := by
  have hancs := anc_lt hB
  simp only [okB, Bool.and_eq_true, List.all_eq_true, List.mem_range] at hB
  obtain ⟨hsel, hall⟩ := hB
  have hsel := Region.noSelect_spec hsel
  have hneed : ∀ i j, held.contains j = true → j ≠ i → ((anc ops.toList).getD i 0).testBit j = false → needS (anc ops.toList) held i = true := fun i j hj hne hb => by
    unfold needS
    rw [List.any_eq_true]
    exact ⟨j, by simpa using hj, by rw [hb]; simp [hne]⟩
  intro n
  induction n with
  | zero =>
    intro pend listed a w hn hp hsz hmem hcl hS h
    have : pend = [] := List.eq_nil_of_length_eq_zero hn
    subst this
    refine ⟨?_, hQ _ _ h⟩
    refine List.eq_nil_iff_forall_not_mem.2 fun j hj => ?_
    have := (mem_ready.1 hj).1
    exact absurd ((hmem j).2 this) (by simp)
  | succ n ih =>
    intro pend listed a w hn hp hsz hmem hcl hS h
    have lt_of : ∀ j, j ∈ pend → j < ops.size := fun j hj => by
      have := (hmem j).1 hj
      rcases Nat.lt_or_ge j listed.size with h' | h'
      · omega
      · simp [Array.getElem?_eq_none h'] at this
    have listed_of : ∀ j, j < ops.size → j ∉ pend → listed.getD j false = true := fun j hj hn => by
      have hj' : j < listed.size := by omega
      have : listed.getD j true ≠ false := fun h => hn ((hmem j).2 h)
      simp [hj'] at this ⊢; exact this
    refine ⟨fun h0 => ?_, fun j hj => ?_⟩
    · exfalso
      cases pend with
      | nil => simp at hn
      | cons i rest =>
        have hi := lt_of i (by simp)
        have hget : ops[i]? = some ops[i] := Array.getElem?_eq_getElem hi
        have h1 := hall i hi
        simp only [hget, Bool.and_eq_true, List.all_eq_true, Bool.or_eq_true, Bool.not_eq_true', decide_eq_true_eq] at h1
        have : i ∈ Region.ready .any ops listed := mem_ready.2 ⟨(hmem i).1 (by simp), ops[i], hget, fun e he hb => by
          have hlt : e.on < i := (h1.1 e (by simpa using he)).resolve_left (by simp [hb])
          refine listed_of _ (by omega) fun hin => ?_
          cases hin with
          | head => omega
          | tail _ hm => have := (List.pairwise_cons.1 hp).1 _ hm; omega⟩
        rw [h0] at this; cases this
    · obtain ⟨hun, oj, hoj, hdeps⟩ := mem_ready.1 hj
      have hjp : j ∈ pend := (hmem j).2 hun
      have hjlt := lt_of j hjp
      obtain ⟨pre, post, rfl⟩ := List.append_of_mem hjp
      -- an ancestor has come
      have key : ∀ (k : Nat) (i : Nat) (o : Oper), ops[k]? = some o → (∀ e ∈ o.after, Region.binds .any e = true → listed.getD e.on false = true) → ((anc ops.toList).getD k 0).testBit i = true → listed.getD i false = true := by
        intro k
        induction k using Nat.strongRecOn with
        | _ k ihk =>
          intro i o ho hd hbit
          obtain ⟨e, he, hb, h⟩ := anc_getD (l := ops.toList) (o := o) (by rw [Array.getElem?_toList]; exact ho) i hbit
          rcases h with h | ⟨hlt, h⟩
          · rw [← h]; exact hd e he hb
          · have hl := hd e he hb
            have hsz2 : e.on < ops.size := by
              have : k < ops.size := (Array.getElem?_eq_some_iff.1 ho).1
              omega
            have ho2 : ops[e.on]? = some ops[e.on] := Array.getElem?_eq_getElem hsz2
            exact ihk e.on hlt i _ ho2 (hcl _ _ ho2 hl) h
      have notanc : ∀ i, i ∈ pre ++ j :: post → ((anc ops.toList).getD j 0).testBit i = false := fun i hi => by
        rw [Bool.eq_false_iff]
        intro hb
        have h3 := key j i oj hoj hdeps hb
        have h4 := (hmem i).1 hi
        have := lt_of i hi
        have : i < listed.size := by omega
        simp [this] at h3 h4
        rw [h3] at h4; cases h4
      have hpa := List.pairwise_append.1 hp
      have hnp : j ∉ pre ++ post := by
        intro hin
        rcases List.mem_append.1 hin with h | h
        · have := hpa.2.2 j h j (by simp); omega
        · have := (List.pairwise_cons.1 hpa.2.1).1 j h; omega
      have hfront : wpT P ops S Q (pr ops held j :: ((pre ++ post).map (pr ops held))) a w := by
        rw [List.map_append]
        refine wpT_front hsel (pr ops held j) ⟨j, by simp [pr, hoj]⟩ _ _ ?_ ?_ a w (fun e => hS j (by simp) e) ?_ (by simpa using h)
        · intro y hy
          obtain ⟨i, hi, rfl⟩ := List.mem_map.1 hy
          have hij : i < j := hpa.2.2 i hi j (by simp)
          have hilt : i < ops.size := by omega
          have hget : ops[i]? = some ops[i] := Array.getElem?_eq_getElem hilt
          refine ⟨⟨i, by simp [pr, hget]⟩, ?_⟩
          have h1 := hall j hjlt
          simp only [hoj, Bool.and_eq_true, List.all_eq_true, List.mem_range, Bool.or_eq_true] at h1
          have h2 := h1.2 i hij
          simp only [hget, Bool.and_eq_true] at h2
          have hna := notanc i (by simp [hi])
          rcases h2 with h2 | h2
          · rw [hna] at h2; cases h2
          · refine ⟨by simpa [pr, hget, hoj] using h2.1, by simpa [pr, hget, hoj] using h2.2, fun e => hneed j i e (by omega) hna, fun e => hneed i j e (by omega) ?_⟩
            rw [Bool.eq_false_iff]
            intro hb
            have := hancs i j hb; omega
        · refine List.pairwise_map.2 (hpa.1.imp fun {i k} hik e => hneed i k e (by omega) ?_)
          rw [Bool.eq_false_iff]
          intro hb
          have := hancs i k hb; omega
        · intro y hy e
          obtain ⟨i, hi, rfl⟩ := List.mem_map.1 hy
          exact hS i (by simp [hi]) e
      have hp2 : (pre ++ post).Pairwise (· < ·) :=
        List.pairwise_append.2 ⟨hpa.1, (List.pairwise_cons.1 hpa.2.1).2, fun x hx y hy => hpa.2.2 x hx y (by simp [hy])⟩
      simp only [wpT] at hfront
      refine stepT_wpOp (o := oj) (h := held.contains j) hoj (hS j (by simp)) (fun a' w' hw' hk => ?_) (by simpa [pr, hoj] using hfront)
      refine ih (pre ++ post) _ a' w' (by simp at hn ⊢; omega) hp2 (by simpa using hsz) (fun k => ?_) (fun k ok hk hlk e he hb => ?_) (fun k hk e => ?_) (by rw [List.map_append]; exact hk)
      · by_cases hkj : j = k
        · subst hkj
          have : j < listed.size := by omega
          simp [this, hnp]
        · rw [getD_set_ne true hkj, ← hmem k]
          simp [Ne.symm hkj]
      · by_cases hkj : j = k
        · subst hkj
          have : ok = oj := Option.some.inj (hk.symm.trans hoj)
          subst this
          exact getD_set_true (hdeps e he hb)
        · rw [getD_set_ne false hkj] at hlk
          exact getD_set_true (hcl k ok hk hlk e he hb)
      · have hk' : k ∈ pre ++ j :: post := by
          rcases List.mem_append.1 hk with h | h <;> simp [h]
        rcases hw' with rfl | hw'
        · exact hS k hk' e
        · exact hw' (hneed j k e (fun e => hnp (by rw [← e]; exact hk)) (notanc k hk'))

/-- The operations from the k-th on in the order of the text. -/
def wpL (P : Program) (ops : Array Oper) (S : World → Prop) (held : List Nat) (Q : Act → World → Prop) : Nat → List Oper → Act → World → Prop
  | _, [], a, w => Q a w
  | k, o :: l, a, w => stepT P ops S o (held.contains k) (needS (anc ops.toList) held k) (wpL P ops S held Q (k + 1) l) a w

theorem wpL_eq {held : List Nat} {Q : Act → World → Prop} : ∀ (l : List Oper) (k : Nat), (∀ j, l[j]? = ops[k + j]?) → wpL P ops S held Q k l = wpT P ops S Q ((List.range' k l.length).map (pr ops held)) := by
  intro l
  induction l with
  | nil => intro k _; funext a w; simp [wpL, wpT]
  | cons o l ih =>
    intro k h
    have h0 : ops[k]? = some o := by simpa using (h 0).symm
    have ih' := ih (k + 1) (fun j => by have := h (j + 1); simpa [Nat.add_assoc, Nat.add_comm 1 j] using this)
    funext a w
    simp only [wpL, List.length_cons, List.range'_succ, List.map_cons, wpT, ih']
    simp [pr, h0]

/-- **A region that draws its order, carried out in the order of the text.** -/
theorem wp_region_held {id : Nat} {Q : Exit → Act → World → Prop} {a : Act} {w : World} {l : List Oper} (S : World → Prop) (held : List Nat) (hm : P.follows .mixedOrders = true) (hB : okB P l.toArray held = true)
    (h0 : S w.drew) (h : wpL P l.toArray S held (fun a w => Q .normal a w) 0 l a w.drew) : (Code.region id l.toArray true).wp P Q a w := by
  rw [wpL_eq l 0 (fun j => by simp)] at h
  refine wp_region_any hm (wpT_any (S := S) hB (fun _ _ h => h) _ (List.range l.length) _ a _ (by simp) List.pairwise_lt_range (by simp) (fun j => ?_) (fun j oj hj hl => ?_) (fun _ _ _ => h0) (by rw [List.range_eq_range']; exact h))
  · rw [List.mem_range]
    rcases Nat.lt_or_ge j l.length with h | h
    · simp [h]
    · simp [h]
  · rw [getD_replicate_false] at hl; cases hl

/-! ### Without words 'held': by 'wpList', the tests' operands looked at behind it -/

/-- The slots that an operation's calmness hangs on. -/
def calmTmps (o : Oper) : List Tmp :=
  match o.op with
  | .binOp _ _ x y _ => [x, y].filterMap fun | .tmp t => some t | _ => none
  | .convert _ _ x => [x].filterMap fun | .tmp t => some t | _ => none
  | _ => []
def stableB : List Oper → Bool
  | [] => true
  | o :: l => (o :: l).all (fun o' => match o'.dst with | some d => !(calmTmps o).contains d | none => true) && stableB l
def calmEnd (l : List Oper) (a : Act) : Bool := l.all fun o => calmOp a.eval o

theorem calmOp_keep (o : Oper) {a a' : Act} (h : ∀ t ∈ calmTmps o, a'.tmps.getD t undef = a.tmps.getD t undef) : calmOp a'.eval o = calmOp a.eval o := by
  have e : ∀ x : Operand, (∀ t, x = .tmp t → t ∈ calmTmps o) → a'.eval x = a.eval x := fun x hx => by
    cases x with
    | tmp t => exact h t (hx t rfl)
    | _ => rfl
  obtain ⟨dst, op, type, pos, after, guard⟩ := o
  cases op <;> simp only [calmOp]
  case binOp p t x y u =>
    rw [e x (fun t ht => by subst ht; simp [calmTmps]), e y (fun t ht => by subst ht; cases x <;> simp [calmTmps])]
  case convert s d x => rw [e x (fun t ht => by subst ht; simp [calmTmps])]

theorem put_other (a : Act) (dst : Option Tmp) (v : Value) (t : Tmp) (h : dst ≠ some t) : (a.put dst v).tmps.getD t undef = a.tmps.getD t undef := by
  cases dst with
  | none => rfl
  | some d =>
    have hne : d ≠ t := fun e => h (by rw [e])
    simp [Act.put, Array.getElem?_setIfInBounds_ne hne]

theorem wpList_end {N : Act → World → Prop} : ∀ (l : List Oper) (a : Act) (w : World), wpList P ops (Exit.then N (fun _ _ _ => False)) l a w →
    ∃ a' w', N a' w' ∧ ∀ t, (∀ o ∈ l, o.dst ≠ some t) → a'.tmps.getD t undef = a.tmps.getD t undef := by
  intro l
  induction l with
  | nil => intro a w h; exact ⟨a, w, h, fun _ _ => rfl⟩
  | cons o l ih =>
    intro a w h
    unfold wpList at h
    split at h
    · rcases h with h | ⟨_, x, y, h⟩
      · have h2 : o.wp P a w (wpList P ops (Exit.then N (fun _ _ _ => False)) l) noQ := by
          have : ∀ e a w, Exit.then N (fun _ _ _ => False) e a w → e = .normal ∨ noQ e a w := fun e a w h => by cases e <;> first | exact .inl rfl | exact .inr h
          unfold Oper.wp at h ⊢
          generalize (execOp a.eval o).run P w = r at *
          cases r with
          | halt x w => cases x <;> simp only [Oper.upon] at h ⊢ <;> exact h
          | ok n w =>
            cases n <;> simp only [Oper.upon] at h ⊢ <;> first
              | exact h
              | (refine h.mono fun e w'' he => ?_
                 cases e with
                 | returned v => exact he
                 | panicked c => exact he
                 | outgrown => obtain ⟨a, w, hq⟩ := he; exact hq.elim)
        obtain ⟨d, v, w', hk⟩ := (oT_of_wp h2).some
        obtain ⟨a', w'', hN, hs⟩ := ih _ _ hk
        refine ⟨a', w'', hN, fun t ht => ?_⟩
        rw [hs t (fun o' ho' => ht o' (by simp [ho']))]
        unfold nx
        rw [put_other _ _ _ _ (ht o (by simp)), addD_tmps]
      · exact h.elim
    · obtain ⟨a', w'', hN, hs⟩ := ih _ _ h
      refine ⟨a', w'', hN, fun t ht => ?_⟩
      rw [hs t (fun o' ho' => ht o' (by simp [ho'])), put_other _ _ _ _ (ht o (by simp))]

theorem wpL_of_list {Q : Act → World → Prop} : ∀ (l : List Oper) (k : Nat) (a : Act) (w : World), stableB l = true →
    ∀ (L : List Oper), (∀ o ∈ l, o ∈ L) → wpList P ops (Exit.then (fun a' w' => calmEnd L a' = true ∧ Q a' w') (fun _ _ _ => False)) l a w →
    wpL P ops (fun _ => True) [] Q k l a w := by
  intro l
  induction l with
  | nil => intro k a w _ L _ h; exact h.2
  | cons o l ih =>
    intro k a w hst L hL h
    have hend := wpList_end _ _ _ h
    simp only [stableB, Bool.and_eq_true, List.all_eq_true] at hst
    have hcalm : calmOp a.eval o = true := by
      obtain ⟨a', w', ⟨hc, _⟩, hs⟩ := hend
      simp only [calmEnd, List.all_eq_true] at hc
      rw [← hc o (hL o (by simp))]
      refine (calmOp_keep o fun t ht => hs t fun o' ho' hd => ?_).symm
      have := hst.1 o' ho'
      rw [hd] at this
      simp at this
      exact this ht
    unfold wpList at h
    simp only [wpL, List.contains_nil]
    unfold stepT
    split at h
    · rename_i hw
      rw [if_pos hw, if_neg (by simp)]
      rcases h with h | ⟨_, x, y, h⟩
      · have h2 : o.wp P a w (wpList P ops (Exit.then (fun a' w' => calmEnd L a' = true ∧ Q a' w') (fun _ _ _ => False)) l) noQ := by
          unfold Oper.wp at h ⊢
          generalize (execOp a.eval o).run P w = r at *
          cases r with
          | halt x w => cases x <;> simp only [Oper.upon] at h ⊢ <;> exact h
          | ok n w =>
            cases n <;> simp only [Oper.upon] at h ⊢ <;> first
              | exact h
              | (refine h.mono fun e w'' he => ?_
                 cases e with
                 | returned v => exact he
                 | panicked c => exact he
                 | outgrown => obtain ⟨a, w, hq⟩ := he; exact hq.elim)
        have h3 := (oT_of_wp h2).mono (J' := fun d v w' => wpL P ops (fun _ => True) [] Q (k + 1) l (nx o a d v) w') fun d v w' hk => ih _ _ _ hst.2 L (fun o' ho' => hL o' (by simp [ho'])) hk
        split
        · exact h3.mono fun d v w' h => ⟨fun _ => trivial, h⟩
        · exact ⟨hcalm, h3⟩
      · exact h.elim
    · rename_i hw
      rw [if_neg hw]
      exact ih _ _ _ hst.2 L (fun o' ho' => hL o' (by simp [ho'])) h

/-- **A region that draws its order, by the words of one that does not.** Behind it: the tests' operands are calm. -/
theorem wp_region_txt {id : Nat} {Q : Exit → Act → World → Prop} {a : Act} {w : World} {l : List Oper} (hm : P.follows .mixedOrders = true) (hB : okB P l.toArray [] = true) (hs : stableB l = true)
    (h : wpList P l.toArray (Exit.then (fun a' w' => calmEnd l a' = true ∧ Q .normal a' w') (fun _ _ _ => False)) l a w.drew) : (Code.region id l.toArray true).wp P Q a w :=
  wp_region_held (fun _ => True) [] hm hB trivial (wpL_of_list l 0 a _ hs l (fun _ h => h) h)

/-! ### The steps of a region some of whose loads are held -/

section
variable {held : List Nat} {k : Nat} {o : Oper} {rest : List Oper} {Q : Act → World → Prop} {a : Act} {w : World}

theorem wpL_skip (hw : Region.wanted o (yielded ops a.tmps) = false) (h : wpL P ops S held Q (k + 1) rest (a.put o.dst undef) w) : wpL P ops S held Q k (o :: rest) a w := by
  unfold wpL stepT; rw [hw]; exact h
theorem wpL_flat (hc : held.contains k = false) (hw : Region.wanted o (yielded ops a.tmps) = true) (hk : (kindOf P o == .eff) = false) (hm : calmOp a.eval o = true)
    (h : ∀ K : Act → World → Prop, (∀ a w, wpL P ops S held Q (k + 1) rest a w → K a w) → o.wp P a w K noQ) : wpL P ops S held Q k (o :: rest) a w := by
  unfold wpL stepT
  have hk' : kindOf P o ≠ .eff := fun e => by rw [e] at hk; cases hk
  rw [hw, hc, if_pos rfl, if_neg (by simp), if_neg hk']
  exact ⟨hm, oT_of_wp (h _ fun _ _ h => h)⟩
theorem wpL_eff (hc : held.contains k = false) (hw : Region.wanted o (yielded ops a.tmps) = true) (hk : (kindOf P o == .eff) = true)
    (h : ∀ K : Act → World → Prop, (∀ a w, S w → wpL P ops S held Q (k + 1) rest a w → K a w) → o.wp P a w K noQ) : wpL P ops S held Q k (o :: rest) a w := by
  unfold wpL stepT
  have hk' : kindOf P o = .eff := by simpa using hk
  rw [hw, hc, if_pos rfl, if_neg (by simp), if_pos hk']
  exact (oT_of_wp (h (fun a w => S w ∧ wpL P ops S held Q (k + 1) rest a w) fun _ _ h1 h2 => ⟨h1, h2⟩)).mono fun d v w' hh => ⟨fun _ => hh.1, hh.2⟩
theorem wpL_last (hc : held.contains k = false) (hw : Region.wanted o (yielded ops a.tmps) = true) (hk : (kindOf P o == .eff) = true) (hn : needS (anc ops.toList) held k = false)
    (h : ∀ K : Act → World → Prop, (∀ a w, wpL P ops S held Q (k + 1) rest a w → K a w) → o.wp P a w K noQ) : wpL P ops S held Q k (o :: rest) a w := by
  unfold wpL stepT
  have hk' : kindOf P o = .eff := by simpa using hk
  rw [hw, hc, if_pos rfl, if_neg (by simp), if_pos hk', hn]
  exact (oT_of_wp (h _ fun _ _ h => h)).mono fun d v w' hh => ⟨(fun e => by cases e), hh⟩
theorem wpL_held (v : Value) (hc : held.contains k = true) (hw : Region.wanted o (yielded ops a.tmps) = true) (hv : ∀ w', S w' → (execOp a.eval o).run P w' = .ok (.value v) w')
    (h : wpL P ops S held Q (k + 1) rest (a.put o.dst v) w) : wpL P ops S held Q k (o :: rest) a w := by
  unfold wpL stepT
  rw [hw, hc, if_pos rfl, if_pos rfl]
  exact ⟨v, hv, h⟩
end
end Go.Sx
