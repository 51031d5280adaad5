/- Closed runs by the kernel: regions, code, calls. -/
import Derived.Test.YtmiikmonmgjjfaaGreatEvMap
namespace Go.Ev
open Go.Sx

/-! ### Operands, activations -/

/-- an activation's values, local memory, the next block's number -/
structure St where
  E : Tr Value
  T : Mem
  n : Nat

def opnd (ng : Nat) (E : Tr Value) : Operand → Option Value
  | .tmp t => E.get t
  | .const v => if plainV v then some v else none
  | .global g => if g < ng then some (.pointer (some ⟨g, 0, none⟩)) else none
  | .func f => some (.func (.func f) #[] #[])
def putL (N : Nat) (E : Tr Value) (d : Option Tmp) (v : Value) : Option (Tr Value) := match d with
  | none => some E
  | some t => if t < N then E.set t v else none
def wantedL (N : Nat) (ops : Array Oper) (E : Tr Value) (o : Oper) : Option Bool := match o.guard with
  | none => some true
  | some (j, want) => match ops[j]? with
    | some oj => match oj.dst with
      | some d => if d < N then (match E.get d with
        | some (.bool b) => some (b == want)
        | some (.tuple _) => some false
        | _ => none) else none
      | none => none
    | none => none

/-- whom a call calls, with what -/
def callee (ρ : Operand → Option Value) (c : Call) : Option (FuncId × List Value) :=
  match c.callee with
  | .value x => match ρ x, evs ρ c.args.toList with
    | some (.func (.func f) first cap), some l => some (f, first.toList ++ l ++ cap.toList)
    | _, _ => none
  | _ => none

abbrev CallF := FuncId → List Value → Mem → Nat → Ans

def evOp (P : Program) (ρ : Operand → Option Value) (T : Mem) (n : Nat) (op : Op) : Ans :=
  match pureOp P ρ op with
  | some v => some (v, T, n)
  | none => match memOp1 P ρ T n op with
    | some r => some r
    | none => match memOp2 P ρ T n op with
      | some r => some r
      | none => memOp3 P ρ T n op

def stepOp (P : Program) (cl : CallF) (ρ : Operand → Option Value) (T : Mem) (n : Nat) (op : Op) : Ans :=
  match op with
  | .call c => match callee ρ c with
    | some (f, args) => cl f args T n
    | none => evOp P ρ T n op
  | _ => evOp P ρ T n op

section
variable {P : Program} {G : Orig} {w : World} {F : List SProp} {ι κ : List Spot} {T T1 : Mem} {ng N : Nat}

def GI (ng : Nat) (ι : List Spot) : Prop := ∀ g, g < ng → ι[g]? = some ⟨g, 0, none⟩
theorem GI.mono (h : GI ng ι) (hp : ι <+: κ) : GI ng κ := fun g hg => get_mono (h g hg) hp

structure EnvR (ι : List Spot) (N : Nat) (E : Tr Value) (a : Act) : Prop where
  size : a.tmps.size = N
  defers : a.defers = []
  get : ∀ t v, E.get t = some v → rn ι v = some (a.tmps.getD t undef)
theorem EnvR.mono {E : Tr Value} {a : Act} (h : EnvR ι N E a) (hp : ι <+: κ) : EnvR κ N E a := ⟨h.size, h.defers, fun t v hv => rn_mono' (h.get t v hv) hp⟩

theorem opnd_sound {E : Tr Value} {a : Act} (hE : EnvR ι N E a) (hG : GI ng ι) : ∀ x v, opnd ng E x = some v → rn ι v = some (a.eval x) := by
  intro x v h
  cases x with
  | tmp t => exact hE.get t v h
  | const c =>
    simp only [opnd] at h
    split at h
    · rename_i hp; cases h; exact rn_plain _ hp
    · cases h
  | global g =>
    simp only [opnd] at h
    split at h
    · rename_i hg
      cases h
      simp [rn, hG g hg, Act.eval]
    · cases h
  | func f =>
    simp only [opnd, Option.some.injEq] at h
    subst h
    simp [rn, rns, Act.eval]

theorem rn_undef : rn ι undef = some undef := by simp [undef, rn, rns]

theorem putL_sound {E E1 : Tr Value} {a : Act} {d : Option Tmp} {v rv : Value} (hE : EnvR ι N E a) (h : putL N E d v = some E1) (hv : rn ι v = some rv) : EnvR ι N E1 (a.put d rv) := by
  cases d with
  | none => simp only [putL, Option.some.injEq] at h; subst h; exact hE
  | some t =>
    simp only [putL] at h
    split at h
    · rename_i ht
      refine ⟨by simp [Act.put, hE.size], hE.defers, fun j u hu => ?_⟩
      rw [Tr.get_set h] at hu
      simp only [Act.put]
      split at hu
      · rename_i e
        cases hu
        subst e
        rw [hv]
        have : j < a.tmps.size := by rw [hE.size]; exact ht
        simp [this]
      · rename_i e
        rw [hE.get j u hu]
        have e' : t ≠ j := fun e1 => e e1.symm
        simp [Array.getElem?_setIfInBounds_ne e']
    · cases h

theorem wantedL_sound {E : Tr Value} {a : Act} (hE : EnvR ι N E a) {ops : Array Oper} {o : Oper} {b : Bool} (h : wantedL N ops E o = some b) : Region.wanted o (yielded ops a.tmps) = b := by
  unfold wantedL at h
  unfold Region.wanted
  split at h
  · rename_i hg; cases h; rw [hg]
  · rename_i j want hg
    rw [hg]
    simp only
    split at h
    · rename_i oj hj
      split at h
      · rename_i d hd
        split at h
        · rename_i hdN
          have hdt : a.tmps[d]? = some (a.tmps.getD d undef) := by
            have : d < a.tmps.size := by rw [hE.size]; exact hdN
            simp [this]
          split at h
          · rename_i b' hb'
            cases h
            have := hE.get d _ hb'
            simp only [rn, Option.some.injEq] at this
            have hy : yielded ops a.tmps j = some b' := by
              simp only [yielded, hj, Option.bind_some, hd, hdt, ← this]
            rw [hy]
            cases b' <;> cases want <;> rfl
          · rename_i vs hb'
            cases h
            have := hE.get d _ hb'
            simp only [rn, Option.map_eq_some_iff] at this
            obtain ⟨l, _, hl⟩ := this
            have hy : yielded ops a.tmps j = none := by
              simp only [yielded, hj, Option.bind_some, hd, hdt, ← hl]
            rw [hy]
            rfl
          · cases h
        · cases h
      · cases h
    · cases h

theorem evOp_sound {ρl : Operand → Option Value} {ρ : Operand → Value} (hρ : ∀ x v, ρl x = some v → rn ι v = some (ρ x)) (o : Oper) {v : Value} {n' : Nat} (H : Sat G w (emb ι T :: F)) (h : evOp P ρl T ι.length o.op = some (v, T1, n')) :
    ∃ rv w' κ, ι <+: κ ∧ κ.length = n' ∧ Gives ((execOp ρ o).run P w) rv w' ∧ rn κ v = some rv ∧ Sat G w' (emb κ T1 :: F) := by
  unfold evOp at h
  split at h
  · rename_i u hu
    cases h
    obtain ⟨rv, h1, h2⟩ := pureOp_sound hρ o hu w
    exact ⟨rv, w, ι, List.prefix_refl _, rfl, .inl h1, h2, H⟩
  · split at h
    · rename_i r hr
      cases h
      exact memOp1_sound hρ o H hr
    · split at h
      · rename_i r hr
        cases h
        exact memOp2_sound hρ o H hr
      · exact memOp3_sound hρ o H h

/-- What a call of the evaluator's says. -/
def CallOk (P : Program) (ng : Nat) (cl : CallF) : Prop := ∀ f args T n v T1 n1, cl f args T n = some (v, T1, n1) →
  (∃ fn c, P.funcs[f]? = some fn ∧ (fn.name == "runtime.NumGoroutine") = false ∧ fn.body = some c) ∧
  ∀ (ι : List Spot) (w : World) (F : List SProp) (G : Orig) (rargs : List Value), ι.length = n → GI ng ι → rns ι args = some rargs → Sat G w (emb ι T :: F) →
    Calls P f rargs.toArray w fun e w' => ∃ κ rv, ι <+: κ ∧ κ.length = n1 ∧ e = .returned rv ∧ rn κ v = some rv ∧ Sat G w' (emb κ T1 :: F)

theorem callee_sound {ρl : Operand → Option Value} {ρ : Operand → Value} (hρ : ∀ x v, ρl x = some v → rn ι v = some (ρ x)) {c : Call} {f : FuncId} {args : List Value} (h : callee ρl c = some (f, args)) (type : TypeId) (w : World)
    (hen : ∀ a, (callFunc f a).run P w = .ok (.enter f a) w) : ∃ rargs, rns ι args = some rargs ∧ (do let d ← resolve ρ c type; invoke d.target d.args : Sem Next).run P w = .ok (.enter f rargs.toArray) w := by
  obtain ⟨ce, ⟨cargs⟩, ts⟩ := c
  unfold callee at h
  simp only at h
  split at h
  · rename_i x
    split at h
    · rename_i f0 first cap l hx hl
      cases h
      have hx := hρ _ _ hx
      have hl := evs_sound hρ _ _ hl
      simp only [rn] at hx
      split at hx
      · rename_i a b ha hb
        cases hx' : ρ x with
        | func fn rf rc =>
          rw [hx'] at hx
          simp only [Option.some.injEq, Value.func.injEq] at hx
          obtain ⟨rfl, rfl, rfl⟩ := hx
          refine ⟨a ++ cargs.map ρ ++ b, rns_append.2 ⟨_, _, rns_append.2 ⟨_, _, ha, hl, rfl⟩, hb, rfl⟩, ?_⟩
          simp [resolve, hx', Deferred.ofValue, invoke, hen]
        | _ => rw [hx'] at hx; cases hx
      · cases hx
    · cases h
  · cases h

theorem stepOp_wp {cl : CallF} (hcl : CallOk P ng cl) (hG : GI ng ι) {ρl : Operand → Option Value} {a : Act} (hρ : ∀ x v, ρl x = some v → rn ι v = some (a.eval x)) (o : Oper) {v : Value} {n' : Nat} (H : Sat G w (emb ι T :: F))
    (h : stepOp P cl ρl T ι.length o.op = some (v, T1, n')) {next : Act → World → Prop} {Q : Exit → Act → World → Prop}
    (hk : ∀ rv w' κ, ι <+: κ → κ.length = n' → rn κ v = some rv → Sat G w' (emb κ T1 :: F) → next (a.put o.dst rv) w') : o.wp P a w next Q := by
  have plain : evOp P ρl T ι.length o.op = some (v, T1, n') → o.wp P a w next Q := by
    intro h
    obtain ⟨rv, w', κ, h1, h2, h3, h4, h5⟩ := evOp_sound hρ o H h
    unfold Oper.wp
    rcases h3 with h3 | ⟨h3, rfl⟩
    · rw [h3]; exact hk rv w' κ h1 h2 h4 h5
    · rw [h3]; exact hk undef w' κ h1 h2 h4 h5
  unfold stepOp at h
  split at h
  · rename_i c hc
    split at h
    · rename_i f args hca
      obtain ⟨⟨fn, cd, hf, hname, hb⟩, hcalls⟩ := hcl _ _ _ _ _ _ _ h
      obtain ⟨rargs, h1, h2⟩ := callee_sound (P := P) hρ hca o.type w fun a => by
        have h1 : fn.name ≠ "runtime.NumGoroutine" := by simpa using hname
        simp [callFunc, hf, h1, hb]
      have h3 := hcalls ι w F G rargs rfl hG h1 H
      unfold Oper.wp
      have : (execOp a.eval o).run P w = .ok (.enter f rargs.toArray) w := by
        simp only [execOp, hc]; exact h2
      rw [this, Oper.upon_enter]
      refine h3.mono ?_
      rintro e w' ⟨κ, rv, h4, h5, rfl, h6, h7⟩
      exact hk rv w' κ h4 h5 h6 h7
    · exact plain (by rw [hc]; first | exact h | (rw [hc] at h; exact h))
  · exact plain h
end
end Go.Ev
