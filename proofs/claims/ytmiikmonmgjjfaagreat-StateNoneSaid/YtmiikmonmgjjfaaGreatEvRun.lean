/- Closed runs by the kernel: regions, code, calls, by fuel. -/
import Derived.Test.YtmiikmonmgjjfaaGreatEvCode
namespace Go.Ev
open Go.Sx

def evList (P : Program) (cl : CallF) (ng N : Nat) (ops : Array Oper) : List Oper → St → Option St
  | [], st => some st
  | o :: rest, st => match wantedL N ops st.E o with
    | some true => match stepOp P cl (opnd ng st.E) st.T st.n o.op with
      | some (v, T1, n1) => match putL N st.E o.dst v with
        | some E1 => evList P cl ng N ops rest ⟨E1, T1, n1⟩
        | none => none
      | none => none
    | some false => match putL N st.E o.dst undef with
      | some E1 => evList P cl ng N ops rest ⟨E1, st.T, st.n⟩
      | none => none
    | none => none

def calmL (ρ : Operand → Option Value) (o : Oper) : Bool :=
  match o.op with
  | .binOp op _ x y _ => match ρ x, ρ y with
    | some vx, some vy => (calmV vx && calmV vy) || (nilC y && (match op with | .eql | .neq => true | _ => false))
    | _, _ => false
  | .convert _ _ x => match ρ x with
    | some v => calmV v
    | none => false
  | _ => true

structure Held where
  t : TypeId
  a : Value
  v : Value

def evDraw (P : Program) (cl : CallF) (ng N : Nat) (ops : Array Oper) (held : List Nat) (anc : List Nat) : Nat → List Oper → St → Option (St × List Held × List Mem)
  | _, [], st => some (st, [], [])
  | k, o :: rest, st => match wantedL N ops st.E o with
    | some true =>
      if held.contains k then
        match o.op with
        | .load t x => match opnd ng st.E x with
          | some a => match loadL P st.T t a with
            | some v => match putL N st.E o.dst v with
              | some E1 => match evDraw P cl ng N ops held anc (k + 1) rest ⟨E1, st.T, st.n⟩ with
                | some (st', hs, sn) => some (st', ⟨t, a, v⟩ :: hs, sn)
                | none => none
              | none => none
            | none => none
          | none => none
        | _ => none
      else if kindOf P o == .eff then
        match stepOp P cl (opnd ng st.E) st.T st.n o.op with
        | some (v, T1, n1) => match putL N st.E o.dst v with
          | some E1 => match evDraw P cl ng N ops held anc (k + 1) rest ⟨E1, T1, n1⟩ with
            | some (st', hs, sn) => some (st', hs, if needS anc held k then T1 :: sn else sn)
            | none => none
          | none => none
        | none => none
      else if calmL (opnd ng st.E) o then
        match stepOp P cl (opnd ng st.E) st.T st.n o.op with
        | some (v, T1, n1) => match putL N st.E o.dst v with
          | some E1 => evDraw P cl ng N ops held anc (k + 1) rest ⟨E1, T1, n1⟩
          | none => none
        | none => none
      else none
    | some false => match putL N st.E o.dst undef with
      | some E1 => evDraw P cl ng N ops held anc (k + 1) rest ⟨E1, st.T, st.n⟩
      | none => none
    | none => none

def heldIn (P : Program) (T : Mem) (h : Held) : Bool := match loadL P T h.t h.a with
  | some v => beqV v h.v
  | none => false

def evRegion (P : Program) (cl : CallF) (ng N : Nat) (ops : Array Oper) (draw : Bool) (held : List Nat) (st : St) : Option St :=
  if draw then match evDraw P cl ng N ops held (if held.isEmpty then [] else anc ops.toList) 0 ops.toList st with
    | some (st', hs, sn) => if hs.all (heldIn P st.T) && sn.all (fun T => hs.all (heldIn P T)) then some st' else none
    | none => none
  else evList P cl ng N ops ops.toList st

inductive Ex where
  | normal
  | exit (id : Nat)
  | ret

def Ex.to : Ex → Exit
  | .normal => .normal
  | .exit id => .exit id
  | .ret => .ret

def evC (P : Program) (cl : CallF) (ng : Nat) (hd : Nat → List Nat) (N : Nat) (ev : Code → St → Option (Ex × St)) (c : Code) (st : St) : Option (Ex × St) :=
  match c with
  | .skip => some (.normal, st)
  | .region id ops draw => match evRegion P cl ng N ops draw (hd id) st with
    | some st' => some (.normal, st')
    | none => none
  | .seq a b => match ev a st with
    | some (.normal, st') => ev b st'
    | r => r
  | .cond x a b => match opnd ng st.E x with
    | some (.bool true) => ev a st
    | some (.bool false) => ev b st
    | _ => none
  | .block id b => match ev b st with
    | some (.exit i, st') => if i = id then some (.normal, st') else some (.exit i, st')
    | r => r
  | .loop b => match ev b st with
    | some (.normal, st') => ev (.loop b) st'
    | r => r
  | .exit id => some (.exit id, st)
  | .ret => some (.ret, st)
  | _ => none

/-- Every region of the code that draws is one that the text's order serves. -/
def okC (P : Program) (hd : Nat → List Nat) : Code → Bool
  | .region id ops draw => !draw || okB P ops (hd id)
  | .seq a b => okC P hd a && okC P hd b
  | .cond _ a b => okC P hd a && okC P hd b
  | .block _ b => okC P hd b
  | .loop b => okC P hd b
  | _ => true

def setAll : Tr Value → Nat → List Value → Option (Tr Value)
  | E, _, [] => some E
  | E, k, v :: l => match E.set k v with
    | some E1 => setAll E1 (k + 1) l
    | none => none
def resL (P : Program) (E : Tr Value) (T : Mem) : List ResultVar → Option (List Value)
  | [] => some []
  | .tmp t :: l => match E.get t, resL P E T l with
    | some v, some r => some (v :: r)
    | _, _ => none
  | .cell a t :: l => match E.get a, resL P E T l with
    | some p, some r => match loadL P T t p with
      | some v => some (v :: r)
      | none => none
    | _, _ => none
def retL : List Value → Value
  | [v] => v
  | l => .tuple l.toArray

structure Cfg where
  P : Program
  ng : Nat
  held : FuncId → Nat → List Nat
  hook : FuncId → Option (List Value → Mem → Nat → Ans)
  good : FuncId → Bool

def evCall (C : Cfg) (run : FuncId → Nat → Code → St → Option (Ex × St)) : CallF := fun f args T n =>
  match C.hook f with
  | some g => g args T n
  | none => if C.good f then match C.P.funcs[f]? with
    | some fn => match fn.body with
      | some c =>
        let N := args.length + (fn.ntmps - args.length)
        match setAll (Tr.full undef (N.log2 + 1)) 0 args with
        | some E0 => match run f N c ⟨E0, T, n⟩ with
          | some (.normal, st) | some (.ret, st) => match resL C.P st.E st.T fn.results.toList with
            | some vs => some (retL vs, st.T, st.n)
            | none => none
          | _ => none
        | none => none
      | none => none
    | none => none
    else none

def run (C : Cfg) : Nat → FuncId → Nat → Code → St → Option (Ex × St)
  | 0 => fun _ _ _ _ => none
  | k + 1 => fun f N c st => evC C.P (evCall C (run C k)) C.ng (C.held f) N (run C k f N) c st

section
variable {P : Program} {G : Orig} {w : World} {F : List SProp} {ι κ : List Spot} {T T1 : Mem} {ng N : Nat}

/-- The activation and the world are as the evaluator's state says. -/
structure Rel (ng N : Nat) (G : Orig) (F : List SProp) (ι : List Spot) (st : St) (a : Act) (w : World) : Prop where
  env : EnvR ι N st.E a
  glob : GI ng ι
  len : ι.length = st.n
  sat : Sat G w (emb ι st.T :: F)

theorem stepOp_rel {cl : CallF} (hcl : CallOk P ng cl) {st : St} {a : Act} (R : Rel ng N G F ι st a w) (o : Oper) {v : Value} {T1 : Mem} {n1 : Nat} {E1 : Tr Value} (h : stepOp P cl (opnd ng st.E) st.T st.n o.op = some (v, T1, n1)) (hp : putL N st.E o.dst v = some E1)
    {next : Act → World → Prop} {Q : Exit → Act → World → Prop} (hk : ∀ a' w' κ, ι <+: κ → Rel ng N G F κ ⟨E1, T1, n1⟩ a' w' → next a' w') : o.wp P a w next Q := by
  rw [← R.len] at h
  refine stepOp_wp hcl R.glob (opnd_sound R.env R.glob) o R.sat h fun rv w' κ h1 h2 h3 h4 => hk _ _ κ h1 ⟨putL_sound (R.env.mono h1) hp h3, R.glob.mono h1, h2, h4⟩

theorem skip_rel {st : St} {a : Act} (R : Rel ng N G F ι st a w) (o : Oper) {E1 : Tr Value} (hp : putL N st.E o.dst undef = some E1) : Rel ng N G F ι ⟨E1, st.T, st.n⟩ (a.put o.dst undef) w :=
  ⟨putL_sound R.env hp rn_undef, R.glob, R.len, R.sat⟩

theorem evList_wp {cl : CallF} (hcl : CallOk P ng cl) {ops : Array Oper} {Q : Exit → Act → World → Prop} : ∀ (l : List Oper) (st st' : St) (ι : List Spot) (a : Act) (w : World), evList P cl ng N ops l st = some st' → Rel ng N G F ι st a w →
    (∀ a' w' κ, ι <+: κ → Rel ng N G F κ st' a' w' → Q .normal a' w') → wpList P ops Q l a w := by
  intro l
  induction l with
  | nil =>
    intro st st' ι a w h R hk
    simp only [evList, Option.some.injEq] at h
    subst h
    exact wpList_nil (hk a w ι (List.prefix_refl _) R)
  | cons o l ih =>
    intro st st' ι a w h R hk
    simp only [evList] at h
    refine wpList_step fun K hK => ?_
    split at h
    · rename_i hw
      rw [wantedL_sound R.env hw, if_pos rfl]
      split at h
      · rename_i v T1 n1 hs
        split at h
        · rename_i E1 hp
          exact stepOp_rel hcl R o hs hp fun a' w' κ h1 R' => hK _ _ (ih _ _ κ a' w' h R' fun a2 w2 κ2 h2 R2 => hk a2 w2 κ2 (h1.trans h2) R2)
        · cases h
      · cases h
    · rename_i hw
      rw [wantedL_sound R.env hw, if_neg (by simp)]
      split at h
      · rename_i E1 hp
        exact hK _ _ (ih _ _ ι _ w h (skip_rel R o hp) hk)
      · cases h
    · cases h

theorem calmL_sound {ρl : Operand → Option Value} {a : Act} (hρ : ∀ x v, ρl x = some v → rn ι v = some (a.eval x)) {o : Oper} (h : calmL ρl o = true) : calmOp a.eval o = true := by
  have calm : ∀ x v, ρl x = some v → calmV v = true → calmV (a.eval x) = true := fun x v hx hc => by
    have := hρ x v hx
    rw [calm_plain v hc] at this
    cases this
    exact hc
  obtain ⟨dst, op, type, pos, after, guard⟩ := o
  cases op <;> simp only [calmL, calmOp] at h ⊢
  case binOp p t x y u =>
    split at h
    · rename_i vx vy hx hy
      simp only [Bool.or_eq_true, Bool.and_eq_true] at h ⊢
      rcases h with ⟨h1, h2⟩ | h
      · exact .inl ⟨calm _ _ hx h1, calm _ _ hy h2⟩
      · exact .inr h
    · cases h
  case convert s d x =>
    split at h
    · rename_i v hx; exact calm _ _ hx h
    · cases h

/-- What a held load answers as long as 'S' holds. -/
def HeldOk (P : Program) (ι0 : List Spot) (S : World → Prop) (h : Held) : Prop := ∃ ra rv, rn ι0 h.a = some ra ∧ rn ι0 h.v = some rv ∧ ∀ w', S w' → (Instr.loadAt h.t ra).run P w' = .ok rv w'

theorem evDraw_wp {cl : CallF} (hcl : CallOk P ng cl) {ops : Array Oper} {held : List Nat} {S : World → Prop} {Q : Act → World → Prop} {ι0 : List Spot} {an : List Nat} (han : held ≠ [] → an = anc ops.toList) :
    ∀ (l : List Oper) (k : Nat) (st st' : St) (hs : List Held) (sn : List Mem) (ι : List Spot) (a : Act) (w : World), evDraw P cl ng N ops held an k l st = some (st', hs, sn) → Rel ng N G F ι st a w → ι0 <+: ι →
      (∀ h ∈ hs, HeldOk P ι0 S h) → (∀ T ∈ sn, ∀ κ w', ι0 <+: κ → Sat G w' (emb κ T :: F) → S w') → (held = [] → ∀ w', S w') →
      (∀ a' w' κ, ι <+: κ → Rel ng N G F κ st' a' w' → Q a' w') → wpL P ops S held Q k l a w := by
  intro l
  induction l with
  | nil =>
    intro k st st' hs sn ι a w h R _ _ _ _ hk
    simp only [evDraw, Option.some.injEq, Prod.mk.injEq] at h
    obtain ⟨rfl, rfl, rfl⟩ := h
    exact hk a w ι (List.prefix_refl _) R
  | cons o l ih =>
    intro k st st' hs sn ι a w h R h0 hA hB hN hk
    simp only [evDraw] at h
    split at h
    · rename_i hw
      have hw := wantedL_sound R.env hw
      split at h
      · rename_i hheld
        split at h
        · rename_i t x hop
          split at h
          · rename_i la hla
            split at h
            · rename_i v hv
              split at h
              · rename_i E1 hp
                split at h
                · rename_i st2 hs2 sn2 hrec
                  cases h
                  obtain ⟨ra, rv, g1, g2, g3⟩ := hA ⟨t, la, v⟩ (by simp)
                  simp only at g1 g2 g3
                  have hra := opnd_sound R.env R.glob _ _ hla
                  rw [rn_mono' g1 h0] at hra
                  cases hra
                  refine wpL_held rv hheld hw (fun w' hS => by simp only [execOp, hop, Sem.run_bind, g3 w' hS]; rfl) ?_
                  exact ih _ _ _ _ _ ι _ w hrec ⟨putL_sound R.env hp (rn_mono' g2 h0), R.glob, R.len, R.sat⟩ h0 (fun h hh => hA h (by simp [hh])) hB hN hk
                · cases h
              · cases h
            · cases h
          · cases h
        · cases h
      · rename_i hheld
        have hheld : held.contains k = false := by simpa using hheld
        split at h
        · rename_i hkind
          split at h
          · rename_i v T1 n1 hs1
            split at h
            · rename_i E1 hp
              split at h
              · rename_i st2 hs2 sn2 hrec
                simp only [Option.some.injEq, Prod.mk.injEq] at h
                obtain ⟨rfl, rfl, hsn⟩ := h
                cases hneed : needS (anc ops.toList) held k with
                | true =>
                  have hne : held ≠ [] := fun e => by rw [e] at hneed; simp [needS] at hneed
                  rw [han hne] at hsn
                  rw [if_pos hneed] at hsn
                  subst hsn
                  refine wpL_eff hheld hw hkind fun K hK => stepOp_rel hcl R o hs1 hp fun a' w' κ h1 R' => hK _ _ (hB T1 (by simp) κ w' (h0.trans h1) R'.sat) ?_
                  exact ih _ _ _ _ _ κ a' w' hrec R' (h0.trans h1) hA (fun T hT => hB T (by simp [hT])) hN fun a2 w2 κ2 h2 R2 => hk a2 w2 κ2 (h1.trans h2) R2
                | false =>
                  have hsub : ∀ T ∈ sn2, T ∈ sn := by
                    intro T hT
                    rw [← hsn]
                    split <;> simp [hT]
                  refine wpL_last hheld hw hkind hneed fun K hK => stepOp_rel hcl R o hs1 hp fun a' w' κ h1 R' => hK _ _ ?_
                  exact ih _ _ _ _ _ κ a' w' hrec R' (h0.trans h1) hA (fun T hT => hB T (hsub T hT)) hN fun a2 w2 κ2 h2 R2 => hk a2 w2 κ2 (h1.trans h2) R2
              · cases h
            · cases h
          · cases h
        · rename_i hkind
          split at h
          · rename_i hcalm
            split at h
            · rename_i v T1 n1 hs1
              split at h
              · rename_i E1 hp
                refine wpL_flat hheld hw (by simpa using hkind) (calmL_sound (opnd_sound R.env R.glob) hcalm) fun K hK => stepOp_rel hcl R o hs1 hp fun a' w' κ h1 R' => hK _ _ ?_
                exact ih _ _ _ _ _ κ a' w' h R' (h0.trans h1) hA hB hN fun a2 w2 κ2 h2 R2 => hk a2 w2 κ2 (h1.trans h2) R2
              · cases h
            · cases h
          · cases h
    · rename_i hw
      have hw := wantedL_sound R.env hw
      split at h
      · rename_i E1 hp
        exact wpL_skip hw (ih _ _ _ _ _ ι _ w h (skip_rel R o hp) h0 hA hB hN hk)
      · cases h
    · cases h

theorem heldIn_sound {h : Held} (hh : heldIn P T h = true) (H : Sat G w (emb κ T :: F)) {ra : Value} (ha : rn κ h.a = some ra) : ∃ rv, rn κ h.v = some rv ∧ (Instr.loadAt h.t ra).run P w = .ok rv w := by
  unfold heldIn at hh
  split at hh
  · rename_i v hv
    have := beqV_eq _ _ hh
    subst this
    obtain ⟨rv, h1, h2⟩ := loadL_sound (P := P) H hv ha
    exact ⟨rv, h2, h1⟩
  · cases hh
theorem heldIn_addr {h : Held} (hh : heldIn P T h = true) (H : Sat G w (emb κ T :: F)) : ∃ ra, rn κ h.a = some ra := by
  unfold heldIn at hh
  split at hh
  · rename_i v hv
    unfold loadL at hv
    split at hv
    · rename_i id off ha
      split at hv
      · rename_i c hc
        obtain ⟨o, ho, hc⟩ := viewL_sound hc
        obtain ⟨s, rc, h1, _⟩ := emb_cells H ho hc
        exact ⟨_, by rw [ha]; simp only [rn, h1, Option.map_some]; rfl⟩
      · cases hv
    · cases hv
  · cases hh

theorem evRegion_wp {cl : CallF} (hcl : CallOk P ng cl) (hm : P.follows .mixedOrders = true) {id : Nat} {ops : Array Oper} {draw : Bool} {held : List Nat} (hok : (!draw || okB P ops held) = true) {st st' : St} {a : Act} {Q : Exit → Act → World → Prop}
    (h : evRegion P cl ng N ops draw held st = some st') (R : Rel ng N G F ι st a w) (hk : ∀ a' w' κ, ι <+: κ → Rel ng N G F κ st' a' w' → Q .normal a' w') : (Code.region id ops draw).wp P Q a w := by
  unfold evRegion at h
  cases draw with
  | false => exact wp_region_list (evList_wp hcl _ _ _ ι a w h R hk)
  | true =>
    simp only [Bool.not_true, Bool.false_or] at hok
    simp only [if_true] at h
    split at h
    · rename_i st2 hs sn hd
      split at h
      · rename_i hall
        cases h
        simp only [Bool.and_eq_true, List.all_eq_true] at hall
        obtain ⟨hall1, hall2⟩ := hall
        let S : World → Prop := fun w' => ∀ h ∈ hs, ∃ ra rv, rn ι h.a = some ra ∧ rn ι h.v = some rv ∧ (Instr.loadAt h.t ra).run P w' = .ok rv w'
        have R' : Rel ng N G F ι st a w.drew := ⟨R.env, R.glob, R.len, R.sat.drew⟩
        have hS0 : S w.drew := fun h hh => by
          obtain ⟨ra, hra⟩ := heldIn_addr (hall1 h hh) R'.sat
          obtain ⟨rv, h1, h2⟩ := heldIn_sound (hall1 h hh) R'.sat hra
          exact ⟨ra, rv, hra, h1, h2⟩
        have hA : ∀ h ∈ hs, HeldOk P ι S h := fun h hh => by
          obtain ⟨ra, rv, h1, h2, _⟩ := hS0 h hh
          refine ⟨ra, rv, h1, h2, fun w' hS => ?_⟩
          obtain ⟨ra', rv', h3, h4, h5⟩ := hS h hh
          rw [h1] at h3; rw [h2] at h4
          cases h3; cases h4
          exact h5
        have hB : ∀ T ∈ sn, ∀ κ w', ι <+: κ → Sat G w' (emb κ T :: F) → S w' := fun T hT κ w' hp H h hh => by
          obtain ⟨ra, rv, h1, h2, _⟩ := hS0 h hh
          obtain ⟨rv', h3, h4⟩ := heldIn_sound (hall2 T hT h hh) H (rn_mono' h1 hp)
          rw [rn_mono' h2 hp] at h3
          cases h3
          exact ⟨ra, rv, h1, h2, h4⟩
        have hN : held = [] → ∀ w', S w' := by
          intro he w' h hh
          exfalso
          have : ∀ (l : List Oper) (k : Nat) (st st' : St) (hs : List Held) (sn : List Mem) (an : List Nat), evDraw P cl ng N ops held an k l st = some (st', hs, sn) → hs = [] := by
            intro l
            induction l with
            | nil => intro k st st' hs sn an h; simp only [evDraw, Option.some.injEq, Prod.mk.injEq] at h; exact h.2.1.symm
            | cons o l ih =>
              intro k st st' hs sn an h
              simp only [evDraw] at h
              split at h
              · split at h
                · rename_i hc; rw [he] at hc; simp at hc
                · split at h
                  · split at h
                    · split at h
                      · split at h
                        · rename_i hrec
                          simp only [Option.some.injEq, Prod.mk.injEq] at h
                          rw [← h.2.1]
                          exact ih _ _ _ _ _ _ hrec
                        · cases h
                      · cases h
                    · cases h
                  · split at h
                    · split at h
                      · split at h
                        · exact ih _ _ _ _ _ _ h
                        · cases h
                      · cases h
                    · cases h
              · split at h
                · exact ih _ _ _ _ _ _ h
                · cases h
              · cases h
          rw [this _ _ _ _ _ _ _ hd] at hh
          cases hh
        obtain ⟨l⟩ := ops
        refine wp_region_held S held hm hok hS0 ?_
        exact evDraw_wp hcl (fun hne => by
          have : held.isEmpty = false := by cases held with
            | nil => exact absurd rfl hne
            | cons _ _ => rfl
          rw [this]; rfl) l 0 st st' hs sn ι a w.drew hd R' (List.prefix_refl _) hA hB hN hk
      · cases h
    · cases h

/-- What the evaluator of code says. -/
def CodeOk (P : Program) (ng N : Nat) (hd : Nat → List Nat) (ev : Code → St → Option (Ex × St)) : Prop := ∀ c st e st', okC P hd c = true → ev c st = some (e, st') →
  ∀ (ι : List Spot) (G : Orig) (F : List SProp) (a : Act) (w : World) (Q : Exit → Act → World → Prop), Rel ng N G F ι st a w → (∀ a' w' κ, ι <+: κ → Rel ng N G F κ st' a' w' → Q e.to a' w') → c.wp P Q a w

theorem wp_loop_n {Q : Exit → Act → World → Prop} {c : Code} {a : Act} {n : Nat} (I : Nat → Act → World → Prop) (h₀ : I n a w)
    (round : ∀ n a w, I n a w → c.wp P (Exit.then (fun a' w' => ∃ m, m < n ∧ I m a' w') Q) a w) : (Code.loop c).wp P Q a w := by
  intro b k cs
  have key : ∀ n a w, I n a w → ∃ e a' w', Q e a' w' ∧ Arrives P (lone (b.at a (.code c :: .inLoop c :: k)) cs w) b k cs e a' w' := by
    intro n
    induction n using Nat.strongRecOn with
    | _ n ih =>
      intro a w hI
      obtain ⟨e, a₁, w₁, hq, harr⟩ := round n a w hI b (.inLoop c :: k) cs
      cases e with
      | normal =>
        obtain ⟨m, hm, hI₁⟩ := hq
        obtain ⟨e₂, a₂, w₂, hq₂, harr₂⟩ := ih m hm a₁ w₁ hI₁
        exact ⟨e₂, a₂, w₂, hq₂, .of_steps (Steps.trans harr (.one step_inLoop)) harr₂⟩
      | exit id => exact ⟨_, a₁, w₁, hq, .pass (x := .inLoop c) rfl (fun _ _ => .inl (by simp)) harr⟩
      | goto l => exact ⟨_, a₁, w₁, hq, .pass (x := .inLoop c) rfl (fun _ _ => .inl (by simp)) harr⟩
      | ret => exact ⟨_, a₁, w₁, hq, .pass (x := .inLoop c) rfl (fun _ _ => .inl (by simp)) harr⟩
      | panic ch => exact ⟨_, a₁, w₁, hq, .pass (x := .inLoop c) rfl (fun _ _ => .inl (by simp)) harr⟩
      | outgrown => exact ⟨_, a₁, w₁, hq, .pass (x := .inLoop c) rfl (fun _ _ => .inl (by simp)) harr⟩
  obtain ⟨e, a', w', hq, harr⟩ := key n a w h₀
  exact ⟨e, a', w', hq, .of_steps (.one step_loop) harr⟩

/-- What is asked of a program, its hooks and its tables. -/
structure Cfg.Ok (C : Cfg) : Prop where
  mixed : C.P.follows .mixedOrders = true
  hooks : ∀ f g, C.hook f = some g → CallOk C.P C.ng fun f' args T n => if f' = f then g args T n else none
  funcs : ∀ f fn c, C.good f = true → C.P.funcs[f]? = some fn → fn.body = some c → (fn.name == "runtime.NumGoroutine") = false ∧ okC C.P (C.held f) c = true

theorem code_step {C : Cfg} (hC : C.Ok) {f : FuncId} (k : Nat) (hcl : CallOk C.P C.ng (evCall C (run C k))) (ih : ∀ j, j ≤ k → CodeOk C.P C.ng N (C.held f) (run C j f N)) : CodeOk C.P C.ng N (C.held f) (run C (k + 1) f N) := by
  intro c st e st' hok h ι G F a w Q R hk
  have ihk := ih k (Nat.le_refl k)
  unfold run evC at h
  split at h
  · cases h
    exact wp_skip (hk a w ι (List.prefix_refl _) R)
  · rename_i id ops draw
    split at h
    · rename_i st2 hr
      cases h
      simp only [okC] at hok
      exact evRegion_wp hcl hC.mixed hok hr R hk
    · cases h
  · rename_i x y
    simp only [okC, Bool.and_eq_true] at hok
    refine wp_seq ?_
    split at h
    · rename_i st1 h1
      exact ihk x st .normal st1 hok.1 h1 ι G F a w _ R fun a1 w1 κ h2 R1 => ihk y st1 e st' hok.2 h κ G F a1 w1 Q R1 fun a2 w2 κ2 h3 R2 => hk a2 w2 κ2 (h2.trans h3) R2
    · rename_i hne
      refine ihk x st e st' hok.1 h ι G F a w _ R fun a1 w1 κ h2 R1 => ?_
      cases e with
      | normal => exact absurd h (hne st')
      | exit id => exact hk a1 w1 κ h2 R1
      | ret => exact hk a1 w1 κ h2 R1
  · rename_i x y z
    simp only [okC, Bool.and_eq_true] at hok
    split at h
    · rename_i hx
      have := opnd_sound R.env R.glob _ _ hx
      simp only [rn, Option.some.injEq] at this
      exact wp_cond_true this.symm (ihk y st e st' hok.1 h ι G F a w Q R hk)
    · rename_i hx
      have := opnd_sound R.env R.glob _ _ hx
      simp only [rn, Option.some.injEq] at this
      exact wp_cond_false this.symm (ihk z st e st' hok.2 h ι G F a w Q R hk)
    · cases h
  · rename_i id b
    simp only [okC] at hok
    refine wp_block ?_
    split at h
    · rename_i i st1 h1
      refine ihk b st (.exit i) st1 hok h1 ι G F a w _ R fun a1 w1 κ h2 R1 => ?_
      simp only [Ex.to, Exit.inBlock]
      split at h
      · rename_i hi
        cases h
        rw [if_pos hi]
        exact hk a1 w1 κ h2 R1
      · rename_i hi
        cases h
        rw [if_neg hi]
        exact hk a1 w1 κ h2 R1
    · rename_i hne
      refine ihk b st e st' hok h ι G F a w _ R fun a1 w1 κ h2 R1 => ?_
      cases e with
      | normal => exact hk a1 w1 κ h2 R1
      | exit id => exact absurd h (hne id st')
      | ret => exact hk a1 w1 κ h2 R1
  · rename_i b
    simp only [okC] at hok
    have hloop : run C (k + 1) f N (.loop b) st = some (e, st') := by
      unfold run evC
      exact h
    refine wp_loop_n (n := k + 1) (fun n a w => n ≤ k + 1 ∧ ∃ st κ, ι <+: κ ∧ Rel C.ng N G F κ st a w ∧ run C n f N (.loop b) st = some (e, st')) ⟨Nat.le_refl _, st, ι, List.prefix_refl _, R, hloop⟩ ?_
    rintro n a1 w1 ⟨hn, st1, κ, h1, R1, h2⟩
    cases n with
    | zero => simp [run] at h2
    | succ n =>
      unfold run evC at h2
      simp only at h2
      have ihn := ih n (by omega)
      split at h2
      · rename_i st2 h3
        exact ihn b st1 .normal st2 hok h3 κ G F a1 w1 _ R1 fun a2 w2 κ2 h4 R2 => ⟨n, by omega, by omega, st2, κ2, h1.trans h4, R2, h2⟩
      · rename_i hne
        refine ihn b st1 e st' hok h2 κ G F a1 w1 _ R1 fun a2 w2 κ2 h4 R2 => ?_
        cases e with
        | normal => exact absurd h2 (hne st')
        | exit id => exact hk a2 w2 κ2 (h1.trans h4) R2
        | ret => exact hk a2 w2 κ2 (h1.trans h4) R2
  · cases h
    exact wp_exit (hk a w ι (List.prefix_refl _) R)
  · cases h
    exact wp_ret (hk a w ι (List.prefix_refl _) R)
  · cases h
end
end Go.Ev
