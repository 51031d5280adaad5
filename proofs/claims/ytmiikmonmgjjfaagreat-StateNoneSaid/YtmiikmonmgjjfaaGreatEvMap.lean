/- Closed runs by the kernel: maps. -/
import Derived.Test.YtmiikmonmgjjfaaGreatEvMem2
namespace Go.Ev
open Go.Sx

/-! ### Equal values -/

mutual
def beqV : Value → Value → Bool
  | .bool a, .bool b => a == b
  | .int k a, .int k' b => decide (k = k') && decide (a = b)
  | .string a, .string b => a.data.toList == b.data.toList
  | .pointer none, .pointer none => true
  | .pointer (some ⟨i, o, none⟩), .pointer (some ⟨j, p, none⟩) => i == j && o == p
  | .slice none n c, .slice none m d => n == m && c == d
  | .slice (some ⟨i, o, none⟩) n c, .slice (some ⟨j, p, none⟩) m d => i == j && o == p && n == m && c == d
  | .map none, .map none => true
  | .map (some i), .map (some j) => i == j
  | .nilFunc, .nilFunc => true
  | .nilIface, .nilIface => true
  | .agg a, .agg b => beqA a.toList b.toList
  | .tuple a, .tuple b => beqA a.toList b.toList
  | _, _ => false
def beqA : List Value → List Value → Bool
  | [], [] => true
  | v :: l, u :: r => beqV v u && beqA l r
  | _, _ => false
end

mutual
theorem beqV_eq (v u : Value) (h : beqV v u = true) : v = u := by
  match v with
  | .agg a =>
    cases u with
    | agg b => simp only [beqV] at h; congr 1; exact Array.ext' (beqA_eq a.toList b.toList h)
    | _ => simp [beqV] at h
  | .tuple a =>
    cases u with
    | tuple b => simp only [beqV] at h; congr 1; exact Array.ext' (beqA_eq a.toList b.toList h)
    | _ => simp [beqV] at h
  | .string a =>
    cases u with
    | string b => simp only [beqV, beq_iff_eq] at h; congr 1; exact ByteArray.ext (Array.ext' h)
    | _ => simp [beqV] at h
  | .bool a => cases u <;> simp [beqV] at h; rw [h]
  | .int k a => cases u <;> simp [beqV] at h; rw [h.1, h.2]
  | .pointer none =>
    cases u with
    | pointer b => cases b with
      | none => rfl
      | some b => simp [beqV] at h
    | _ => simp [beqV] at h
  | .pointer (some ⟨i, o, none⟩) =>
    cases u with
    | pointer b => cases b with
      | none => simp [beqV] at h
      | some b =>
        obtain ⟨j, p, sp⟩ := b
        cases sp <;> simp [beqV] at h
        rw [h.1, h.2]
    | _ => simp [beqV] at h
  | .slice none n c =>
    cases u with
    | slice b m d => cases b with
      | none => simp [beqV] at h; rw [h.1, h.2]
      | some b => simp [beqV] at h
    | _ => simp [beqV] at h
  | .slice (some ⟨i, o, none⟩) n c =>
    cases u with
    | slice b m d => cases b with
      | none => simp [beqV] at h
      | some b =>
        obtain ⟨j, p, sp⟩ := b
        cases sp <;> simp [beqV] at h
        rw [h.1.1.1, h.1.1.2, h.1.2, h.2]
    | _ => simp [beqV] at h
  | .map none =>
    cases u with
    | map b => cases b with
      | none => rfl
      | some b => simp [beqV] at h
    | _ => simp [beqV] at h
  | .map (some i) =>
    cases u with
    | map b => cases b with
      | none => simp [beqV] at h
      | some b => simp [beqV] at h; rw [h]
    | _ => simp [beqV] at h
  | .nilFunc => cases u <;> simp [beqV] at h; rfl
  | .nilIface => cases u <;> simp [beqV] at h; rfl
  | .float _ _ | .complex _ _ _ | .chan _ | .func _ _ _ | .iface _ _ | .pointer (some ⟨_, _, some _⟩) | .slice (some ⟨_, _, some _⟩) _ _ => simp [beqV] at h
theorem beqA_eq (l r : List Value) (h : beqA l r = true) : l = r := by
  match l, r with
  | [], [] => rfl
  | v :: l, u :: r =>
    simp only [beqA, Bool.and_eq_true] at h
    rw [beqV_eq v u h.1, beqA_eq l r h.2]
  | [], _ :: _ => simp [beqA] at h
  | _ :: _, [] => simp [beqA] at h
end

def sameL : TypeDesc → Value → Value → Option Bool
  | .int _, .int k a, .int k' b => if k = k' then some (a == b) else none
  | .string, .string a, .string b => some (a.data.toList == b.data.toList)
  | .bool, .bool a, .bool b => some (a == b)
  | _, _, _ => none
def findNowL (d : TypeDesc) (k : Value) : List (Value × Value) → Nat → Option (Option Nat)
  | [], _ => some none
  | e :: es, i => match sameL d k e.1 with
    | some true => some (some i)
    | some false => findNowL d k es (i + 1)
    | none => none
def findAskL (P : Program) (kt : TypeId) (k : Value) : List (Value × Value) → Nat → Option (Option Nat)
  | [], _ => some none
  | e :: es, i => if calmV e.1 then match (Op.equal kt k e.1).run P default with
    | .ok true _ => some (some i)
    | .ok false _ => findAskL P kt k es (i + 1)
    | _ => none
    else none
def findL (P : Program) (kt : TypeId) (k : Value) (es : List (Value × Value)) : Option (Option Nat) :=
  match P.underlying kt with
  | some (.struct _) => if calmV k then findAskL P kt k es 0 else none
  | some d => findNowL d k es 0
  | none => none
def plainT (P : Program) (t : TypeId) : Bool := match P.underlying t with
  | some (.int _) | some .string | some .bool => true
  | _ => false
def ckL (P : Program) (kt : TypeId) (k : Value) : Bool := match P.underlying kt, k with
  | some (.int _), _ | some .string, _ | some .bool, _ => true
  | some (.struct fs), .agg cs => fs.toList.all fun f => plainT P f.type && (partL P f.type cs.toList f.offset).isSome
  | _, _ => false
def zeroVL (P : Program) (t : TypeId) : Option Value := match P.info? t with
  | some i => match i.zero with
    | some z => if plainV z then some z else none
    | none => none
  | none => none
def entriesL (T : Mem) : Value → Option (List (Value × Value))
  | .map none => some []
  | .map (some id) => match T.get id with
    | some (.map es) => some es
    | _ => none
  | _ => none

def newKey (es : List (Value × Value)) (k : Value) : Bool := calmV k && beqV k k && es.all fun e => calmV e.1 && !(beqV e.1 k)
def hintL (P : Program) (ρ : Operand → Option Value) (t : TypeId) : Option Operand → Bool
  | none => true
  | some x => match P.underlying t, ρ x with
    | some (.map _ _), some (.int _ _) => true
    | _, _ => false

def memOp3 (P : Program) (ρ : Operand → Option Value) (T : Mem) (n : Nat) : Op → Ans
  | .makeMap t r => if hintL P ρ t r then match newL T n (.map []) with
      | some T1 => some (.map (some n), T1, n + 1)
      | none => none
    else none
  | .lookup xt x ix ok => match P.underlying xt, ρ x, ρ ix with
    | some (.map kt et), some xv, some k => match entriesL T xv with
      | some es => if ckL P kt k then match findL P kt k es with
          | some (some j) => match es[j]? with
            | some e => some (if ok then .tuple #[e.2, .bool true] else e.2, T, n)
            | none => none
          | some none => match zeroVL P et with
            | some z => some (if ok then .tuple #[z, .bool false] else z, T, n)
            | none => none
          | none => none
        else none
      | none => none
    | _, _, _ => none
  | .mapUpdate t m k x | .insert t m k x => match P.underlying t, ρ m, ρ k, ρ x with
    | some (.map kt _), some (.map (some id)), some k, some v => match T.get id with
      | some (.map es) => if ckL P kt k then match findL P kt k es with
          | some (some j) => match es[j]? with
            | some e => if calmV e.1 && calmV k && Instr.sameBits 10000 e.1 k && beqV e.1 k then match T.set id (.map (es.set j (k, v))) with
                | some T1 => some (undef, T1, n)
                | none => none
              else none
            | none => none
          | some none => if newKey es k then match T.set id (.map (es ++ [(k, v)])) with
              | some T1 => some (undef, T1, n)
              | none => none
            else none
          | none => none
        else none
      | _ => none
    | _, _, _, _ => none
  | .call c => match c.callee, c.args.toList, c.argTypes.toList with
    | .builtin .delete, [m, k], t :: _ => match P.underlying t, ρ m, ρ k with
      | some (.map kt _), some (.map none), some k => if ckL P kt k then some (.tuple #[], T, n) else none
      | some (.map kt _), some (.map (some id)), some k => match T.get id with
        | some (.map es) => if ckL P kt k then match findL P kt k es with
            | some (some j) => match T.set id (.map (es.eraseIdx j)) with
              | some T1 => some (.tuple #[], T1, n)
              | none => none
            | some none => some (.tuple #[], T, n)
            | none => none
          else none
        | _ => none
      | _, _, _ => none
    | .builtin .len, [x], t :: _ => match P.underlying t, ρ x with
      | some (.map _ _), some v => match entriesL T v with
        | some es => some (.int .i64 es.length, T, n)
        | none => none
      | _, _ => none
    | .builtin .clear, [x], t :: _ => match P.underlying t, ρ x with
      | some (.map _ _), some (.map none) => some (.tuple #[], T, n)
      | some (.map _ _), some (.map (some id)) => match T.get id with
        | some (.map _) => match T.set id (.map []) with
          | some T1 => some (.tuple #[], T1, n)
          | none => none
        | _ => none
      | _, _ => none
    | _, _, _ => none
  | _ => none

section
variable {P : Program} {G : Orig} {w : World} {F : List SProp} {ι κ : List Spot} {T T1 : Mem}

theorem sameL_sound {d : TypeDesc} {k e rk re : Value} {b : Bool} (h : sameL d k e = some b) (hk : rn ι k = some rk) (he : rn ι e = some re) : Instr.sameNow d rk re = some b := by
  unfold sameL at h
  split at h
  · simp only [rn, Option.some.injEq] at hk he
    subst hk; subst he
    exact h
  · simp only [rn, Option.some.injEq] at hk he
    subst hk; subst he
    simp only [Instr.sameNow]
    rw [← h]
    congr 1
    rw [Bool.eq_iff_iff, MapKept.bytes_beq, beq_iff_eq]
    exact ⟨fun h => by rw [h], fun h => ByteArray.ext (Array.ext' h)⟩
  · simp only [rn, Option.some.injEq] at hk he
    subst hk; subst he
    exact h
  · cases h

theorem pairs_nil {es : List (Value × Value)} (h : pairs ι es []) : es = [] := by
  have := rns_length h.1
  simpa using this.symm
theorem pairs_cons {e : Value × Value} {es : List (Value × Value)} {res : List MapEntry} (h : pairs ι (e :: es) res) : ∃ re res', res = re :: res' ∧ rn ι e.1 = some re.key ∧ rn ι e.2 = some re.val ∧ pairs ι es res' := by
  obtain ⟨h1, h2⟩ := h
  obtain ⟨a, b, h3, h4, h5⟩ := rns_cons.1 h1
  cases res with
  | nil => simp at h5
  | cons re res =>
    simp only [List.map_cons, List.cons.injEq] at h5
    obtain ⟨rfl, rfl⟩ := h5
    obtain ⟨a, b, h6, h7, h8⟩ := rns_cons.1 h2
    simp only [List.map_cons, List.cons.injEq] at h8
    obtain ⟨rfl, rfl⟩ := h8
    exact ⟨re, res, rfl, h3, h6, h4, h7⟩

/-- What is found, of both lists. -/
def Found (ι : List Spot) (es : List (Value × Value)) (res : List MapEntry) (i : Nat) (r : Option Nat) (o : Option (Nat × Value)) : Prop :=
  (r = none → o = none) ∧ ∀ j, r = some j → i ≤ j ∧ ∃ e re, es[j - i]? = some e ∧ res[j - i]? = some re ∧ rn ι e.1 = some re.key ∧ rn ι e.2 = some re.val ∧ o = some (j, re.val)

theorem Found.none {es : List (Value × Value)} {res : List MapEntry} {i : Nat} : Found ι es res i Option.none Option.none := ⟨fun _ => rfl, fun j h => by cases h⟩
theorem Found.here {e : Value × Value} {re : MapEntry} {es : List (Value × Value)} {res : List MapEntry} {i : Nat} (h1 : rn ι e.1 = some re.key) (h2 : rn ι e.2 = some re.val) : Found ι (e :: es) (re :: res) i (some i) (some (i, re.val)) :=
  ⟨fun h => (by cases h), fun j h => (by cases h; exact ⟨Nat.le_refl _, e, re, by simp, by simp, h1, h2, rfl⟩)⟩
theorem Found.later {e : Value × Value} {re : MapEntry} {es : List (Value × Value)} {res : List MapEntry} {i : Nat} {r : Option Nat} {o : Option (Nat × Value)} (h : Found ι es res (i + 1) r o) : Found ι (e :: es) (re :: res) i r o :=
  ⟨h.1, fun j hj => by
    obtain ⟨h1, e', re', h2, h3, h4⟩ := h.2 j hj
    have e1 : j - i = (j - (i + 1)) + 1 := by omega
    exact ⟨by omega, e', re', by rw [e1, List.getElem?_cons_succ]; exact h2, by rw [e1, List.getElem?_cons_succ]; exact h3, h4⟩⟩

theorem findNowL_sound {d : TypeDesc} {k rk : Value} (hk : rn ι k = some rk) : ∀ (es : List (Value × Value)) (res : List MapEntry) (i : Nat) (r : Option Nat), pairs ι es res → findNowL d k es i = some r →
    ∃ o, Instr.findNow d rk res i = some o ∧ Found ι es res i r o := by
  intro es
  induction es with
  | nil =>
    intro res i r hp h
    have := rns_length hp.1
    simp only [List.map_nil, List.length_nil, List.length_map] at this
    obtain rfl := List.length_eq_zero_iff.1 this
    simp only [findNowL, Option.some.injEq] at h
    subst h
    exact ⟨none, rfl, Found.none⟩
  | cons e es ih =>
    intro res i r hp h
    obtain ⟨re, res', rfl, h1, h2, h3⟩ := pairs_cons hp
    simp only [findNowL] at h
    split at h
    · rename_i hs
      cases h
      exact ⟨some (i, re.val), by simp only [Instr.findNow, sameL_sound hs hk h1], Found.here h1 h2⟩
    · rename_i hs
      obtain ⟨o, h4, h5⟩ := ih res' (i + 1) r h3 h
      exact ⟨o, by simp only [Instr.findNow, sameL_sound hs hk h1]; exact h4, h5.later⟩
    · cases h

theorem findAskL_sound {kt : TypeId} {k : Value} (hc : calmV k = true) : ∀ (es : List (Value × Value)) (res : List MapEntry) (i : Nat) (r : Option Nat), pairs ι es res → findAskL P kt k es i = some r →
    ∃ o, (∀ w, (Instr.findAsking kt k res i).run P w = .ok o w) ∧ Found ι es res i r o := by
  intro es
  induction es with
  | nil =>
    intro res i r hp h
    have := rns_length hp.1
    simp only [List.map_nil, List.length_nil, List.length_map] at this
    obtain rfl := List.length_eq_zero_iff.1 this
    simp only [findAskL, Option.some.injEq] at h
    subst h
    exact ⟨none, fun w => rfl, Found.none⟩
  | cons e es ih =>
    intro res i r hp h
    obtain ⟨re, res', rfl, h1, h2, h3⟩ := pairs_cons hp
    simp only [findAskL] at h
    split at h
    · rename_i hce
      have hke : re.key = e.1 := by
        rw [rn_plain _ (calm_plainV _ hce)] at h1
        exact (Option.some.inj h1).symm
      have hob : ∀ b w0, (Op.equal kt k e.1).run P default = .ok b w0 → ∀ w, (Op.equal kt k e.1).run P w = .ok b w := by
        intro b w0 hr w
        rcases Ob.equalIn (P := P) Op.maxDepth kt k e.1 hc hce with ⟨a, ha⟩ | hn
        · have := ha default
          unfold Op.equal at hr ⊢
          rw [hr] at this
          cases this
          exact ha w
        · exact absurd hr (hn _ _ _)
      split at h
      · rename_i hr
        cases h
        refine ⟨some (i, re.val), fun w => ?_, Found.here h1 h2⟩
        simp only [Instr.findAsking, Sem.run_bind, hke, hob _ _ hr w, Result.andThen_ok, if_true, Sem.run_pure]
      · rename_i hr
        obtain ⟨o, h4, h5⟩ := ih res' (i + 1) r h3 h
        refine ⟨o, fun w => ?_, h5.later⟩
        simp only [Instr.findAsking, Sem.run_bind, hke, hob _ _ hr w, Result.andThen_ok, Bool.false_eq_true, if_false]
        exact h4 w
      · cases h
    · cases h

theorem findL_sound {kt : TypeId} {k rk : Value} (hk : rn ι k = some rk) {es : List (Value × Value)} {res : List MapEntry} {r : Option Nat} (hp : pairs ι es res) (h : findL P kt k es = some r) :
    ∃ o, (∀ w, (Instr.findKey kt rk res).run P w = .ok o w) ∧ Found ι es res 0 r o := by
  unfold findL at h
  split at h
  · rename_i fs hu
    split at h
    · rename_i hc
      rw [rn_plain _ (calm_plainV _ hc)] at hk
      cases hk
      obtain ⟨o, h1, h2⟩ := findAskL_sound (P := P) hc es res 0 r hp h
      refine ⟨o, fun w => ?_, h2⟩
      simp only [Instr.findKey, Sem.run_bind, run_und hu, Result.andThen_ok]
      cases res with
      | nil =>
        have := h1 w
        simp only [Instr.findAsking] at this
        simpa [Instr.findNow] using this
      | cons re res =>
        simp only [Instr.findNow, Instr.sameNow]
        exact h1 w
    · cases h
  · rename_i d hns hu
    obtain ⟨o, h1, h2⟩ := findNowL_sound hk es res 0 r hp h
    refine ⟨o, fun w => ?_, h2⟩
    simp only [Instr.findKey, Sem.run_bind, run_und hu, Result.andThen_ok, h1, Sem.run_pure]
  · cases h

theorem plainT_ck {t : TypeId} {v : Value} (h : plainT P t = true) (em : Bool) (n : Nat) (w : World) : (Instr.checkKey em (n + 1) t v).run P w = .ok () w := by
  unfold plainT at h
  split at h
  · rename_i hu; unfold Instr.checkKey; simp only [Sem.run_bind, run_und hu, Result.andThen_ok]; rfl
  · rename_i hu; unfold Instr.checkKey; simp only [Sem.run_bind, run_und hu, Result.andThen_ok]; rfl
  · rename_i hu; unfold Instr.checkKey; simp only [Sem.run_bind, run_und hu, Result.andThen_ok]; rfl
  · cases h

theorem ckL_sound {kt : TypeId} {k rk : Value} (hk : rn ι k = some rk) (h : ckL P kt k = true) (em : Bool) (w : World) : (Instr.checkKey em 10000 kt rk).run P w = .ok () w := by
  unfold ckL at h
  split at h
  · rename_i hu; exact plainT_ck (by simp [plainT, hu]) em 9999 w
  · rename_i hu; exact plainT_ck (by simp [plainT, hu]) em 9999 w
  · rename_i hu; exact plainT_ck (by simp [plainT, hu]) em 9999 w
  · rename_i fs cs hu
    simp only [rn, Option.map_eq_some_iff] at hk
    obtain ⟨rcs, hrcs, rfl⟩ := hk
    rw [show (10000 : Nat) = 9999 + 1 from rfl]
    unfold Instr.checkKey
    simp only [Sem.run_bind, run_und hu, Result.andThen_ok, ← Array.forIn_toList]
    simp only [List.all_eq_true, Bool.and_eq_true] at h
    have key : ∀ (l : List Field), (∀ f ∈ l, plainT P f.type = true ∧ (partL P f.type cs.toList f.offset).isSome = true) →
        (forIn l PUnit.unit (fun (f : Field) (_ : PUnit) => (if f.name ≠ "_" then (do Instr.checkKey em 9999 f.type (← part f.type rcs.toArray f.offset); Pure.pure (ForInStep.yield PUnit.unit)) else Pure.pure (ForInStep.yield PUnit.unit) : Sem (ForInStep PUnit)))).run P w = .ok PUnit.unit w := by
      intro l
      induction l with
      | nil => intro _; rfl
      | cons f l ih =>
        intro hl
        have hf := hl f (by simp)
        obtain ⟨pv, hpv⟩ := Option.isSome_iff_exists.1 hf.2
        obtain ⟨rv, hrv, _⟩ := partL_sound (P := P) hpv hrcs w
        rw [List.forIn_cons]
        by_cases hn : f.name ≠ "_"
        · simp only [if_pos hn, Sem.run_bind, hrv, Result.andThen_ok]
          rw [plainT_ck hf.1 em 9998 w]
          simp only [Result.andThen_ok, Sem.run_pure]
          exact ih fun g hg => hl g (by simp [hg])
        · simp only [if_neg hn, Sem.run_bind, Sem.run_pure, Result.andThen_ok]
          exact ih fun g hg => hl g (by simp [hg])
    rw [key fs.toList h]
    rfl
  · cases h

theorem zeroVL_sound {t : TypeId} {z : Value} (h : zeroVL P t = some z) (w : World) : (zeroValue t).run P w = .ok z w ∧ rn ι z = some z := by
  unfold zeroVL at h
  split at h
  · rename_i i hi
    split at h
    · rename_i v hv
      split at h
      · rename_i hp
        cases h
        exact ⟨by simp [zeroValue, typeInfo, hi, hv], rn_plain _ hp⟩
      · cases h
    · cases h
  · cases h

/-- A map of local memory. -/
theorem emb_map (H : Sat G w (emb ι T :: F)) {id : Nat} {es : List (Value × Value)} (hk : T.get id = some (.map es)) :
    ∃ b clock res, ι[id]? = some ⟨b, 0, none⟩ ∧ (pairs ι es res.toList ∧ MapKept.Stamped res clock) ∧ w.heap[b]? = some (.map res clock) ∧
      ∀ (es1 : List (Value × Value)) (res1 : Array MapEntry) (clock1 : Nat) (T1 : Mem), T.set id (.map es1) = some T1 → pairs ι es1 res1.toList → MapKept.Stamped res1 clock1 →
        (setObj b (.map res1 clock1)).run P w = .ok () { w with heap := w.heap.setIfInBounds b (.map res1 clock1) } ∧ Sat G { w with heap := w.heap.setIfInBounds b (.map res1 clock1) } (emb ι T1 :: F) := by
  obtain ⟨R, H, hput⟩ := emb_take H hk
  obtain ⟨⟨b, clock, res⟩, H⟩ := Sat.exf (B := fun z : Nat × Nat × Array MapEntry => Sep [pu (ι[id]? = some ⟨z.1, 0, none⟩ ∧ (pairs ι es z.2.2.toList ∧ MapKept.Stamped z.2.2 z.2.1)), bq true z.1 (.map z.2.2 z.2.1)]) H fun x ⟨b, clock, res, h1, h2, h3⟩ =>
    ⟨(b, clock, res), HL.no, x, HL.no_ok _, (HL.no_cup _).symm, ⟨⟨h1, h2⟩, rfl⟩, x, HL.no, HL.ok_no _, (HL.cup_no _).symm, h3, rfl⟩
  obtain ⟨⟨h1, h2⟩, H⟩ := H.get_sep.get_pu
  simp only at h1 h2
  have hb : w.heap[b]? = some (.map res clock) := Sat.obj (G := G) (l := R :: F) H
  have hlt := (Array.getElem?_eq_some_iff.1 hb).1
  refine ⟨b, clock, res, h1, h2, hb, fun es1 res1 clock1 T1 hs hp hst => ⟨MapKept.run_setObj_map _ hb, ?_⟩⟩
  refine hput _ _ _ _ hs ?_
  have H2 := Sat.upd (G := G) (l := R :: F) (w' := { w with heap := w.heap.setIfInBounds b (.map res1 clock1) }) H rfl rfl (o' := .map res1 clock1) (by simp [hlt]) fun k _ hk => by
    simp only
    rw [Array.getElem?_setIfInBounds_ne (fun e => hk e.symm)]
  exact H2.map fun x hx => ⟨b, clock1, res1, h1, ⟨hp, hst⟩, hx⟩

theorem entriesL_sound (H : Sat G w (emb ι T :: F)) {v rv : Value} {es : List (Value × Value)} (h : entriesL T v = some es) (hv : rn ι v = some rv) :
    (rv = .map none ∧ es = []) ∨ ∃ b res clock, rv = .map (some b) ∧ w.heap[b]? = some (.map res clock) ∧ pairs ι es res.toList := by
  unfold entriesL at h
  split at h
  · cases h
    simp only [rn, Option.some.injEq] at hv
    exact .inl ⟨hv.symm, rfl⟩
  · rename_i id
    split at h
    · rename_i es' hg
      cases h
      obtain ⟨b, clock, res, h1, ⟨h2, _⟩, h3, _⟩ := emb_map (P := default) H hg
      simp only [rn, h1, Option.map_some, Option.some.injEq] at hv
      exact .inr ⟨b, res, clock, hv.symm, h3, h2⟩
    · cases h
  · cases h

theorem pairs_set {es : List (Value × Value)} {res : List MapEntry} (h : pairs ι es res) {j : Nat} {k v rk rv : Value} (hk : rn ι k = some rk) (hv : rn ι v = some rv) (f : MapEntry → MapEntry) (hf : ∀ e, (f e).key = rk ∧ (f e).val = rv) :
    pairs ι (es.set j (k, v)) (res.modify j f) := by
  obtain ⟨h1, h2⟩ := h
  have e1 : (res.modify j f).map (·.key) = (res.map (·.key)).set j rk := by
    apply List.ext_getElem?
    intro i
    simp only [List.getElem?_map, List.getElem?_modify, List.getElem?_set, List.length_map]
    by_cases hij : j = i
    · subst hij
      by_cases hl : j < res.length
      · simp [hl, hf]
      · simp [hl]
    · simp [hij]
  have e2 : (res.modify j f).map (·.val) = (res.map (·.val)).set j rv := by
    apply List.ext_getElem?
    intro i
    simp only [List.getElem?_map, List.getElem?_modify, List.getElem?_set, List.length_map]
    by_cases hij : j = i
    · subst hij
      by_cases hl : j < res.length
      · simp [hl, hf]
      · simp [hl]
    · simp [hij]
  refine ⟨?_, ?_⟩
  · rw [e1, List.map_set]; exact rns_set h1 hk
  · rw [e2, List.map_set]; exact rns_set h2 hv
theorem pairs_push {es : List (Value × Value)} {res : List MapEntry} (h : pairs ι es res) {k v : Value} {e : MapEntry} (hk : rn ι k = some e.key) (hv : rn ι v = some e.val) : pairs ι (es ++ [(k, v)]) (res ++ [e]) := by
  refine ⟨?_, ?_⟩
  · rw [List.map_append, List.map_append]; exact rns_append.2 ⟨_, _, h.1, by simp [rns, hk], rfl⟩
  · rw [List.map_append, List.map_append]; exact rns_append.2 ⟨_, _, h.2, by simp [rns, hv], rfl⟩
theorem rns_erase {l rl : List Value} (h : rns ι l = some rl) (j : Nat) : rns ι (l.eraseIdx j) = some (rl.eraseIdx j) := by
  induction l generalizing rl j with
  | nil => simp [rns] at h; subst h; simp [rns]
  | cons x l ih =>
    obtain ⟨a, b, h1, h2, rfl⟩ := rns_cons.1 h
    cases j with
    | zero => exact h2
    | succ j => exact rns_cons.2 ⟨_, _, h1, ih h2 j, rfl⟩
theorem map_erase {α β : Type} (f : α → β) (l : List α) (j : Nat) : (l.eraseIdx j).map f = (l.map f).eraseIdx j := by
  induction l generalizing j with
  | nil => rfl
  | cons x l ih => cases j with
    | zero => rfl
    | succ j => simp [ih]
theorem pairs_erase {es : List (Value × Value)} {res : List MapEntry} (h : pairs ι es res) (j : Nat) : pairs ι (es.eraseIdx j) (res.eraseIdx j) := by
  refine ⟨?_, ?_⟩
  · rw [map_erase, map_erase]; exact rns_erase h.1 j
  · rw [map_erase, map_erase]; exact rns_erase h.2 j

theorem mapUpdate_sound (H : Sat G w (emb ι T :: F)) {t kt et : TypeId} {id : Nat} {es : List (Value × Value)} {k v rk rv rm : Value} {r : Option Nat} (hu : P.underlying t = some (.map kt et)) (hg : T.get id = some (.map es)) (hm : rn ι (.map (some id)) = some rm)
    (hk : rn ι k = some rk) (hv : rn ι v = some rv) (hck : ckL P kt k = true) (hf : findL P kt k es = some r)
    (hr : match r with
      | some j => ∃ e, es[j]? = some e ∧ (calmV e.1 && calmV k && Instr.sameBits 10000 e.1 k && beqV e.1 k) = true ∧ T.set id (.map (es.set j (k, v))) = some T1
      | none => newKey es k = true ∧ T.set id (.map (es ++ [(k, v)])) = some T1) :
    ∃ w', (Instr.mapUpdate t rm rk rv).run P w = .ok () w' ∧ Sat G w' (emb ι T1 :: F) := by
  obtain ⟨b, clock, res, h1, ⟨h2, hst⟩, h3, h4⟩ := emb_map (P := P) H hg
  simp only [rn, h1, Option.map_some, Option.some.injEq] at hm
  subst hm
  obtain ⟨o, h5, h6⟩ := findL_sound (P := P) hk h2 hf
  cases r with
  | none =>
    obtain rfl := h6.1 rfl
    have hp : pairs ι (es ++ [(k, v)]) ((res.push { key := rk, val := rv, born := clock }).toList) := by
      rw [Array.toList_push]; exact pairs_push h2 hk hv
    obtain ⟨hnew, hr⟩ := hr
    simp only [newKey, Bool.and_eq_true, List.all_eq_true, Bool.not_eq_true'] at hnew
    obtain ⟨⟨hn1, hn2⟩, hn3⟩ := hnew
    have hne : ∀ x ∈ res.toList, x.key ≠ rk := by
      intro x hx he
      rw [rn_plain _ (calm_plainV _ hn1)] at hk
      cases hk
      obtain ⟨i, hi⟩ := List.mem_iff_getElem?.1 hx
      have hl := rns_length h2.1
      simp only [List.length_map] at hl
      have hlt : i < es.length := by
        have := (List.getElem?_eq_some_iff.1 hi).1
        omega
      obtain ⟨rv', hg1, hg2⟩ := rns_get h2.1 (i := i) (v := es[i].1) (by simp [hlt])
      have h3' := hn3 es[i] (List.getElem_mem hlt)
      rw [rn_plain _ (calm_plainV _ h3'.1)] at hg2
      cases hg2
      simp only [List.getElem?_map, hi, Option.map_some, Option.some.injEq] at hg1
      rw [← hg1, he, hn2] at h3'
      exact absurd h3'.2 (by simp)
    obtain ⟨h7, h8⟩ := h4 _ _ (clock + 1) _ hr hp (MapKept.stamped_push hst hne)
    refine ⟨_, ?_, h8⟩
    simp only [Instr.mapUpdate, Sem.run_bind, run_und hu, Result.andThen_ok, MapKept.run_getObj_map h3, ckL_sound hk hck, h5]
    exact h7
  | some j =>
    obtain ⟨e, he, hb, hs⟩ := hr
    simp only [Bool.and_eq_true] at hb
    obtain ⟨⟨⟨hb1, hb2⟩, hb3⟩, hb4⟩ := hb
    obtain ⟨_, e', re, h7, h8, h9, h10, rfl⟩ := h6.2 j rfl
    simp only [Nat.sub_zero] at h7 h8
    rw [he] at h7
    cases h7
    rw [rn_plain _ (calm_plainV _ hb1)] at h9
    rw [rn_plain _ (calm_plainV _ hb2)] at hk
    cases hk
    have h9 := Option.some.inj h9
    have hp : pairs ι (es.set j (k, v)) ((res.modify j fun e => { e with key := k, val := rv }).toList) := by
      rw [Array.toList_modify]
      exact pairs_set h2 (rn_plain _ (calm_plainV _ hb2)) hv _ fun e => ⟨rfl, rfl⟩
    have hkk : re.key = k := by rw [← h9, beqV_eq _ _ hb4]
    obtain ⟨h11, h12⟩ := h4 _ _ clock _ hs hp (MapKept.stamped_modify hst j _ (fun _ _ => rfl) fun e _ he => by
      have : res[j]? = some re := by simpa using h8
      rw [this] at he
      cases he
      exact hkk.symm)
    refine ⟨_, ?_, h12⟩
    have hold : ((res[j]?).map (·.key)).getD k = e.1 := by
      have : res[j]? = some re := by simpa using h8
      rw [this]; exact h9.symm
    simp only [Instr.mapUpdate, Sem.run_bind, run_und hu, Result.andThen_ok, MapKept.run_getObj_map h3, ckL_sound (ι := ι) (rn_plain k (calm_plainV k hb2)) hck, h5, Instr.keyThatStays, hold, hb3, if_true, Sem.run_pure]
    exact h11

theorem memOp3_sound {ρl : Operand → Option Value} {ρ : Operand → Value} (hρ : ∀ x v, ρl x = some v → rn ι v = some (ρ x)) (o : Oper) {v : Value} {n' : Nat} (H : Sat G w (emb ι T :: F)) (h : memOp3 P ρl T ι.length o.op = some (v, T1, n')) :
    ∃ rv w' κ, ι <+: κ ∧ κ.length = n' ∧ Gives ((execOp ρ o).run P w) rv w' ∧ rn κ v = some rv ∧ Sat G w' (emb κ T1 :: F) := by
  obtain ⟨dst, op, type, pos, after, guard⟩ := o
  simp only at h
  have upd : ∀ (t : TypeId) (m k x : Operand), (match P.underlying t, ρl m, ρl k, ρl x with
      | some (.map kt _), some (.map (some id)), some k, some v => match T.get id with
        | some (.map es) => if ckL P kt k then match findL P kt k es with
            | some (some j) => match es[j]? with
              | some e => if calmV e.1 && calmV k && Instr.sameBits 10000 e.1 k && beqV e.1 k then match T.set id (.map (es.set j (k, v))) with
                  | some T1 => some (undef, T1, ι.length)
                  | none => none
                else none
              | none => none
            | some none => if newKey es k then match T.set id (.map (es ++ [(k, v)])) with
                | some T1 => some (undef, T1, ι.length)
                | none => none
              else none
            | none => none
          else none
        | _ => none
      | _, _, _, _ => none) = some (v, T1, n') →
      v = undef ∧ n' = ι.length ∧ ∃ w', (Instr.mapUpdate t (ρ m) (ρ k) (ρ x)).run P w = .ok () w' ∧ Sat G w' (emb ι T1 :: F) := by
    intro t m k x h
    split at h
    · rename_i kt et id lk lv hu hm hk hx
      split at h
      · rename_i es hg
        split at h
        · rename_i hck
          split at h
          · rename_i j hf
            split at h
            · rename_i e he
              split at h
              · rename_i hb
                split at h
                · rename_i T2 hs
                  cases h
                  exact ⟨rfl, rfl, mapUpdate_sound H hu hg (hρ _ _ hm) (hρ _ _ hk) (hρ _ _ hx) hck hf ⟨e, he, hb, hs⟩⟩
                · cases h
              · cases h
            · cases h
          · rename_i hf
            split at h
            · rename_i hnew
              split at h
              · rename_i T2 hs
                cases h
                exact ⟨rfl, rfl, mapUpdate_sound H hu hg (hρ _ _ hm) (hρ _ _ hk) (hρ _ _ hx) hck hf ⟨hnew, hs⟩⟩
              · cases h
            · cases h
          · cases h
        · cases h
      · cases h
    · cases h
  cases op <;> simp only [memOp3, reduceCtorEq] at h <;> simp only [execOp]
  case makeMap t r =>
    split at h
    · rename_i hr
      split at h
      · rename_i T2 hn
        cases h
        obtain ⟨hn1, hn2⟩ := newL_sound hn
        have H2 : Sat G (w.alloc (.map #[] 0)) (emb (ι ++ [⟨w.heap.size, 0, none⟩]) T1 :: F) := emb_new hn1 hn2 (Sat.map (Sat.alloc (o := .map #[] 0) H) fun x hx => ⟨w.heap.size, 0, #[], by simp, ⟨⟨by simp [rns], by simp [rns]⟩, MapKept.stamped_empty 0⟩, hx⟩)
        refine ⟨.map (some w.heap.size), _, _, List.prefix_append _ _, by simp, .inl ?_, by simp [rn], H2⟩
        cases r with
        | none => simp [Instr.makeMap]
        | some x =>
          simp only [hintL] at hr
          split at hr
          · rename_i a b k n hu hx
            have := hρ _ _ hx
            simp only [rn, Option.some.injEq] at this
            simp [Instr.makeMap, run_und hu, ← this, asInt, asIntOf]
          · cases hr
      · cases h
    · cases h
  case lookup xt x ix ok =>
    split at h
    · rename_i kt et xv lk hu hx hk
      split at h
      · rename_i es hes
        split at h
        · rename_i hck
          have hkr := hρ _ _ hk
          have main : ∃ res : Array MapEntry, pairs ι es res.toList ∧ (∀ j v, (Instr.findKey kt (ρ ix) res.toList).run P w = .ok (some (j, v)) w → (Instr.lookup xt (ρ x) (ρ ix) ok).run P w = .ok (if ok then .tuple #[v, .bool true] else v) w) ∧
              (∀ z, (Instr.findKey kt (ρ ix) res.toList).run P w = .ok none w → (zeroValue et).run P w = .ok z w → (Instr.lookup xt (ρ x) (ρ ix) ok).run P w = .ok (if ok then .tuple #[z, .bool false] else z) w) := by
            rcases entriesL_sound H hes (hρ _ _ hx) with ⟨e1, rfl⟩ | ⟨b, res, clock, e1, e2, e3⟩
            · refine ⟨#[], ⟨rfl, rfl⟩, fun j v ho => ?_, fun z ho hz => ?_⟩
              · simp only [Instr.lookup, Sem.run_bind, run_und hu, Result.andThen_ok, e1, Sem.run_pure, ckL_sound hkr hck, ho]
              · simp only [Instr.lookup, Sem.run_bind, run_und hu, Result.andThen_ok, e1, Sem.run_pure, ckL_sound hkr hck, ho, hz]
            · refine ⟨res, e3, fun j v ho => ?_, fun z ho hz => ?_⟩
              · simp only [Instr.lookup, Sem.run_bind, run_und hu, Result.andThen_ok, e1, MapKept.run_getObj_map e2, Sem.run_pure, ckL_sound hkr hck, ho]
              · simp only [Instr.lookup, Sem.run_bind, run_und hu, Result.andThen_ok, e1, MapKept.run_getObj_map e2, Sem.run_pure, ckL_sound hkr hck, ho, hz]
          obtain ⟨res, hp, mainA, mainB⟩ := main
          split at h
          · rename_i j hf
            split at h
            · rename_i e he
              cases h
              obtain ⟨o, h5, h6⟩ := findL_sound (P := P) hkr hp hf
              obtain ⟨_, e', re, h7, h8, h9, h10, rfl⟩ := h6.2 j rfl
              simp only [Nat.sub_zero] at h7 h8
              rw [he] at h7
              cases h7
              refine ⟨if ok then .tuple #[re.val, .bool true] else re.val, w, ι, List.prefix_refl _, rfl, .inl ?_, ?_, H⟩
              · rw [Sem.run_bind, mainA _ _ (h5 w)]
                rfl
              · cases ok <;> simp [rn, rns, h10]
            · cases h
          · rename_i hf
            split at h
            · rename_i z hz
              cases h
              obtain ⟨o, h5, h6⟩ := findL_sound (P := P) hkr hp hf
              obtain rfl := h6.1 rfl
              obtain ⟨hz1, hz2⟩ := zeroVL_sound (ι := ι) hz w
              refine ⟨if ok then .tuple #[z, .bool false] else z, w, ι, List.prefix_refl _, rfl, .inl ?_, ?_, H⟩
              · rw [Sem.run_bind, mainB _ (h5 w) hz1]
                rfl
              · cases ok <;> simp [rn, rns, hz2]
            · cases h
          · cases h
        · cases h
      · cases h
    · cases h
  case mapUpdate t m k x =>
    obtain ⟨rfl, rfl, w', h1, h2⟩ := upd t m k x h
    exact ⟨undef, w', ι, List.prefix_refl _, rfl, .inr ⟨by simp [h1], rfl⟩, by simp [undef, rn, rns], h2⟩
  case insert t m k x =>
    obtain ⟨rfl, rfl, w', h1, h2⟩ := upd t m k x h
    exact ⟨undef, w', ι, List.prefix_refl _, rfl, .inr ⟨by simp [h1], rfl⟩, by simp [undef, rn, rns], h2⟩
  case call c =>
    obtain ⟨callee, ⟨args⟩, ⟨argTypes⟩⟩ := c
    simp only at h
    split at h
    · rename_i m k t ts
      split at h
      · rename_i kt et lk hu hm hk
        split at h
        · rename_i hck
          cases h
          have hm := hρ _ _ hm
          simp only [rn, Option.some.injEq] at hm
          exact ⟨.tuple #[], w, ι, List.prefix_refl _, rfl, .inl (by simp [resolve, invoke, builtin, Builtin.delete_, run_und hu, ← hm, ckL_sound (hρ _ _ hk) hck]), by simp [rn, rns], H⟩
        · cases h
      · rename_i kt et id lk hu hm hk
        split at h
        · rename_i es hg
          split at h
          · rename_i hck
            obtain ⟨b, clock, res, h1, ⟨h2, hst⟩, h3, h4⟩ := emb_map (P := P) H hg
            have hm := hρ _ _ hm
            simp only [rn, h1, Option.map_some, Option.some.injEq] at hm
            split at h
            · rename_i j hf
              split at h
              · rename_i T2 hs
                cases h
                obtain ⟨o, h5, h6⟩ := findL_sound (P := P) (hρ _ _ hk) h2 hf
                obtain ⟨_, e', re, h7, h8, h9, h10, rfl⟩ := h6.2 j rfl
                simp only [Nat.sub_zero] at h7 h8
                have hp : pairs ι (es.eraseIdx j) ((res.eraseIdxIfInBounds j).toList) := by
                  have : (res.eraseIdxIfInBounds j).toList = res.toList.eraseIdx j := by
                    simp [Array.eraseIdxIfInBounds_eq]
                    split
                    · simp
                    · rename_i hlt
                      rw [List.eraseIdx_of_length_le (by simpa using hlt)]
                  rw [this]
                  exact pairs_erase h2 j
                obtain ⟨h11, h12⟩ := h4 _ _ clock _ hs hp (MapKept.stamped_erase hst j)
                refine ⟨.tuple #[], _, ι, List.prefix_refl _, rfl, .inl ?_, by simp [rn, rns], h12⟩
                simp [resolve, invoke, builtin, Builtin.delete_, run_und hu, ← hm, ckL_sound (hρ _ _ hk) hck, MapKept.run_getObj_map h3, h5, h11]
              · cases h
            · rename_i hf
              cases h
              obtain ⟨o, h5, h6⟩ := findL_sound (P := P) (hρ _ _ hk) h2 hf
              obtain rfl := h6.1 rfl
              obtain ⟨h11, h12⟩ := h4 es res clock T (Tr.set_get T hg) h2 hst
              refine ⟨.tuple #[], _, ι, List.prefix_refl _, rfl, .inl ?_, by simp [rn, rns], h12⟩
              simp [resolve, invoke, builtin, Builtin.delete_, run_und hu, ← hm, ckL_sound (hρ _ _ hk) hck, MapKept.run_getObj_map h3, h5, h11]
            · cases h
          · cases h
        · cases h
      · cases h
    · rename_i x t ts
      split at h
      · rename_i kt et lv hu hx
        split at h
        · rename_i es hes
          cases h
          refine ⟨.int .i64 es.length, w, ι, List.prefix_refl _, rfl, .inl ?_, by simp [rn], H⟩
          rcases entriesL_sound H hes (hρ _ _ hx) with ⟨e1, rfl⟩ | ⟨b, res, clock, e1, e2, e3⟩
          · simp [resolve, invoke, builtin, Builtin.len_, run_und hu, e1, goInt]
          · have hl : res.size = es.length := by
              have := rns_length e3.1
              simpa using this
            simp [resolve, invoke, builtin, Builtin.len_, run_und hu, e1, MapKept.run_getObj_map e2, goInt, hl]
        · cases h
      · cases h
    · rename_i x t ts
      split at h
      · rename_i kt et hu hx
        cases h
        have hx := hρ _ _ hx
        simp only [rn, Option.some.injEq] at hx
        exact ⟨.tuple #[], w, ι, List.prefix_refl _, rfl, .inl (by simp [resolve, invoke, builtin, Builtin.clear_, run_und hu, ← hx]), by simp [rn, rns], H⟩
      · rename_i kt et id hu hx
        split at h
        · rename_i es hg
          split at h
          · rename_i T2 hs
            cases h
            obtain ⟨b, clock, res, h1, ⟨h2, hst⟩, h3, h4⟩ := emb_map (P := P) H hg
            have hx := hρ _ _ hx
            simp only [rn, h1, Option.map_some, Option.some.injEq] at hx
            obtain ⟨h11, h12⟩ := h4 [] #[] clock _ hs ⟨rfl, rfl⟩ (MapKept.stamped_empty clock)
            refine ⟨.tuple #[], _, ι, List.prefix_refl _, rfl, .inl ?_, by simp [rn, rns], h12⟩
            simp [resolve, invoke, builtin, Builtin.clear_, run_und hu, ← hx, MapKept.run_getObj_map h3, h11]
          · cases h
        · cases h
      · cases h
    · cases h
end
end Go.Ev
