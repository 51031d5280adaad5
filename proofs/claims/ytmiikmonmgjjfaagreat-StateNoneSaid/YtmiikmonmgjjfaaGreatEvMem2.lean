/- Closed runs by the kernel: the operations on slices, in one. -/
import Derived.Test.YtmiikmonmgjjfaaGreatEvApp
namespace Go.Ev
open Go.Sx

def bytesL : List Value → Option (List UInt8)
  | [] => some []
  | .int .u8 n :: l => match bytesL l with
    | some r => some (UInt8.ofNat n.toNat :: r)
    | none => none
  | _ :: _ => none

def copyL (P : Program) (T : Mem) (n : Nat) (t : TypeId) (d s : Value) : Ans :=
  match P.underlying t with
  | some (.slice e) => match sizeT P e, lenL s, d with
    | some sz, some m, .slice base dl _ => match srcL T sz (Nat.min m dl) s, base with
      | some vs, some ⟨id, off, none⟩ => if vs.isEmpty then some (.int .i64 (Nat.min m dl), T, n) else match storeL T id off vs with
        | some T1 => some (.int .i64 (Nat.min m dl), T1, n)
        | none => none
      | some _, none => some (.int .i64 (Nat.min m dl), T, n)
      | _, _ => none
    | _, _, _ => none
  | _ => none

def clearL (P : Program) (T : Mem) (n : Nat) (t : TypeId) (x : Value) : Ans :=
  match P.underlying t, x with
  | some (.slice _), .slice none _ _ => some (.tuple #[], T, n)
  | some (.slice e), .slice (some ⟨id, off, none⟩) k _ => if k = 0 then some (.tuple #[], T, n) else match zeroL P e with
    | some z => match storeL T id off (zerosL z k) with
      | some T1 => some (.tuple #[], T1, n)
      | none => none
    | none => none
  | _, _ => none

def capL (T : Mem) : Value → Option Nat
  | .slice none _ c => some c
  | .slice (some ⟨id, _, none⟩) _ cf => match T.get id with
    | some (.cells _) => some cf
    | some (.ro _) => some cf
    | some (.grow _ _) => if cf % 2 = 1 then some (cf / 2) else none
    | _ => none
  | _ => none

def convL (P : Program) (T : Mem) (n : Nat) (s d : TypeId) (x : Value) : Ans :=
  match P.underlying s, P.underlying d with
  | some (.slice _), some (.slice e) => match P.underlying e, x with
    | some (.int .u8), .slice (some ⟨id, off, none⟩) k cf => if s == d then (match T.get id with
      | some (.cells c) => match T.set id (.ro c) with
        | some T1 => some (.slice (some ⟨id, off, none⟩) k cf, T1, n)
        | none => none
      | _ => none) else none
    | _, _ => none
  | some (.slice e), some .string => match P.underlying e, x with
    | some (.int .u8), .slice none _ _ => some (.string .empty, T, n)
    | some (.int .u8), .slice (some a) k cf => match srcL T 1 k (.slice (some a) k cf) with
      | some vs => match bytesL vs with
        | some bs => some (.string ⟨bs.toArray⟩, T, n)
        | none => none
      | none => none
    | _, _ => none
  | _, _ => none

def memOp2 (P : Program) (ρ : Operand → Option Value) (T : Mem) (n : Nat) : Op → Ans
  | .slice t x lo hi mx => match ρ x, evO ρ lo, evO ρ hi, evO ρ mx with
    | some v, some a, some b, some c => sliceL P T n t v a b c
    | _, _, _, _ => none
  | .convert s d x => match ρ x with
    | some v => convL P T n s d v
    | none => none
  | .call c => match c.callee, c.args.toList, c.argTypes.toList with
    | .builtin .append, [s, x], [t, u] => match ρ s, ρ x with
      | some vs, some vx => appendL P T n t u vs vx
      | _, _ => none
    | .builtin .copy, [d, s], t :: _ => match ρ d, ρ s with
      | some vd, some vs => copyL P T n t vd vs
      | _, _ => none
    | .builtin .clear, [x], t :: _ => match ρ x with
      | some v => clearL P T n t v
      | none => none
    | .builtin .cap, [x], t :: _ => match P.underlying t, ρ x with
      | some (.slice _), some v => match capL T v with
        | some k => some (.int .i64 k, T, n)
        | none => none
      | _, _ => none
    | _, _, _ => none
  | _ => none

section
variable {P : Program} {G : Orig} {w : World} {F : List SProp} {ι κ : List Spot} {T T1 : Mem}

theorem evO_sound {ρl : Operand → Option Value} {ρ : Operand → Value} (hρ : ∀ x v, ρl x = some v → rn ι v = some (ρ x)) {x : Option Operand} {j : Option Int} (h : evO ρl x = some j) : optI (x.map ρ) j := by
  unfold evO at h
  split at h
  · cases h; trivial
  · split at h
    · rename_i x k j hx
      cases h
      have hx := hρ _ _ hx
      simp only [rn, Option.some.injEq] at hx
      exact ⟨k, hx.symm⟩
    · cases h

theorem min_sound {s rs : Value} {m : Nat} (hm : lenL s = some m) (hs : rn ι s = some rs) (w : World) : (Builtin.lenOf rs).run P w = .ok m w := lenL_sound hm hs w

theorem copyL_sound (H : Sat G w (emb ι T :: F)) {ts : List TypeId} {t ty : TypeId} {d s rd rs v : Value} {n' : Nat} (h : copyL P T ι.length t d s = some (v, T1, n')) (hd : rn ι d = some rd) (hs : rn ι s = some rs) :
    ∃ rv w' κ, ι <+: κ ∧ κ.length = n' ∧ (Builtin.copy_ ⟨t :: ts⟩ ty #[rd, rs]).run P w = .ok rv w' ∧ rn κ v = some rv ∧ Sat G w' (emb κ T1 :: F) := by
  unfold copyL at h
  split at h
  · rename_i e hu
    split at h
    · rename_i sz m base dl cp hsz hm
      have hl := lenL_sound (P := P) hm hs w
      split at h
      · rename_i vs id off hvs
        obtain ⟨sp, hsp, rfl⟩ := rn_sl hd
        obtain ⟨rvs, h1, h2⟩ := srcL_sound (P := P) H hvs hs
        have run : ∀ w', (storeCells ⟨sp.b, sp.base + off, none⟩ rvs).run P w = .ok () w' → (Builtin.copy_ ⟨t :: ts⟩ ty #[.slice (some ⟨sp.b, sp.base + off, none⟩) dl (sp.slot cp), rs]).run P w = .ok (.int .i64 (Nat.min m dl)) w' := by
          intro w' hst
          simp [Builtin.copy_, run_und hu, hl, run_szT hsz, h2, hst, goInt]
        split at h
        · rename_i he
          cases h
          have : vs = [] := by simpa using he
          subst this
          simp [rns] at h1
          subst h1
          exact ⟨_, w, ι, List.prefix_refl _, rfl, run w rfl, by simp [rn], H⟩
        · split at h
          · rename_i T2 hst
            cases h
            obtain ⟨s', w', a1, a2, a3⟩ := storeL_sound (P := P) hst H h1
            rw [hsp] at a1
            cases a1
            exact ⟨_, w', ι, List.prefix_refl _, rfl, run w' a2, by simp [rn], a3⟩
          · cases h
      · rename_i vs hvs
        cases h
        simp only [rn, Option.some.injEq] at hd
        subst hd
        obtain ⟨rvs, h1, h2⟩ := srcL_sound (P := P) H hvs hs
        refine ⟨.int .i64 (Nat.min m dl), w, ι, List.prefix_refl _, rfl, ?_, by simp [rn], H⟩
        simp [Builtin.copy_, run_und hu, hl, run_szT hsz, h2, goInt]
      · cases h
    · cases h
  · cases h

theorem clearL_sound (H : Sat G w (emb ι T :: F)) {ts : List TypeId} {t ty : TypeId} {x rx v : Value} {n' : Nat} (h : clearL P T ι.length t x = some (v, T1, n')) (hx : rn ι x = some rx) :
    ∃ rv w' κ, ι <+: κ ∧ κ.length = n' ∧ (Builtin.clear_ ⟨t :: ts⟩ ty #[rx]).run P w = .ok rv w' ∧ rn κ v = some rv ∧ Sat G w' (emb κ T1 :: F) := by
  unfold clearL at h
  split at h
  · rename_i e _ _ hu
    cases h
    simp only [rn, Option.some.injEq] at hx
    subst hx
    exact ⟨.tuple #[], w, ι, List.prefix_refl _, rfl, by simp [Builtin.clear_, run_und hu], by simp [rn, rns], H⟩
  · rename_i e id off k cp hu
    obtain ⟨sp, hsp, rfl⟩ := rn_sl hx
    split at h
    · rename_i hk
      subst hk
      cases h
      exact ⟨.tuple #[], w, ι, List.prefix_refl _, rfl, by simp [Builtin.clear_, run_und hu], by simp [rn, rns], H⟩
    · rename_i hk
      split at h
      · rename_i z hz
        split at h
        · rename_i T2 hst
          cases h
          obtain ⟨⟨zv, h1, h2⟩, h3⟩ := zeroL_sound (ι := ι) hz w
          obtain ⟨s', w', a1, a2, a3⟩ := storeL_sound (P := P) hst H (zerosL_plain h3 k)
          rw [hsp] at a1
          cases a1
          refine ⟨.tuple #[], w', ι, List.prefix_refl _, rfl, ?_, by simp [rn, rns], a3⟩
          have hzc : Builtin.zeroCells zv.cells k = (zerosL z k).toArray := by rw [← h2]; exact zerosL_eq zv.cells k _ rfl
          cases k with
          | zero => exact absurd rfl hk
          | succ k => simp [Builtin.clear_, run_und hu, h1, hzc, a2]
        · cases h
      · cases h
  · cases h

theorem capL_sound (H : Sat G w (emb ι T :: F)) {x rx : Value} {k : Nat} (h : capL T x = some k) (hx : rn ι x = some rx) : ∃ a n, rx = .slice a n k := by
  unfold capL at h
  split at h
  · cases h
    simp only [rn, Option.some.injEq] at hx
    exact ⟨_, _, hx.symm⟩
  · rename_i id off n cf
    obtain ⟨sp, hsp, rfl⟩ := rn_sl hx
    split at h
    · rename_i c hk
      cases h
      obtain ⟨b, hb⟩ := emb_exact H hk (.inl ⟨_, rfl⟩)
      rw [hsp] at hb
      cases hb
      exact ⟨_, _, rfl⟩
    · rename_i c hk
      cases h
      obtain ⟨b, hb⟩ := emb_exact H hk (.inr ⟨_, rfl⟩)
      rw [hsp] at hb
      cases hb
      exact ⟨_, _, rfl⟩
    · rename_i sz c hk
      split at h
      · rename_i hcf
        cases h
        obtain ⟨b, base, C, hb, _⟩ := emb_grow H hk
        rw [hsp] at hb
        cases hb
        exact ⟨some ⟨b, base + off, none⟩, n, by simp [Spot.slot, hcf]⟩
      · cases h
    · cases h
  · cases h

theorem bytesL_sound {l : List Value} {bs : List UInt8} (h : bytesL l = some bs) : rns ι l = some l ∧ ∀ (s : ByteArray) (w : World),
    (forIn (m := Sem) l s fun c r => match c with
      | .int .u8 n => pure (ForInStep.yield (r.push (UInt8.ofNat n.toNat)))
      | _ => do
        stuck "bytesToString: byte expected"
        pure (ForInStep.yield r)).run P w = .ok ⟨(s.data.toList ++ bs).toArray⟩ w := by
  induction l generalizing bs with
  | nil =>
    simp [bytesL] at h
    subst h
    exact ⟨rfl, fun s w => by simp⟩
  | cons v l ih =>
    unfold bytesL at h
    split at h
    · rename_i e; cases e
    · rename_i n l' e
      cases e
      split at h
      · rename_i r hr
        cases h
        obtain ⟨h1, h2⟩ := ih hr
        refine ⟨rns_cons.2 ⟨_, _, by simp [rn], h1, rfl⟩, fun s w => ?_⟩
        rw [List.forIn_cons]
        simp only [pure_bind]
        rw [h2]
        congr 2
        simp [ByteArray.push]
      · cases h
    · cases h

theorem convL_sound (H : Sat G w (emb ι T :: F)) {s d : TypeId} {x rx v : Value} {n' : Nat} (h : convL P T ι.length s d x = some (v, T1, n')) (hx : rn ι x = some rx) :
    ∃ rv w' κ, ι <+: κ ∧ κ.length = n' ∧ (convert s d rx).run P w = .ok rv w' ∧ rn κ v = some rv ∧ Sat G w' (emb κ T1 :: F) := by
  unfold convL at h
  split at h
  · rename_i e0 e hs hd
    split at h
    · rename_i id off k cf he
      obtain ⟨sp, hsp, rfl⟩ := rn_sl hx
      split at h
      · rename_i hsd
        simp only [beq_iff_eq] at hsd
        subst hsd
        have hee : e0 = e := by rw [hs] at hd; cases hd; rfl
        subst hee
        split at h
        · rename_i c hk
          split at h
          · rename_i T2 hset
            cases h
            obtain ⟨R, HR, hput⟩ := emb_take H hk
            obtain ⟨⟨b, rc⟩, HR⟩ := Sat.exf (B := fun z : Nat × List Value => Sep [pu (ι[id]? = some ⟨z.1, 0, none⟩ ∧ rns ι c = some z.2), cb true z.1 z.2.toArray]) HR fun x ⟨b, rc, h1, h2, h3⟩ =>
              ⟨(b, rc), HL.no, x, HL.no_ok _, (HL.no_cup _).symm, ⟨⟨h1, h2⟩, rfl⟩, x, HL.no, HL.ok_no _, (HL.cup_no _).symm, h3, rfl⟩
            obtain ⟨⟨hi, hrc⟩, HC⟩ := HR.get_sep.get_pu
            simp only at hi hrc HC
            rw [hsp] at hi
            cases hi
            obtain ⟨TT, HB⟩ := Sat.of_cb (G := G) (l := R :: F) HC
            have hob := HB.obj
            have hsh : w.shape? b = some (TT, rc.length) := by simp [World.shape?, hob]
            have hfz : (w.freeze ⟨b, rc.length, none⟩ 1).heap[b]? = some (.cells rc.toArray TT (rc.length, rc.length + 1)) := by
              simp [World.freeze, Array.getElem?_modify, hob]
            have hoth : ∀ j, j < w.heap.size → j ≠ b → (w.freeze ⟨b, rc.length, none⟩ 1).heap[j]? = w.heap[j]? := by
              intro j _ hj
              simp [World.freeze, Array.getElem?_modify, Ne.symm hj]
            have H2 := Sat.upd (G := G) (l := R :: F) (w' := w.freeze ⟨b, rc.length, none⟩ 1) HB rfl rfl hfz hoth
            refine ⟨_, w.freeze ⟨b, rc.length, none⟩ 1, ι, List.prefix_refl _, rfl, ?_, hx, hput _ _ _ _ hset (Sat.map H2 fun x hx => ⟨b, rc, TT, (rc.length, rc.length + 1), true, hsp, hrc, hx⟩)⟩
            simp [convert, run_und hs, run_und he, markStringish, hsh]
          · cases h
        · cases h
      · cases h
    · cases h
  · rename_i e hs hd
    split at h
    · rename_i he
      cases h
      simp only [rn, Option.some.injEq] at hx
      subst hx
      refine ⟨.string .empty, w, ι, List.prefix_refl _, rfl, ?_, by simp [rn], H⟩
      simp [convert, run_und hs, run_und hd, run_und he, Conv.bytesToString]
    · rename_i a k cf he
      split at h
      · rename_i vs hvs
        split at h
        · rename_i bs hbs
          cases h
          obtain ⟨rvs, h1, h2⟩ := srcL_sound (P := P) H hvs hx
          obtain ⟨h3, h4⟩ := bytesL_sound (P := P) (ι := ι) hbs
          rw [h1] at h3
          cases h3
          obtain ⟨id, off, sp⟩ := a
          cases sp with
          | some _ => simp [rn] at hx
          | none =>
            obtain ⟨sp, hsp, rfl⟩ := rn_sl hx
            refine ⟨.string ⟨bs.toArray⟩, w, ι, List.prefix_refl _, rfl, ?_, by simp [rn], H⟩
            simp only [Builtin.firstCells, Nat.mul_one] at h2
            simp only [convert, Sem.run_bind, run_und hs, run_und hd, Result.andThen_ok, run_und he, Conv.bytesToString, h2]
            rw [List.forIn_toArray]
            have h5 := h4 ByteArray.empty w
            exact congrArg (fun r : Result ByteArray => r.andThen fun a w' => Sem.run P (pure (Value.string a)) w') h5
        · cases h
      · cases h
    · cases h
  · cases h

theorem memOp2_sound {ρl : Operand → Option Value} {ρ : Operand → Value} (hρ : ∀ x v, ρl x = some v → rn ι v = some (ρ x)) (o : Oper) {v : Value} {n' : Nat} (H : Sat G w (emb ι T :: F)) (h : memOp2 P ρl T ι.length o.op = some (v, T1, n')) :
    ∃ rv w' κ, ι <+: κ ∧ κ.length = n' ∧ Gives ((execOp ρ o).run P w) rv w' ∧ rn κ v = some rv ∧ Sat G w' (emb κ T1 :: F) := by
  obtain ⟨dst, op, type, pos, after, guard⟩ := o
  simp only at h
  cases op <;> simp only [memOp2, reduceCtorEq] at h <;> simp only [execOp]
  case slice t x lo hi mx =>
    split at h
    · rename_i v0 a b c hx ha hb hc
      obtain ⟨rv, κ, h1, h2, h3, h4, h5⟩ := sliceL_sound (P := P) H (hρ _ _ hx) h (evO_sound hρ ha) (evO_sound hρ hb) (evO_sound hρ hc)
      exact ⟨rv, w, κ, h1, h2, .inl (by rw [Sem.run_bind, h3]; rfl), h4, h5⟩
    · cases h
  case convert s d x =>
    split at h
    · rename_i v0 hx
      obtain ⟨rv, w', κ, h1, h2, h3, h4, h5⟩ := convL_sound (P := P) H h (hρ _ _ hx)
      exact ⟨rv, w', κ, h1, h2, .inl (by rw [Sem.run_bind, h3]; rfl), h4, h5⟩
    · cases h
  case call c =>
    obtain ⟨callee, ⟨args⟩, ⟨argTypes⟩⟩ := c
    simp only at h
    split at h
    · rename_i s x t u
      split at h
      · rename_i vs vx hs hx
        obtain ⟨rv, w', κ, h1, h2, h3, h4, h5⟩ := appendL_sound (P := P) (ty := type) H h (hρ _ _ hs) (hρ _ _ hx)
        exact ⟨rv, w', κ, h1, h2, .inl (by simp [resolve, invoke, builtin, h3]), h4, h5⟩
      · cases h
    · rename_i d s t ts
      split at h
      · rename_i vd vs hd hs
        obtain ⟨rv, w', κ, h1, h2, h3, h4, h5⟩ := copyL_sound (P := P) (ts := ts) (ty := type) H h (hρ _ _ hd) (hρ _ _ hs)
        exact ⟨rv, w', κ, h1, h2, .inl (by simp [resolve, invoke, builtin, h3]), h4, h5⟩
      · cases h
    · rename_i x t ts
      split at h
      · rename_i v0 hx
        obtain ⟨rv, w', κ, h1, h2, h3, h4, h5⟩ := clearL_sound (P := P) (ts := ts) (ty := type) H h (hρ _ _ hx)
        exact ⟨rv, w', κ, h1, h2, .inl (by simp [resolve, invoke, builtin, h3]), h4, h5⟩
      · cases h
    · rename_i x t ts
      split at h
      · rename_i e v0 hu hx
        split at h
        · rename_i k hk
          cases h
          obtain ⟨a, n, ha⟩ := capL_sound H hk (hρ _ _ hx)
          refine ⟨.int .i64 k, w, ι, List.prefix_refl _, rfl, .inl ?_, by simp [rn], H⟩
          simp [resolve, invoke, builtin, Builtin.cap_, run_und hu, ha, goInt]
        · cases h
      · cases h
    · cases h
end
end Go.Ev
