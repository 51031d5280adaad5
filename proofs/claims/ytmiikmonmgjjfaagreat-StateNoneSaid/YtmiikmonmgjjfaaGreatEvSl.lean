/- Closed runs by the kernel: slices. -/
import Derived.Test.YtmiikmonmgjjfaaGreatEvOps
namespace Go.Ev
open Go.Sx

def evO (ρ : Operand → Option Value) : Option Operand → Option (Option Int)
  | none => some none
  | some x => match ρ x with
    | some (.int _ j) => some (some j)
    | _ => none

def boundsL (len cap : Nat) (lo hi mx : Option Int) : Option (Nat × Nat × Nat) :=
  match (match mx with
    | none => some cap
    | some j => if 0 ≤ j ∧ j ≤ cap then some j.toNat else none) with
  | none => none
  | some m => match (match hi, mx with
      | some j, _ => if 0 ≤ j ∧ j ≤ m then some j.toNat else none
      | none, none => some len
      | none, some _ => none) with
    | none => none
    | some h => match lo with
      | none => some (0, h, m)
      | some j => if 0 ≤ j ∧ j ≤ h then some (j.toNat, h, m) else none

def sliceL (P : Program) (T : Mem) (n : Nat) (t : TypeId) (x : Value) (lo hi mx : Option Int) : Ans :=
  match P.underlying t, x with
  | some .string, .string s => match mx, boundsL s.size s.size lo hi none with
    | none, some (l, h, _) => some (.string ⟨((s.data.toList.take h).drop l).toArray⟩, T, n)
    | _, _ => none
  | some (.slice e), .slice none 0 0 => match boundsL 0 0 lo hi mx, sizeT P e with
    | some (0, 0, 0), some _ => some (.slice none 0 0, T, n)
    | _, _ => none
  | some (.slice e), .slice (some ⟨id, off, none⟩) len cf => match sizeT P e, T.get id with
    | some sz, some (.cells _) | some sz, some (.ro _) => match boundsL len cf lo hi mx with
      | some (l, h, m) => some (.slice (some ⟨id, if m = l then off else off + l * sz, none⟩) (h - l) (m - l), T, n)
      | none => none
    | some sz, some (.grow sz' c) =>
      if sz = 0 ∨ sz' ≠ sz then none else
      if cf % 2 = 1 then match boundsL len (cf / 2) lo hi mx with
        | some (l, h, m) => some (.slice (some ⟨id, if m = l then off else off + l * sz, none⟩) (h - l) (2 * (m - l) + 1), T, n)
        | none => none
      else
        let o := cf / 2
        let K := c.length / sz - o
        if c.length < o * sz then none else match boundsL len K lo hi mx, mx with
        | some (l, h, m), some _ => some (.slice (some ⟨id, if m = l then off else off + l * sz, none⟩) (h - l) (2 * (m - l) + 1), T, n)
        | some (l, h, _), none =>
          if l = 0 then some (.slice (some ⟨id, off, none⟩) h (2 * o), T, n)
          else if l < K then some (.slice (some ⟨id, off + l * sz, none⟩) (h - l) (2 * (o + l)), T, n)
          else match newL T n .dead with
            | some T1 => some (.slice (some ⟨n, 0, none⟩) (h - l) 0, T1, n + 1)
            | none => none
        | none, _ => none
    | _, _ => none
  | _, _ => none

section
variable {P : Program} {G : Orig} {w : World} {F : List SProp} {ι κ : List Spot} {T T1 : Mem}

theorem emb_ghost (H : Sat G w (emb ι T :: F)) (h : newL T ι.length .dead = some T1) (s : Spot) : Sat G w (emb (ι ++ [s]) T1 :: F) :=
  emb_new (newL_sound h).1 (newL_sound h).2 (Sat.map (Sat.to_pu trivial H) fun _ hx => hx.2)
theorem emb_exact (H : Sat G w (emb ι T :: F)) {id : Nat} {o : LO} (hk : T.get id = some o) (ho : (∃ c, o = .cells c) ∨ (∃ c, o = .ro c)) : ∃ b, ι[id]? = some ⟨b, 0, none⟩ := by
  obtain ⟨R, H, _⟩ := emb_take H hk
  rcases ho with ⟨c, rfl⟩ | ⟨c, rfl⟩
  · exact H.getf fun x ⟨b, rc, h1, _⟩ => ⟨b, h1⟩
  · exact H.getf fun x ⟨b, rc, _, _, _, h1, _⟩ => ⟨b, h1⟩
theorem emb_grow (H : Sat G w (emb ι T :: F)) {id sz : Nat} {c : List Value} (hk : T.get id = some (.grow sz c)) : ∃ b base C, ι[id]? = some ⟨b, base, some C⟩ ∧ c.length ≤ C * sz := by
  obtain ⟨R, H, _⟩ := emb_take H hk
  exact H.getf fun x ⟨b, base, C, _, h1, h2, _⟩ => ⟨b, base, C, h1, h2⟩

theorem boundsL_mono {len K cap : Nat} {lo hi mx : Option Int} {l h m : Nat} (hb : boundsL len K lo hi mx = some (l, h, m)) (hK : K ≤ cap) : boundsL len cap lo hi mx = some (l, h, if mx.isSome then m else cap) := by
  unfold boundsL at hb ⊢
  cases mx with
  | none =>
    simp only [Option.isSome_none, Bool.false_eq_true, if_false] at hb ⊢
    cases hi with
    | none =>
      simp only at hb ⊢
      cases lo with
      | none => simp only [Option.some.injEq, Prod.mk.injEq] at hb ⊢; obtain ⟨rfl, rfl, rfl⟩ := hb; simp
      | some j =>
        simp only at hb ⊢
        split at hb
        · rename_i hj; rw [if_pos hj]; simp only [Option.some.injEq, Prod.mk.injEq] at hb ⊢; obtain ⟨rfl, rfl, rfl⟩ := hb; simp
        · cases hb
    | some i =>
      simp only at hb ⊢
      by_cases hi1 : 0 ≤ i ∧ i ≤ (K : Int)
      · rw [if_pos hi1] at hb
        rw [if_pos (by omega)]
        cases lo with
        | none => simp only [Option.some.injEq, Prod.mk.injEq] at hb ⊢; obtain ⟨rfl, rfl, rfl⟩ := hb; simp
        | some j =>
          simp only at hb ⊢
          split at hb
          · rename_i hj; rw [if_pos hj]; simp only [Option.some.injEq, Prod.mk.injEq] at hb ⊢; obtain ⟨rfl, rfl, rfl⟩ := hb; simp
          · cases hb
      · rw [if_neg hi1] at hb; cases hb
  | some k =>
    simp only [Option.isSome_some, if_true] at hb ⊢
    by_cases hk : 0 ≤ k ∧ k ≤ (K : Int)
    · rw [if_pos hk] at hb
      rw [if_pos (by omega)]
      exact hb
    · rw [if_neg hk] at hb; cases hb

/-- l ≤ h ≤ m for bounds that are given. -/
theorem boundsL_le {len cap : Nat} {lo hi mx : Option Int} {l h m : Nat} (hb : boundsL len cap lo hi mx = some (l, h, m)) : l ≤ h ∧ (h ≤ m ∨ h = len) ∧ m ≤ cap ∧ (mx = none → m = cap) := by
  unfold boundsL at hb
  cases mx with
  | none =>
    simp only at hb
    cases hi with
    | none =>
      simp only at hb
      cases lo with
      | none => simp only [Option.some.injEq, Prod.mk.injEq] at hb; obtain ⟨rfl, rfl, rfl⟩ := hb; simp
      | some j =>
        simp only at hb
        split at hb
        · simp only [Option.some.injEq, Prod.mk.injEq] at hb; obtain ⟨rfl, rfl, rfl⟩ := hb; simp; omega
        · cases hb
    | some i =>
      simp only at hb
      by_cases hi1 : 0 ≤ i ∧ i ≤ (cap : Int)
      · rw [if_pos hi1] at hb
        cases lo with
        | none => simp only [Option.some.injEq, Prod.mk.injEq] at hb; obtain ⟨rfl, rfl, rfl⟩ := hb; simp; omega
        | some j =>
          simp only at hb
          split at hb
          · simp only [Option.some.injEq, Prod.mk.injEq] at hb; obtain ⟨rfl, rfl, rfl⟩ := hb; simp; omega
          · cases hb
      · rw [if_neg hi1] at hb; cases hb
  | some k =>
    simp only at hb
    by_cases hk : 0 ≤ k ∧ k ≤ (cap : Int)
    · rw [if_pos hk] at hb
      simp only at hb
      cases hi with
      | none => simp at hb
      | some i =>
        simp only at hb
        by_cases hi1 : 0 ≤ i ∧ i ≤ (k.toNat : Int)
        · rw [if_pos hi1] at hb
          cases lo with
          | none => simp only [Option.some.injEq, Prod.mk.injEq] at hb; obtain ⟨rfl, rfl, rfl⟩ := hb; simp; omega
          | some j =>
            simp only at hb
            split at hb
            · simp only [Option.some.injEq, Prod.mk.injEq] at hb; obtain ⟨rfl, rfl, rfl⟩ := hb; simp; omega
            · cases hb
        · rw [if_neg hi1] at hb; cases hb
    · rw [if_neg hk] at hb; cases hb

theorem run_sliceBound {v : Value} {k : IntKind} {j : Int} (hv : v = .int k j) {y : Nat} (hj : 0 ≤ j ∧ j ≤ y) (c : BoundsCode) (w : World) : (Instr.sliceBound v y c).run P w = .ok j.toNat w := by
  subst hv
  simp only [Instr.sliceBound, asIntOf, pure_bind]
  rw [if_pos hj]
  rfl

/-- a bound that is given: an int -/
def optI (v : Option Value) (j : Option Int) : Prop := match v, j with
  | none, none => True
  | some v, some j => ∃ k, v = .int k j
  | _, _ => False

theorem boundsL_sound {len cap : Nat} {lo hi mx : Option Int} {l h m : Nat} (hb : boundsL len cap lo hi mx = some (l, h, m)) {vlo vhi vmx : Option Value} (h1 : optI vlo lo) (h2 : optI vhi hi) (h3 : optI vmx mx) (b : Bool) (w : World) :
    (Instr.sliceBounds b len cap vlo vhi vmx).run P w = .ok (l, h, m) w := by
  unfold boundsL at hb
  unfold Instr.sliceBounds
  cases mx with
  | none =>
    cases vmx with
    | some v => exact h3.elim
    | none =>
      simp only [pure_bind] at hb ⊢
      cases hi with
      | none =>
        cases vhi with
        | some v => exact h2.elim
        | none =>
          simp only at hb ⊢
          cases lo with
          | none =>
            cases vlo with
            | some v => exact h1.elim
            | none => simp only [Option.some.injEq, Prod.mk.injEq] at hb; obtain ⟨rfl, rfl, rfl⟩ := hb; rfl
          | some j =>
            cases vlo with
            | none => exact h1.elim
            | some v =>
              obtain ⟨k, hk⟩ := h1
              simp only at hb ⊢
              split at hb
              · rename_i hj
                simp only [Option.some.injEq, Prod.mk.injEq] at hb; obtain ⟨rfl, rfl, rfl⟩ := hb
                rw [Sem.run_bind, run_sliceBound hk hj]; rfl
              · cases hb
      | some i =>
        cases vhi with
        | none => exact h2.elim
        | some vi =>
          obtain ⟨ki, hki⟩ := h2
          simp only at hb ⊢
          by_cases hi1 : 0 ≤ i ∧ i ≤ (cap : Int)
          · rw [if_pos hi1] at hb
            rw [Sem.run_bind, run_sliceBound hki hi1]
            simp only [Result.andThen_ok]
            cases lo with
            | none =>
              cases vlo with
              | some v => exact h1.elim
              | none => simp only [Option.some.injEq, Prod.mk.injEq] at hb; obtain ⟨rfl, rfl, rfl⟩ := hb; rfl
            | some j =>
              cases vlo with
              | none => exact h1.elim
              | some v =>
                obtain ⟨k, hk⟩ := h1
                simp only at hb ⊢
                split at hb
                · rename_i hj
                  simp only [Option.some.injEq, Prod.mk.injEq] at hb; obtain ⟨rfl, rfl, rfl⟩ := hb
                  rw [Sem.run_bind, run_sliceBound hk hj]; rfl
                · cases hb
          · rw [if_neg hi1] at hb; cases hb
  | some q =>
    cases vmx with
    | none => exact h3.elim
    | some vq =>
      obtain ⟨kq, hkq⟩ := h3
      simp only at hb ⊢
      by_cases hq : 0 ≤ q ∧ q ≤ (cap : Int)
      · rw [if_pos hq] at hb
        rw [Sem.run_bind, run_sliceBound hkq hq]
        simp only [Result.andThen_ok] at hb ⊢
        cases hi with
        | none => simp at hb
        | some i =>
          cases vhi with
          | none => exact h2.elim
          | some vi =>
            obtain ⟨ki, hki⟩ := h2
            simp only at hb ⊢
            by_cases hi1 : 0 ≤ i ∧ i ≤ (q.toNat : Int)
            · rw [if_pos hi1] at hb
              rw [Sem.run_bind, run_sliceBound hki hi1]
              simp only [Result.andThen_ok]
              cases lo with
              | none =>
                cases vlo with
                | some v => exact h1.elim
                | none => simp only [Option.some.injEq, Prod.mk.injEq] at hb; obtain ⟨rfl, rfl, rfl⟩ := hb; rfl
              | some j =>
                cases vlo with
                | none => exact h1.elim
                | some v =>
                  obtain ⟨k, hk⟩ := h1
                  simp only at hb ⊢
                  split at hb
                  · rename_i hj
                    simp only [Option.some.injEq, Prod.mk.injEq] at hb; obtain ⟨rfl, rfl, rfl⟩ := hb
                    rw [Sem.run_bind, run_sliceBound hk hj]; rfl
                  · cases hb
            · rw [if_neg hi1] at hb; cases hb
      · rw [if_neg hq] at hb; cases hb

theorem run_slice_at {t e : TypeId} {sz : Nat} (hu : P.underlying t = some (.slice e)) (hsz : sizeT P e = some sz) {a : Option Addr} {len cap : Nat} {lo hi mx : Option Int} {l h m : Nat} (hb : boundsL len cap lo hi mx = some (l, h, m))
    {vlo vhi vmx : Option Value} (h1 : optI vlo lo) (h2 : optI vhi hi) (h3 : optI vmx mx) (w : World) :
    (Instr.sliceAt t (.slice a len cap) vlo vhi vmx).run P w = .ok (.slice (if m = l then a else a.map (·.add (l * sz))) (h - l) (m - l)) w := by
  simp only [Instr.sliceAt, Instr.slice, Sem.run_bind, run_und hu, Result.andThen_ok, boundsL_sound hb h1 h2 h3, run_szT hsz, Sem.run_pure]

theorem sliceL_sound {t : TypeId} {x rx v : Value} {lo hi mx : Option Int} {n' : Nat} (H : Sat G w (emb ι T :: F)) (hx : rn ι x = some rx) (h : sliceL P T ι.length t x lo hi mx = some (v, T1, n'))
    {vlo vhi vmx : Option Value} (h1 : optI vlo lo) (h2 : optI vhi hi) (h3 : optI vmx mx) :
    ∃ rv κ, ι <+: κ ∧ κ.length = n' ∧ (Instr.sliceAt t rx vlo vhi vmx).run P w = .ok rv w ∧ rn κ v = some rv ∧ Sat G w (emb κ T1 :: F) := by
  unfold sliceL at h
  split at h
  · rename_i s hu
    split at h
    · rename_i l hh _ hb
      cases h
      simp only [rn, Option.some.injEq] at hx
      subst hx
      cases vmx with
      | some v => exact h3.elim
      | none =>
        refine ⟨_, ι, List.prefix_refl _, rfl, ?_, rn_plain _ rfl, H⟩
        simp only [Instr.sliceAt, Instr.slice, Sem.run_bind, run_und hu, Result.andThen_ok, Option.isSome_none, Bool.false_eq_true, if_false, boundsL_sound hb h1 h2 (vmx := none) trivial, Sem.run_pure]
        congr 2
        apply ByteArray.ext
        simp only [ByteArray.data_extract]
        apply Array.ext'
        rw [Array.toList_extract, List.extract_eq_take_drop, List.drop_take]
    · cases h
  · rename_i e hu
    split at h
    · rename_i _ _ sz hb hsz
      cases h
      simp only [rn, Option.some.injEq] at hx
      subst hx
      refine ⟨_, ι, List.prefix_refl _, rfl, run_slice_at hu hsz hb h1 h2 h3 w, rn_plain _ (by simp [plainV]), H⟩
    · cases h
  · rename_i e id off len cf hu
    obtain ⟨s, hs, rfl⟩ := rn_sl hx
    -- a bound that is known
    have fin : ∀ (sz cap c' l hh m : Nat), sizeT P e = some sz → s.slot cf = cap → boundsL len cap lo hi mx = some (l, hh, m) → s.slot c' = m - l → ∀ off', off' = (if m = l then off else off + l * sz) →
        ∃ rv κ, ι <+: κ ∧ κ.length = ι.length ∧ (Instr.sliceAt t (.slice (some ⟨s.b, s.base + off, none⟩) len (s.slot cf)) vlo vhi vmx).run P w = .ok rv w ∧ rn κ (.slice (some ⟨id, off', none⟩) (hh - l) c') = some rv ∧ Sat G w (emb κ T :: F) := by
      rintro sz cap c' l hh m hsz hcap hb hc' off' rfl
      rw [hcap]
      refine ⟨_, ι, List.prefix_refl _, rfl, run_slice_at hu hsz hb h1 h2 h3 w, ?_, H⟩
      simp only [rn, hs, Option.map_some, hc']
      by_cases hm : m = l
      · simp only [hm, if_true]
      · simp only [hm, if_false, Addr.add_at, Nat.add_assoc]
    have ex : ∀ o, T.get id = some o → ((∃ c, o = .cells c) ∨ (∃ c, o = .ro c)) → ∀ c, s.slot c = c := by
      intro o hk ho c
      obtain ⟨b, hb⟩ := emb_exact H hk ho
      rw [hs] at hb
      cases hb
      rfl
    split at h
    · rename_i sz c hsz hk
      split at h
      · rename_i l hh m hb
        cases h
        exact fin sz cf _ l hh m hsz (ex _ hk (.inl ⟨_, rfl⟩) _) hb (ex _ hk (.inl ⟨_, rfl⟩) _) _ rfl
      · cases h
    · rename_i sz c hsz hk
      split at h
      · rename_i l hh m hb
        cases h
        exact fin sz cf _ l hh m hsz (ex _ hk (.inr ⟨_, rfl⟩) _) hb (ex _ hk (.inr ⟨_, rfl⟩) _) _ rfl
      · cases h
    · rename_i sz sz' c hsz hk
      obtain ⟨b, base, C, hb0, hC⟩ := emb_grow H hk
      rw [hs] at hb0
      cases hb0
      have slotO : ∀ x, (⟨b, base, some C⟩ : Spot).slot (2 * x + 1) = x := fun x => by simp [Spot.slot]; omega
      have slotE : ∀ x, (⟨b, base, some C⟩ : Spot).slot (2 * x) = C - x := fun x => by simp [Spot.slot]
      split at h
      · cases h
      · rename_i hsz0
        simp only [not_or, ne_eq, Classical.not_not] at hsz0
        obtain ⟨hsz0, rfl⟩ := hsz0
        split at h
        · rename_i hcf
          split at h
          · rename_i l hh m hb
            cases h
            exact fin _ (cf / 2) _ l hh m hsz (by simp [Spot.slot, hcf]) hb (slotO _) _ rfl
          · cases h
        · rename_i hcf
          simp only at h
          split at h
          · cases h
          · rename_i hol
            have hK : c.length / sz' - cf / 2 ≤ C - cf / 2 := by
              have : c.length / sz' ≤ C := Nat.div_le_of_le_mul (by rw [Nat.mul_comm]; exact hC)
              omega
            have hcap : (⟨b, base, some C⟩ : Spot).slot cf = C - cf / 2 := by simp [Spot.slot]; omega
            split at h
            · rename_i l hh m j hb
              cases h
              have hb' := boundsL_mono hb hK
              simp only [Option.isSome_some, if_true] at hb'
              exact fin _ _ _ l hh m hsz hcap hb' (slotO _) _ rfl
            · rename_i l hh m0 hb
              have hb' := boundsL_mono hb hK
              simp only [Option.isSome_none, Bool.false_eq_true, if_false] at hb'
              split at h
              · rename_i hl
                subst hl
                cases h
                have := fin _ _ (2 * (cf / 2)) 0 hh _ hsz hcap hb' (by rw [slotE]; rfl) off (by simp)
                simpa using this
              · rename_i hl
                split at h
                · rename_i hlK
                  cases h
                  exact fin _ _ _ l hh _ hsz hcap hb' (by rw [slotE]; omega) _ (by rw [if_neg (by omega)])
                · rename_i hlK
                  split at h
                  · rename_i T2 hn
                    cases h
                    rw [hcap]
                    have hrun := run_slice_at hu hsz (a := some ⟨b, base + off, none⟩) hb' h1 h2 h3 w
                    by_cases hm : C - cf / 2 = l
                    · rw [if_pos hm] at hrun
                      refine ⟨_, _, List.prefix_append _ [⟨b, base + off, some (C - cf / 2 - l)⟩], by simp, hrun, ?_, emb_ghost H hn _⟩
                      simp [rn, Spot.slot]
                    · rw [if_neg hm] at hrun
                      refine ⟨_, _, List.prefix_append _ [⟨b, base + off + l * sz', some (C - cf / 2 - l)⟩], by simp, hrun, ?_, emb_ghost H hn _⟩
                      simp [rn, Spot.slot, Addr.add_at]
                  · cases h
            · cases h
    · cases h
  · cases h
end
end Go.Ev
