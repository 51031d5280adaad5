/- Closed runs by the kernel: operations that read and write memory. -/
import Derived.Test.YtmiikmonmgjjfaaGreatEvPure
namespace Go.Ev
open Go.Sx

abbrev Mem := Tr LO

def newL (T : Mem) (n : Nat) (o : LO) : Option Mem := match T.get n with
  | some _ => none
  | none => T.set n o
def viewL (T : Mem) (id : Nat) : Option (List Value) := match T.get id with
  | some o => o.contents
  | none => none
def storeL (T : Mem) (id off : Nat) (vs : List Value) : Option Mem := match T.get id with
  | some o => match o.contents with
    | some c => if off + vs.length ≤ c.length && vs.all (·.oneCell') then match o.refill (splice c off vs) with
        | some o1 => T.set id o1
        | none => none
      else none
    | none => none
  | none => none
def loadL (P : Program) (T : Mem) (t : TypeId) : Value → Option Value
  | .pointer (some ⟨id, off, none⟩) => match viewL T id with
    | some c => match P.underlying t with
      | some (.struct _) | some (.array _ _) => match sizeT P t with
        | some n => if off + n ≤ c.length then some (.agg ((c.drop off).take n).toArray) else none
        | none => none
      | some _ => c[off]?
      | none => none
    | none => none
  | _ => none

section
variable {P : Program} {G : Orig} {w : World} {F : List SProp} {ι κ : List Spot} {T T1 : Mem}

theorem newL_sound {n : Nat} {o : LO} (h : newL T n o = some T1) : T.get n = none ∧ T.set n o = some T1 := by
  unfold newL at h
  split at h
  · cases h
  · rename_i hg; exact ⟨hg, h⟩
theorem viewL_sound {id : Nat} {c : List Value} (h : viewL T id = some c) : ∃ o, T.get id = some o ∧ o.contents = some c := by
  unfold viewL at h
  split at h
  · rename_i o ho; exact ⟨o, ho, h⟩
  · cases h
theorem storeL_sound {id off : Nat} {vs rvs : List Value} (h : storeL T id off vs = some T1) (H : Sat G w (emb ι T :: F)) (hv : rns ι vs = some rvs) :
    ∃ s w', ι[id]? = some s ∧ (storeCells ⟨s.b, s.base + off, none⟩ rvs).run P w = .ok () w' ∧ Sat G w' (emb ι T1 :: F) := by
  unfold storeL at h
  split at h
  · rename_i o ho
    split at h
    · rename_i c hc
      split at h
      · rename_i hb
        simp only [Bool.and_eq_true, decide_eq_true_eq, List.all_eq_true] at hb
        split at h
        · rename_i o1 ho1
          exact emb_store H ho hc ho1 h hv hb.2 hb.1
        · cases h
      · cases h
    · cases h
  · cases h

theorem view_range (H : Sat G w (emb ι T :: F)) {id off n : Nat} {c : List Value} (hc : viewL T id = some c) (hb : off + n ≤ c.length) :
    ∃ s rc, ι[id]? = some s ∧ rns ι ((c.drop off).take n) = some rc ∧ (loadCells ⟨s.b, s.base + off, none⟩ n).run P w = .ok rc.toArray w := by
  obtain ⟨o, ho, hc⟩ := viewL_sound hc
  obtain ⟨s, rc, h1, h2, h3⟩ := emb_cells H ho hc
  have h4 := (rns_split (rns_split h2 off).2 n).1
  refine ⟨s, _, h1, h4, ?_⟩
  have hl := rns_length h4
  have hl2 := rns_length h2
  have : n = ((rc.drop off).take n).length := by rw [hl]; simp; omega
  have key := run_loadCells_list (P := P) w ⟨s.b, s.base + off, none⟩ ((rc.drop off).take n) fun j v hv => by
    rw [Addr.add_at]
    rw [List.getElem?_take] at hv
    split at hv
    · rw [List.getElem?_drop] at hv
      rw [Nat.add_assoc]
      exact h3 _ _ hv
    · cases hv
  rw [← this] at key
  exact key

theorem loadL_sound (H : Sat G w (emb ι T :: F)) {t : TypeId} {v a ra : Value} (h : loadL P T t a = some v) (ha : rn ι a = some ra) : ∃ rv, (Instr.loadAt t ra).run P w = .ok rv w ∧ rn ι v = some rv := by
  unfold loadL at h
  split at h
  · rename_i id off
    obtain ⟨s, hs, rfl⟩ := rn_ptr ha
    split at h
    · rename_i c hc
      have agg : ∀ n, (isAgg t).run P w = .ok true w → sizeT P t = some n → off + n ≤ c.length → v = .agg ((c.drop off).take n).toArray → ∃ rv, (Instr.loadAt t (.pointer (some ⟨s.b, s.base + off, none⟩))).run P w = .ok rv w ∧ rn ι v = some rv := by
        intro n hg hn hb e
        subst e
        obtain ⟨s', rc, h1, h2, h3⟩ := view_range (P := P) H hc hb
        rw [hs] at h1
        cases h1
        refine ⟨.agg rc.toArray, ?_, by simp [rn, h2]⟩
        simp [Instr.loadAt, Instr.sureAddr, loadVar, hg, run_szT hn, h3]
      split at h
      · rename_i fs hu
        split at h
        · rename_i n hn
          split at h
          · rename_i hb; cases h; exact agg n (by simp [isAgg, run_und hu]) hn hb rfl
          · cases h
        · cases h
      · rename_i x y hu
        split at h
        · rename_i n hn
          split at h
          · rename_i hb; cases h; exact agg n (by simp [isAgg, run_und hu]) hn hb rfl
          · cases h
        · cases h
      · rename_i d h1 h2 hu
        have hg : (isAgg t).run P w = .ok false w := by
          cases d <;> first | exact absurd rfl (h1 _) | exact absurd rfl (h2 _ _) | simp [isAgg, run_und hu]
        obtain ⟨o, ho, hc⟩ := viewL_sound hc
        obtain ⟨s', rc, a1, a2, a3⟩ := emb_cells H ho hc
        rw [hs] at a1
        cases a1
        obtain ⟨rv, a4, a5⟩ := rns_get a2 h
        refine ⟨rv, ?_, a5⟩
        simp [Instr.loadAt, Instr.sureAddr, loadVar, hg, a3 _ _ a4]
      · cases h
    · cases h
  · cases h
end

/-! ### New memory, loads, stores -/

abbrev Ans := Option (Value × Mem × Nat)

def zerosL (z : List Value) : Nat → List Value
  | 0 => []
  | k + 1 => z ++ zerosL z k

def unit0 : Value := undef

def memOp1 (P : Program) (ρ : Operand → Option Value) (T : Mem) (n : Nat) : Op → Ans
  | .alloc t => match zeroL P t with
    | some z => match newL T n (.cells z) with
      | some T1 => some (.pointer (some ⟨n, 0, none⟩), T1, n + 1)
      | none => none
    | none => none
  | .box _ x => match ρ x with
    | some v => match newL T n (.cells v.cells.toList) with
      | some T1 => some (.pointer (some ⟨n, 0, none⟩), T1, n + 1)
      | none => none
    | none => none
  | .load t x => match ρ x with
    | some a => match loadL P T t a with
      | some v => some (v, T, n)
      | none => none
    | none => none
  | .store t x y => match ρ x, ρ y, sizeT P t with
    | some (.pointer (some ⟨id, off, none⟩)), some v, some k => if v.cells.toList.length = k then (match storeL T id off v.cells.toList with
        | some T1 => some (undef, T1, n)
        | none => none) else none
    | _, _, _ => none
  | .buildSlice t len ps => match P.underlying t, partsL ρ ps.toList with
    | some (.slice e), some qs => match sizeT P e, zeroL P e with
      | some sz, some z => if len * sz > 2 ^ 24 || z.length ≠ sz || sz = 0 then none else match fillL (fun i => some (i * sz, sz)) (zerosL z len) qs with
        | some cs => match newL T n (.cells cs) with
          | some T1 => some (.slice (some ⟨n, 0, none⟩) len len, T1, n + 1)
          | none => none
        | none => none
      | _, _ => none
    | _, _ => none
  | .makeSlice t l c => match P.underlying t, ρ l, ρ c with
    | some (.slice e), some (.int _ l), some (.int _ c) => match P.info? e, zeroL P e with
      | some i, some z => if 0 ≤ l ∧ l ≤ c ∧ c ≤ 100000 ∧ i.bytes ≤ 100000 ∧ z.length = i.size ∧ i.size ≠ 0 then match newL T n (.cells (zerosL z c.toNat)) with
          | some T1 => some (.slice (some ⟨n, 0, none⟩) l.toNat c.toNat, T1, n + 1)
          | none => none
        else none
      | _, _ => none
    | _, _, _ => none
  | _ => none

/-- What an operation gives: a value, or nothing ('undef'). -/
def Gives (r : Result Next) (rv : Value) (w' : World) : Prop := r = .ok (.value rv) w' ∨ (r = .ok .skip w' ∧ rv = undef)

section
variable {P : Program} {G : Orig} {w : World} {F : List SProp} {ι κ : List Spot} {T T1 : Mem}

theorem zerosL_length (z : List Value) (k : Nat) : (zerosL z k).length = k * z.length := by
  induction k with
  | zero => simp [zerosL]
  | succ k ih => simp [zerosL, ih, Nat.succ_mul, Nat.add_comm]
theorem zerosL_get (z : List Value) (k j : Nat) (h : j < k * z.length) : (zerosL z k)[j]? = z[j % z.length]? := by
  induction k generalizing j with
  | zero => simp at h
  | succ k ih =>
    simp only [zerosL]
    by_cases hj : j < z.length
    · rw [List.getElem?_append_left hj, Nat.mod_eq_of_lt hj]
    · rw [List.getElem?_append_right (by omega), ih _ (by rw [Nat.succ_mul] at h; omega), ← Nat.mod_eq_sub_mod (by omega)]
theorem zerosL_plain {z : List Value} (h : rns ι z = some z) (k : Nat) : rns ι (zerosL z k) = some (zerosL z k) := by
  induction k with
  | zero => rfl
  | succ k ih => exact rns_append.2 ⟨_, _, h, ih, rfl⟩
theorem zerosL_eq (z : Array Value) (k n : Nat) (hn : n = k * z.size) : ((Array.range n).map (fun i => z[i % z.size]!)) = (zerosL z.toList k).toArray := by
  apply Array.ext'
  simp only [Array.toList_map, Array.toList_range]
  apply List.ext_getElem?
  intro j
  by_cases hj : j < n
  · have h0 : 0 < z.size := by
      rcases Nat.eq_zero_or_pos z.size with h0 | h0
      · rw [h0, Nat.mul_zero] at hn; omega
      · exact h0
    rw [zerosL_get _ _ _ (by rw [Array.length_toList, ← hn]; exact hj)]
    simp only [List.getElem?_map, List.getElem?_range hj, Option.map_some, Array.length_toList, Array.getElem?_toList]
    have := Nat.mod_lt j h0
    rw [getElem!_pos z (j % z.size) this, Array.getElem?_eq_getElem this]
  · rw [List.getElem?_eq_none (by simp; omega), List.getElem?_eq_none (by rw [zerosL_length, Array.length_toList, ← hn]; omega)]

theorem new_cells (H : Sat G w (emb ι T :: F)) {c rc : List Value} (hc : rns ι c = some rc) (h : newL T ι.length (.cells c) = some T1) (t : TypeId) :
    Sat G (w.alloc (.cells rc.toArray t)) (emb (ι ++ [⟨w.heap.size, 0, none⟩]) T1 :: F) :=
  emb_alloc H hc (newL_sound h).1 (newL_sound h).2 t

theorem memOp1_sound {ρl : Operand → Option Value} {ρ : Operand → Value} (hρ : ∀ x v, ρl x = some v → rn ι v = some (ρ x)) (o : Oper) {v : Value} {n' : Nat} (H : Sat G w (emb ι T :: F)) (h : memOp1 P ρl T ι.length o.op = some (v, T1, n')) :
    ∃ rv w' κ, ι <+: κ ∧ κ.length = n' ∧ Gives ((execOp ρ o).run P w) rv w' ∧ rn κ v = some rv ∧ Sat G w' (emb κ T1 :: F) := by
  obtain ⟨dst, op, type, pos, after, guard⟩ := o
  simp only at h
  cases op <;> simp only [memOp1, reduceCtorEq] at h <;> simp only [execOp]
  case alloc t =>
    split at h
    · rename_i z hz
      split at h
      · rename_i T2 hn
        cases h
        obtain ⟨⟨zv, h1, h2⟩, h3⟩ := zeroL_sound (ι := ι) hz w
        refine ⟨_, _, _, List.prefix_append _ [⟨w.heap.size, 0, none⟩], by simp, .inl ?_, by simp only [rn, List.getElem?_concat_length, Option.map_some]; rfl, new_cells H h3 hn t⟩
        simp [Instr.alloc, h1, newVar, newRow, ← h2]
      · cases h
    · cases h
  case box t x =>
    split at h
    · rename_i u hx
      split at h
      · rename_i T2 hn
        cases h
        refine ⟨_, _, _, List.prefix_append _ [⟨w.heap.size, 0, none⟩], by simp, .inl ?_, by simp only [rn, List.getElem?_concat_length, Option.map_some]; rfl, new_cells H (rn_cells (hρ _ _ hx)) hn t⟩
        simp [Instr.box, newVar, newRow]
      · cases h
    · cases h
  case load t x =>
    split at h
    · rename_i a ha
      split at h
      · rename_i u hu
        cases h
        obtain ⟨rv, h1, h2⟩ := loadL_sound H hu (hρ _ _ ha)
        exact ⟨rv, w, ι, List.prefix_refl _, rfl, .inl (by simp [h1]), h2, H⟩
      · cases h
    · cases h
  case store t x y =>
    split at h
    · rename_i id off u k hx hy hk
      split at h
      · rename_i hl
        split at h
        · rename_i T2 hs
          cases h
          obtain ⟨s, hs1, hs2⟩ := rn_ptr (hρ _ _ hx)
          have hyc := rn_cells (hρ _ _ hy)
          obtain ⟨s', w', h1, h2, h3⟩ := storeL_sound (P := P) hs H hyc
          rw [hs1] at h1
          cases h1
          refine ⟨undef, w', ι, List.prefix_refl _, rfl, .inr ⟨?_, rfl⟩, by simp [undef, rn, rns], h3⟩
          have hl2 : (ρ y).cells.size = k := by rw [← Array.length_toList, rns_length hyc]; exact hl
          simp [Instr.storeAt, hs2, Instr.sureAddr, storeVar, run_szT hk, hl2, h2]
        · cases h
      · cases h
    · cases h
  case buildSlice t len ps =>
    split at h
    · rename_i e qs hu hq
      split at h
      · rename_i sz z hsz hz
        split at h
        · cases h
        · rename_i hb
          simp only [Bool.or_eq_true, decide_eq_true_eq, not_or, gt_iff_lt, Nat.not_lt, ne_eq, Classical.not_not] at hb
          obtain ⟨⟨hb1, hb2⟩, hb3⟩ := hb
          split at h
          · rename_i cs hf
            split at h
            · rename_i T2 hn
              cases h
              obtain ⟨⟨zv, h1, h2⟩, h3⟩ := zeroL_sound (ι := ι) hz w
              obtain ⟨hq1, hq2⟩ := partsL_sound hρ _ _ hq
              obtain ⟨rcs, h4, h5⟩ := fillL_sound (place' := fun i => some (i * sz, sz)) (by intro i x hi; exact hi) _ _ _ _ _ hf (zerosL_plain h3 len) hq1 hq2
              refine ⟨_, _, _, List.prefix_append _ [⟨w.heap.size, 0, none⟩], by simp, .inl ?_, by simp only [rn, List.getElem?_concat_length, Option.map_some]; rfl, new_cells H h5 hn e⟩
              have hz4 : zv.cells.size = sz := by rw [← Array.length_toList, h2]; exact hb2
              have hb1' : ¬ (2 ^ 24 < len * sz) := by omega
              have h4' := h4
              simp only at h4'
              rw [Sem.run_bind, Instr.buildSlice, Sem.run_bind, run_und hu, Result.andThen_ok]
              simp only
              rw [Sem.run_bind, run_szT hsz, Result.andThen_ok, if_neg hb1']
              by_cases h0 : len * sz = 0
              · rw [if_pos h0]
                have h00 : len = 0 := by
                  rcases Nat.mul_eq_zero.1 h0 with h | h
                  · exact h
                  · exact absurd h hb3
                simp only [pure_bind]
                have hz' : Array.map (fun x => (#[] : Array Value)[x % (#[] : Array Value).size]!) (Array.range (len * sz)) = (zerosL z len).toArray := by subst h00; simp [zerosL]
                rw [hz', Array.toList_map, h4']
                simp [newRow, Spot.slot]
              · rw [if_neg h0]
                rw [Sem.run_bind, h1, Result.andThen_ok]
                simp only [pure_bind]
                have hz' : Array.map (fun x => zv.cells[x % zv.cells.size]!) (Array.range (len * sz)) = (zerosL z len).toArray := by rw [← h2]; exact zerosL_eq zv.cells len _ (by rw [hz4])
                rw [hz', Array.toList_map, h4']
                simp [newRow, Spot.slot]
            · cases h
          · cases h
      · cases h
    · cases h
  case makeSlice t l c =>
    split at h
    · rename_i e kl l0 kc c0 hu hl hc
      split at h
      · rename_i i z hi hz
        split at h
        · rename_i hb
          obtain ⟨hb1, hb2, hb3, hb4, hb5, hb6⟩ := hb
          split at h
          · rename_i T2 hn
            cases h
            have hl := hρ _ _ hl
            have hc := hρ _ _ hc
            simp only [rn, Option.some.injEq] at hl hc
            obtain ⟨⟨zv, h1, h2⟩, h3⟩ := zeroL_sound (ι := ι) hz w
            refine ⟨_, _, _, List.prefix_append _ [⟨w.heap.size, 0, none⟩], by simp, .inl ?_, by simp only [rn, List.getElem?_concat_length, Option.map_some]; rfl, new_cells H (zerosL_plain h3 c0.toNat) hn e⟩
            have hz4 : zv.cells.size = i.size := by rw [← Array.length_toList, h2]; exact hb5
            have wl : IntKind.i64.wrap l0 = l0 := by simp only [IntKind.wrap, IntKind.bits, IntKind.signed]; simp; omega
            have wc : IntKind.i64.wrap c0 = c0 := by simp only [IntKind.wrap, IntKind.bits, IntKind.signed]; simp; omega
            have hbc : (i.bytes : Int) * c0 ≤ 10000000000 := by
              have h5 : (i.bytes : Int) * c0 ≤ 100000 * c0 := Int.mul_le_mul_of_nonneg_right (by omega) (by omega)
              omega
            have hn1 : ¬ (281474976710656 < (i.bytes : Int) * c0) := by omega
            have hn2 : ¬ (c0 < 0) := by omega
            have hn3 : ¬ (l0 < 0) := by omega
            have hn4 : ¬ (c0 < l0) := by omega
            have hsz : sizeT P e = some i.size := by simp [sizeT, hi]
            rw [Sem.run_bind, Instr.makeSlice, Sem.run_bind, run_und hu, Result.andThen_ok]
            have hti : (typeInfo e).run P w = .ok i w := by simp [typeInfo, hi]
            have hcond : ¬ ((decide (c0 < 0) || decide ((i.bytes : Int) * c0 > 2 ^ 48) || decide (l0 < 0) || decide (l0 > c0)) = true) := by
              simp only [Bool.or_eq_true, decide_eq_true_eq]
              omega
            simp only [← hl, ← hc, asInt, asIntOf, pure_bind, wl, wc]
            rw [Sem.run_bind, hti, Result.andThen_ok, if_neg hcond, Sem.run_bind, run_askRoom, Result.andThen_ok, Sem.run_bind, run_szT hsz, Result.andThen_ok]
            by_cases h0 : c0.toNat * i.size = 0
            · rw [if_pos h0]
              have h00 : c0.toNat = 0 := by
                rcases Nat.mul_eq_zero.1 h0 with h | h
                · exact h
                · exact absurd h hb6
              have hz' : Array.map (fun x => (#[] : Array Value)[x % (#[] : Array Value).size]!) (Array.range (c0.toNat * i.size)) = (zerosL z c0.toNat).toArray := by rw [h00]; simp [zerosL]
              rw [hz']
              simp [newRow, Spot.slot]
            · rw [if_neg h0, Sem.run_bind, h1, Result.andThen_ok]
              have hz' : Array.map (fun x => zv.cells[x % zv.cells.size]!) (Array.range (c0.toNat * i.size)) = (zerosL z c0.toNat).toArray := by rw [← h2]; exact zerosL_eq zv.cells c0.toNat _ (by rw [hz4])
              rw [hz']
              simp [newRow, Spot.slot]
          · cases h
        · cases h
      · cases h
    · cases h
end
end Go.Ev
