/- Closed runs by the kernel: append, copy, clear. -/
import Derived.Test.YtmiikmonmgjjfaaGreatEvSl
namespace Go.Ev
open Go.Sx

def lenL : Value → Option Nat
  | .slice _ n _ => some n
  | .string s => some s.size
  | _ => none
def srcL (T : Mem) (sz k : Nat) : Value → Option (List Value)
  | .slice none _ _ => some []
  | .slice (some ⟨id, off, none⟩) _ _ => match viewL T id with
    | some c => if off + k * sz ≤ c.length then some ((c.drop off).take (k * sz)) else none
    | none => none
  | .string s => if k = s.size then some (s.data.toList.map fun b => .int .u8 b.toNat) else none
  | _ => none
def newsL (P : Program) (T : Mem) (z : List Value) (sz : Nat) (u : TypeId) (x : Value) : Option (Nat × List Value) :=
  match P.underlying u with
  | some (.int _) => match x with
    | .int .i64 l => if 0 ≤ l ∧ l ≤ 1000000 then some (l.toNat, zerosL z l.toNat) else none
    | _ => none
  | some _ => match lenL x with
    | some m => match srcL T sz m x with
      | some vs => if vs.length = m * sz then some (m, vs) else none
      | none => none
    | none => none
  | none => none

def fitL (T : Mem) (n id off len m cf sz : Nat) (news : List Value) : Ans :=
  if m = 0 then some (.slice (some ⟨id, off, none⟩) len cf, T, n)
  else match storeL T id (off + len * sz) news with
    | some T1 => some (.slice (some ⟨id, off, none⟩) (len + m) cf, T1, n)
    | none => none
def growL (T : Mem) (n off len m sz byt : Nat) (c news : List Value) : Ans :=
  if len + m ≤ 1000000 ∧ byt ≤ 100000 ∧ off + len * sz ≤ c.length then match newL T n (.grow sz ((c.drop off).take (len * sz) ++ news)) with
    | some T1 => some (.slice (some ⟨n, 0, none⟩) (len + m) 0, T1, n + 1)
    | none => none
  else none
def appendL (P : Program) (T : Mem) (n : Nat) (t u : TypeId) (s x : Value) : Ans :=
  match P.underlying t with
  | some (.slice e) => match P.info? e, zeroL P e with
    | some i, some z => if i.size = 0 ∨ z.length ≠ i.size ∨ 100000 < i.bytes then none else match newsL P T z i.size u x with
      | some (m, news) => if !news.all (·.oneCell') then none else match s with
        | .slice none 0 0 => if m = 0 then some (.slice none 0 0, T, n) else growL T n 0 0 m i.size i.bytes [] news
        | .slice (some ⟨id, off, none⟩) len cf => match T.get id with
          | some (.cells c) => if len + m ≤ cf then fitL T n id off len m cf i.size news else growL T n off len m i.size i.bytes c news
          | some (.ro c) => if len + m ≤ cf then fitL T n id off len m cf i.size news else growL T n off len m i.size i.bytes c news
          | some (.grow sz' c) =>
            if sz' ≠ i.size then none
            else if cf % 2 = 1 then (if len + m ≤ cf / 2 then fitL T n id off len m cf i.size news else growL T n off len m i.size i.bytes c news)
            else if off ≠ cf / 2 * i.size then none
            else if off + (len + m) * i.size ≤ c.length then fitL T n id off len m cf i.size news
            else match T.set id .dead with
              | some T1 => growL T1 n off len m i.size i.bytes c news
              | none => none
          | _ => none
        | _ => none
      | none => none
    | _, _ => none
  | _ => none

section
variable {P : Program} {G : Orig} {w : World} {F : List SProp} {ι κ : List Spot} {T T1 : Mem}

theorem srcL_sound (H : Sat G w (emb ι T :: F)) {sz k : Nat} {v rv : Value} {vs : List Value} (h : srcL T sz k v = some vs) (hv : rn ι v = some rv) :
    ∃ rvs, rns ι vs = some rvs ∧ (Builtin.firstCells sz k rv).run P w = .ok rvs.toArray w := by
  unfold srcL at h
  split at h
  · cases h
    simp only [rn, Option.some.injEq] at hv
    subst hv
    exact ⟨[], rfl, by simp [Builtin.firstCells]⟩
  · rename_i id off _ _
    obtain ⟨s, hs, rfl⟩ := rn_sl hv
    split at h
    · rename_i c hc
      split at h
      · rename_i hb
        cases h
        obtain ⟨s', rc, h1, h2, h3⟩ := view_range (P := P) H hc hb
        rw [hs] at h1
        cases h1
        exact ⟨rc, h2, by simp [Builtin.firstCells, h3]⟩
      · cases h
    · cases h
  · rename_i s
    split at h
    · rename_i hk
      subst hk
      cases h
      simp only [rn, Option.some.injEq] at hv
      subst hv
      refine ⟨_, rns_plain _ ?_, (Src.string (P := P) (w := w) (s := s)).gives⟩
      induction s.data.toList with
      | nil => rfl
      | cons b l ih => simp only [List.map_cons, plainA, plainV, ih, Bool.and_self]
    · cases h
  · cases h

/-- What 'append' does with what is put behind. -/
structure Adds (P : Program) (w : World) (t u e : TypeId) (i : TypeInfo) (z : Value) (rx : Value) (m : Nat) (rnews : List Value) : Prop where
  fit : ∀ (base : Option Addr) (len cap : Nat) (ty : TypeId) (w' : World), len + m ≤ cap → (∀ a, base = some a → (storeCells (a.add (len * i.size)) rnews).run P w = .ok () w') → (base = none → w' = w) →
    (Builtin.append_ #[t, u] ty #[.slice base len cap, rx]).run P w = .ok (.slice base (len + m) cap) w'
  grow : ∀ (base : Option Addr) (len cap : Nat) (ty : TypeId) (olds : List Value), cap < len + m → (Builtin.firstCells i.size len (.slice base len cap)).run P w.drew = .ok olds.toArray w.drew → len + m ≤ maxLen → (len + m) * i.bytes ≤ 140737488355328 →
    (Builtin.append_ #[t, u] ty #[.slice base len cap, rx]).run P w =
      .ok (.slice (some ⟨w.heap.size, 0, none⟩) (len + m) (grownCap w (len + m) cap e)) (w.drew.alloc (.cells (olds ++ rnews ++ (Builtin.zeroCells z.cells (grownCap w (len + m) cap e - (len + m))).toList).toArray e))

theorem adds_cells {t u e : TypeId} {i : TypeInfo} {z : Value} {d : TypeDesc} (ht : P.underlying t = some (.slice e)) (hu : P.underlying u = some d) (hd : ∀ k, d ≠ .int k) (hi : P.info? e = some i) (hz : i.zero = some z)
    {rx : Value} {m : Nat} {rnews : List Value} (hl : (Builtin.lenOf rx).run P w = .ok m w) (h1 : (Builtin.firstCells i.size m rx).run P w = .ok rnews.toArray w) (h2 : (Builtin.firstCells i.size m rx).run P w.drew = .ok rnews.toArray w.drew) :
    Adds P w t u e i z rx m rnews := by
  have hut : (Go.underlying u).run P w = .ok d w := by simp [Go.underlying, hu]
  constructor
  · intro base len cap ty w' hc hs hn
    cases base with
    | none =>
      cases hn rfl
      simp [Builtin.append_, run_underlying ht, hut, sizeOf, typeInfo, hi, hl, hc, h1]
    | some a =>
      have hs := hs a rfl
      simp [Builtin.append_, run_underlying ht, hut, sizeOf, typeInfo, hi, hl, hc, h1, hs]
  · intro base len cap ty olds hg hf h63 hb
    have h63' : ¬ (9223372036854775807 < ((len : Int) + (m : Int))) := by simp only [maxLen] at h63; omega
    have h48' : ¬ (281474976710656 < Builtin.nextslicecap (len + m) cap * i.bytes) := by have := growslice_fits (need := len + m) (old := cap) hg hb; omega
    have hn : ¬ (len + m ≤ cap) := by omega
    simp [Builtin.append_, run_underlying ht, hut, sizeOf, typeInfo, zeroValue, hi, hz, hl, hn, h63', h48', Question.forced, hf, h2, newRow, grownCap]
    congr 2
    apply Array.ext'
    simp

theorem adds_zeros {t u e : TypeId} {i : TypeInfo} {z : Value} {kk : IntKind} (ht : P.underlying t = some (.slice e)) (hu : P.underlying u = some (.int kk)) (hi : P.info? e = some i) (hz : i.zero = some z) (hzs : z.cells.size = i.size)
    {m : Nat} (hm : m ≤ 1000000) (hby : i.bytes ≤ 100000) : Adds P w t u e i z (.int .i64 m) m (zerosL z.cells.toList m) := by
  have hut : (Go.underlying u).run P w = .ok (.int kk) w := by simp [Go.underlying, hu]
  have hk63 : IntKind.i64.wrap (m : Int) = m := IntWalk.i64_in _ (by omega)
  have hk0 : ¬ ((m : Int) < 0) := by omega
  have h48 : ¬ (281474976710656 < (m : Int) * i.bytes) := by
    have : m * i.bytes ≤ 1000000 * 100000 := Nat.mul_le_mul hm hby
    have h2 : ((m * i.bytes : Nat) : Int) = (m : Int) * i.bytes := by simp
    omega
  have hzv : ∀ w1, (zeroValue e).run P w1 = .ok z w1 := fun w1 => by simp [zeroValue, typeInfo, hi, hz]
  have hzc : Builtin.zeroCells z.cells m = (zerosL z.cells.toList m).toArray := zerosL_eq z.cells m _ rfl
  have he : m * i.size = 0 → zerosL z.cells.toList m = [] := fun h0 => List.eq_nil_of_length_eq_zero (by rw [zerosL_length, Array.length_toList, hzs]; exact h0)
  constructor
  · intro base len cap ty w' hc hs hn
    simp [Builtin.append_, run_underlying ht, hut, sizeOf, typeInfo, hi, asInt, asIntOf, hk63, hk0, h48, hc]
    by_cases h0 : m * i.size = 0
    · cases base with
      | none => cases hn rfl; simp [h0]
      | some a =>
        have hs := hs a rfl
        rw [he h0] at hs
        simp [h0, hs]
    · cases base with
      | none => cases hn rfl; simp [h0, hzv]
      | some a =>
        have hs := hs a rfl
        simp [h0, hzv, hzc, hs]
  · intro base len cap ty olds hg hf h63 hb
    have h63' : ¬ (9223372036854775807 < ((len : Int) + (m : Int))) := by simp only [maxLen] at h63; omega
    have h48' : ¬ (281474976710656 < Builtin.nextslicecap (len + m) cap * i.bytes) := by have := growslice_fits (need := len + m) (old := cap) hg hb; omega
    have hn : ¬ (len + m ≤ cap) := by omega
    simp [Builtin.append_, run_underlying ht, hut, sizeOf, typeInfo, hi, asInt, asIntOf, hk63, hk0, h48, hn, h63', h48', Question.forced, hf]
    by_cases h0 : m * i.size = 0
    · simp [h0, hzv, he h0, newRow, grownCap]
      congr 2
      apply Array.ext'
      simp
    · simp [h0, hzv, hzc, newRow, grownCap]
      congr 2
      apply Array.ext'
      simp

theorem growL_sound {t u e ty : TypeId} {i : TypeInfo} {z : Value} {rx : Value} {n' off len m cap : Nat} {base : Option Addr} {c news rnews rold : List Value} {v : Value} (H : Sat G w (emb ι T :: F)) (hadd : Adds P w t u e i z rx m rnews)
    (hzs : z.cells.size = i.size) (hn : rns ι news = some rnews) (hnl : news.length = m * i.size) (hold : rns ι ((c.drop off).take (len * i.size)) = some rold) (hg : cap < len + m)
    (hf : (Builtin.firstCells i.size len (.slice base len cap)).run P w.drew = .ok rold.toArray w.drew) (h : growL T ι.length off len m i.size i.bytes c news = some (v, T1, n')) :
    ∃ rv w' κ, ι <+: κ ∧ κ.length = n' ∧ (Builtin.append_ #[t, u] ty #[.slice base len cap, rx]).run P w = .ok rv w' ∧ rn κ v = some rv ∧ Sat G w' (emb κ T1 :: F) := by
  unfold growL at h
  split at h
  · rename_i hb
    obtain ⟨hb1, hb2, hb3⟩ := hb
    split at h
    · rename_i T2 hnew
      cases h
      have hby : (len + m) * i.bytes ≤ 140737488355328 := Nat.le_trans (Nat.mul_le_mul hb1 hb2) (by decide)
      have hrun := hadd.grow base len cap ty rold hg hf (by unfold maxLen; omega) hby
      have hcap := grownCap_ge w (len + m) cap e
      have hol : rold.length = len * i.size := by rw [rns_length hold]; simp; omega
      have hrl : rnews.length = m * i.size := by rw [rns_length hn]; exact hnl
      obtain ⟨C, hC⟩ : ∃ C, C = grownCap w (len + m) cap e := ⟨_, rfl⟩
      rw [← hC] at hrun hcap
      refine ⟨_, _, _, List.prefix_append _ [⟨w.heap.size, 0, some C⟩], by simp, hrun, by simp [rn, Spot.slot], ?_⟩
      refine emb_new (newL_sound hnew).1 (newL_sound hnew).2 (Sat.map (Sat.new_c H.drew) fun x hx => ⟨w.heap.size, 0, C, _, by simp, ?_, ?_, ?_, hx⟩)
      · rw [List.length_append, hnl, List.length_take, List.length_drop, Nat.min_eq_left (by omega), ← Nat.add_mul]
        exact Nat.mul_le_mul_right _ hcap
      · simp only [List.size_toArray, List.length_append, Array.length_toList, size_zeroCells, hzs, hol, hrl, ← Nat.add_mul, Nat.zero_add]
        exact Nat.mul_le_mul_right _ (by omega)
      · refine rns_mono _ _ (rns_append.2 ⟨_, _, hold, hn, ?_⟩)
        simp only [List.drop_zero]
        rw [show ((c.drop off).take (len * i.size) ++ news).length = (rold ++ rnews).length by rw [List.length_append, List.length_append, rns_length hold, rns_length hn]]
        exact List.take_left
    · cases h
  · cases h

theorem fitL_sound {t u e ty : TypeId} {i : TypeInfo} {z : Value} {rx : Value} {n' id off len m cf : Nat} {s : Spot} {news rnews : List Value} {v : Value} (H : Sat G w (emb ι T :: F)) (hadd : Adds P w t u e i z rx m rnews)
    (hn : rns ι news = some rnews) (hnl : news.length = m * i.size) (hs : ι[id]? = some s) (hfit : len + m ≤ s.slot cf) (h : fitL T ι.length id off len m cf i.size news = some (v, T1, n')) :
    ∃ rv w' κ, ι <+: κ ∧ κ.length = n' ∧ (Builtin.append_ #[t, u] ty #[.slice (some ⟨s.b, s.base + off, none⟩) len (s.slot cf), rx]).run P w = .ok rv w' ∧ rn κ v = some rv ∧ Sat G w' (emb κ T1 :: F) := by
  unfold fitL at h
  split at h
  · rename_i hm
    subst hm
    cases h
    have hnews : news = [] := List.eq_nil_of_length_eq_zero (by rw [hnl, Nat.zero_mul])
    subst hnews
    simp [rns] at hn
    subst hn
    refine ⟨_, w, ι, List.prefix_refl _, rfl, hadd.fit _ len _ ty w hfit (fun a _ => rfl) (fun h => by cases h), by simp [rn, hs], H⟩
  · split at h
    · rename_i T2 hst
      cases h
      obtain ⟨s', w', h1, h2, h3⟩ := storeL_sound (P := P) hst H hn
      rw [hs] at h1
      cases h1
      refine ⟨_, w', ι, List.prefix_refl _, rfl, hadd.fit _ len _ ty w' hfit (fun a ha => ?_) (fun h => by cases h), by simp [rn, hs], h3⟩
      cases ha
      rw [Addr.add_at, Nat.add_assoc]
      exact h2
    · cases h

theorem zeroL_info {e : TypeId} {i : TypeInfo} {z : List Value} (h : zeroL P e = some z) (hi : P.info? e = some i) : ∃ zv, i.zero = some zv ∧ zv.cells.toList = z ∧ plainA z = true := by
  unfold zeroL at h
  rw [hi] at h
  simp only at h
  split at h
  · rename_i v hv
    split at h
    · rename_i hp
      cases h
      exact ⟨v, hv, rfl, hp⟩
    · cases h
  · cases h

theorem lenL_sound {v rv : Value} {m : Nat} (h : lenL v = some m) (hv : rn ι v = some rv) (w : World) : (Builtin.lenOf rv).run P w = .ok m w := by
  unfold lenL at h
  split at h
  · rename_i a n c
    cases h
    cases a with
    | none => simp only [rn, Option.some.injEq] at hv; subst hv; rfl
    | some a =>
      obtain ⟨id, off, sp⟩ := a
      cases sp with
      | some _ => simp [rn] at hv
      | none => obtain ⟨s, _, rfl⟩ := rn_sl hv; rfl
  · cases h
    simp only [rn, Option.some.injEq] at hv
    subst hv
    rfl
  · cases h

theorem newsL_sound (H : Sat G w (emb ι T :: F)) {t u e : TypeId} {i : TypeInfo} {zv : Value} {x rx : Value} {m : Nat} {news : List Value} (ht : P.underlying t = some (.slice e)) (hi : P.info? e = some i) (hz : i.zero = some zv)
    (hzp : plainA zv.cells.toList = true) (hzs : zv.cells.size = i.size) (hby : i.bytes ≤ 100000) (h : newsL P T zv.cells.toList i.size u x = some (m, news)) (hx : rn ι x = some rx) :
    ∃ rnews, rns ι news = some rnews ∧ news.length = m * i.size ∧ Adds P w t u e i zv rx m rnews := by
  unfold newsL at h
  split at h
  · rename_i k hu
    split at h
    · rename_i l
      split at h
      · rename_i hl
        cases h
        simp only [rn, Option.some.injEq] at hx
        subst hx
        refine ⟨_, zerosL_plain (rns_plain _ hzp) _, by rw [zerosL_length, Array.length_toList, hzs], ?_⟩
        have := adds_zeros (P := P) (w := w) ht hu hi hz hzs (m := l.toNat) (by omega) hby
        rw [Int.toNat_of_nonneg hl.1] at this
        exact this
      · cases h
    · cases h
  · rename_i d hd hu
    split at h
    · rename_i m' hm
      split at h
      · rename_i vs hvs
        split at h
        · rename_i hlen
          cases h
          obtain ⟨rvs, h1, h2⟩ := srcL_sound (P := P) H hvs hx
          obtain ⟨rvs', h3, h4⟩ := srcL_sound (P := P) H.drew hvs hx
          rw [h1] at h3
          cases h3
          exact ⟨rvs, h1, hlen, adds_cells ht hu (fun k e => hd k e) hi hz (lenL_sound hm hx w) h2 h4⟩
        · cases h
      · cases h
    · cases h
  · cases h

theorem splice_tail {L vs : List Value} {p q : Nat} (h : p + q + vs.length ≤ L.length) : ((splice L (p + q) vs).drop p).take (q + vs.length) = (L.drop p).take q ++ vs := by
  have hl : ((L.drop p).take q).length = q := by simp; omega
  apply List.ext_getElem?
  intro j
  rw [List.getElem?_take, List.getElem?_drop]
  by_cases hj : j < q
  · rw [if_pos (by omega), splice_get h, if_neg (by omega), List.getElem?_append_left (by omega), List.getElem?_take, if_pos hj, List.getElem?_drop]
  · rw [List.getElem?_append_right (by omega), hl]
    by_cases h2 : j < q + vs.length
    · rw [if_pos h2, splice_get h, if_pos (by omega)]
      congr 1; omega
    · rw [if_neg h2, List.getElem?_eq_none (by omega)]

theorem appendL_sound (H : Sat G w (emb ι T :: F)) {t u ty : TypeId} {s x rs rx v : Value} {n' : Nat} (h : appendL P T ι.length t u s x = some (v, T1, n')) (hs : rn ι s = some rs) (hx : rn ι x = some rx) :
    ∃ rv w' κ, ι <+: κ ∧ κ.length = n' ∧ (Builtin.append_ #[t, u] ty #[rs, rx]).run P w = .ok rv w' ∧ rn κ v = some rv ∧ Sat G w' (emb κ T1 :: F) := by
  unfold appendL at h
  split at h
  · rename_i e ht
    split at h
    · rename_i i z hi hz
      obtain ⟨zv, hz1, hz2, hz3⟩ := zeroL_info hz hi
      subst hz2
      split at h
      · cases h
      · rename_i hsz
        simp only [not_or, ne_eq, Classical.not_not, Array.length_toList, Nat.not_lt] at hsz
        obtain ⟨hsz, hzs, hby⟩ := hsz
        split at h
        · rename_i m news hnews
          split at h
          · cases h
          · rename_i hones
            simp only [Bool.not_eq_true', Bool.not_eq_false, List.all_eq_true] at hones
            obtain ⟨rnews, hn, hnl, hadd⟩ := newsL_sound (P := P) H ht hi hz1 hz3 hzs hby hnews hx
            have exact1 : ∀ (o : LO) (c : List Value) (id off len cf cap : Nat) (sp : Spot), T.get id = some o → o.contents = some c → ι[id]? = some sp → sp.slot cf = cap → rs = .slice (some ⟨sp.b, sp.base + off, none⟩) len cap →
                (if len + m ≤ cap then fitL T ι.length id off len m cf i.size news else growL T ι.length off len m i.size i.bytes c news) = some (v, T1, n') →
                ∃ rv w' κ, ι <+: κ ∧ κ.length = n' ∧ (Builtin.append_ #[t, u] ty #[rs, rx]).run P w = .ok rv w' ∧ rn κ v = some rv ∧ Sat G w' (emb κ T1 :: F) := by
              intro o c id off len cf cap sp ho hc hsp hcap hrs h
              subst hrs
              subst hcap
              split at h
              · rename_i hfit
                exact fitL_sound H hadd hn hnl hsp hfit h
              · rename_i hfit
                have hview : viewL T id = some c := by simp [viewL, ho, hc]
                have hb : off + len * i.size ≤ c.length := by
                  unfold growL at h
                  split at h
                  · rename_i hb; exact hb.2.2
                  · cases h
                obtain ⟨s', rc, h1, h2, h3⟩ := view_range (P := P) H.drew hview hb
                rw [hsp] at h1
                cases h1
                exact growL_sound H hadd hzs hn hnl h2 (by omega) (by simp [Builtin.firstCells, h3]) h
            split at h
            · simp only [rn, Option.some.injEq] at hs
              subst hs
              split at h
              · rename_i hm
                subst hm
                cases h
                exact ⟨_, w, ι, List.prefix_refl _, rfl, hadd.fit none 0 0 ty w (Nat.le_refl _) (fun a ha => by cases ha) (fun _ => rfl), rn_plain _ rfl, H⟩
              · rename_i hm
                exact growL_sound (rold := []) H hadd hzs hn hnl (by simp [rns]) (by omega) (by simp [Builtin.firstCells]) h
            · rename_i id off len cf
              obtain ⟨sp, hsp, hrs⟩ := rn_sl hs
              split at h
              · rename_i c hk
                obtain ⟨b, hb⟩ := emb_exact H hk (.inl ⟨_, rfl⟩)
                rw [hsp] at hb
                cases hb
                exact exact1 _ c id off len cf cf _ hk rfl hsp rfl hrs h
              · rename_i c hk
                obtain ⟨b, hb⟩ := emb_exact H hk (.inr ⟨_, rfl⟩)
                rw [hsp] at hb
                cases hb
                exact exact1 _ c id off len cf cf _ hk rfl hsp rfl hrs h
              · rename_i sz' c hk
                split at h
                · cases h
                · rename_i hsz'
                  simp only [ne_eq, Classical.not_not] at hsz'
                  subst hsz'
                  obtain ⟨b, base, C, hb0, hC⟩ := emb_grow H hk
                  rw [hsp] at hb0
                  cases hb0
                  split at h
                  · rename_i hcf
                    exact exact1 _ c id off len cf (cf / 2) _ hk rfl hsp (by simp [Spot.slot, hcf]) (by rw [hrs]; simp [Spot.slot, hcf]) h
                  · rename_i hcf
                    have hslot : (⟨b, base, some C⟩ : Spot).slot cf = C - cf / 2 := by simp [Spot.slot]; omega
                    split at h
                    · cases h
                    · rename_i hoff
                      simp only [ne_eq, Classical.not_not] at hoff
                      split at h
                      · rename_i hfit
                        have : len + m ≤ (⟨b, base, some C⟩ : Spot).slot cf := by
                          rw [hslot]
                          have h1 : (cf / 2 + (len + m)) * i.size ≤ C * i.size := by rw [Nat.add_mul, ← hoff]; omega
                          have := Nat.le_of_mul_le_mul_right h1 (Nat.pos_of_ne_zero hsz)
                          omega
                        rw [hrs]
                        exact fitL_sound H hadd hn hnl hsp this h
                      · rename_i hfit
                        split at h
                        · rename_i T2 hdead
                          have hview : viewL T id = some c := by simp [viewL, hk, LO.contents]
                          have hb : off + len * i.size ≤ c.length := by
                            unfold growL at h
                            split at h
                            · rename_i hb; exact hb.2.2
                            · cases h
                          obtain ⟨s', rc, h1, h2, h3⟩ := view_range (P := P) H.drew hview hb
                          rw [hsp] at h1
                          cases h1
                          rw [hslot] at hrs
                          subst hrs
                          obtain ⟨R, HR, hput⟩ := emb_take H hk
                          by_cases hroom : len + m ≤ C - cf / 2
                          · -- there is room
                            obtain ⟨⟨b2, base2, C2, arr⟩, HR⟩ := Sat.exf (B := fun z : Nat × Nat × Nat × Array Value => Sep [pu (ι[id]? = some ⟨z.1, z.2.1, some z.2.2.1⟩ ∧ c.length ≤ z.2.2.1 * i.size ∧ z.2.1 + z.2.2.1 * i.size ≤ z.2.2.2.size ∧ rns ι c = some ((z.2.2.2.toList.drop z.2.1).take c.length)), cb true z.1 z.2.2.2]) HR
                              fun x ⟨b, base, C, arr, h1, h2, h3, h4, h5⟩ => ⟨(b, base, C, arr), HL.no, x, HL.no_ok _, (HL.no_cup _).symm, ⟨⟨h1, h2, h3, h4⟩, rfl⟩, x, HL.no, HL.ok_no _, (HL.cup_no _).symm, h5, rfl⟩
                            obtain ⟨⟨g1, g2, g3, g4⟩, HC⟩ := HR.get_sep.get_pu
                            simp only at g1 g2 g3 g4 HC
                            clear HR
                            rw [hsp] at g1
                            cases g1
                            have hrl : rnews.length = m * i.size := by rw [rns_length hn]; exact hnl
                            have hcC : cf / 2 ≤ C := by
                              have h1 : cf / 2 * i.size ≤ C * i.size := by rw [← hoff]; omega
                              exact Nat.le_of_mul_le_mul_right h1 (Nat.pos_of_ne_zero hsz)
                            have hmul : (cf / 2 + (len + m)) * i.size ≤ C * i.size := Nat.mul_le_mul_right _ (by omega)
                            have hmul2 : (C - cf / 2) * i.size + off = C * i.size := by rw [hoff, ← Nat.add_mul]; congr 1; omega
                            simp only [Nat.add_mul] at hmul
                            rw [← hoff] at hmul
                            obtain ⟨TT, HB⟩ := Sat.of_cb (G := G) (l := R :: F) HC
                            have hst := run_storeCells_at P b (base + off + len * i.size) TT rnews 0 arr w HB.obj (by omega) (ones hn hones)
                            simp only [Nat.add_zero] at hst
                            have hrun := hadd.fit (some ⟨b, base + off, none⟩) len (C - cf / 2) ty (w.setRow b (splice arr.toList (base + off + len * i.size) rnews).toArray) hroom (fun a ha => by cases ha; rw [Addr.add_at]; exact hst) (fun h => by cases h)
                            have H2 := Sat.upd_c (w' := w.setRow b (splice arr.toList (base + off + len * i.size) rnews).toArray) (G := G) (l := R :: F) HC rfl rfl (setRow_heap w b arr (splice arr.toList (base + off + len * i.size) rnews).toArray TT _ HB.obj) fun k _ hk => setRow_other w b k _ hk
                            have H3 := hput .dead T2 _ (cb true b (splice arr.toList (base + off + len * i.size) rnews).toArray :: F) hdead (Sat.map (Sat.to_pu trivial (Sat.p1 H2)) (fun _ hx => hx.2))
                            unfold growL at h
                            split at h
                            · split at h
                              · rename_i T3 hnew
                                cases h
                                have hsz2 : arr.toList.length = arr.size := by simp
                                have hold : rns ι ((c.drop off).take (len * i.size)) = some ((arr.toList.drop (base + off)).take (len * i.size)) := by
                                  have := (rns_split (rns_split g4 off).2 (len * i.size)).1
                                  rw [this, List.drop_take, List.take_take, List.drop_drop, Nat.min_eq_left (by omega)]
                                refine ⟨_, _, _, List.prefix_append _ [⟨b, base + off, some (C - cf / 2)⟩], by simp, hrun, by simp [rn, Spot.slot], ?_⟩
                                refine emb_new (newL_sound hnew).1 (newL_sound hnew).2 (Sat.map (Sat.p1 H3) fun x hx => ⟨b, base + off, C - cf / 2, _, by simp, ?_, ?_, ?_, hx⟩)
                                · rw [List.length_append, hnl, List.length_take, List.length_drop, Nat.min_eq_left (by omega), ← Nat.add_mul]
                                  exact Nat.mul_le_mul_right _ hroom
                                · rw [List.size_toArray, splice_length (by omega), hsz2]
                                  omega
                                · refine rns_mono _ _ (rns_append.2 ⟨_, _, hold, hn, ?_⟩)
                                  simp only
                                  rw [← splice_tail (L := arr.toList) (vs := rnews) (by rw [hsz2, hrl]; omega)]
                                  congr 1
                                  rw [List.length_append, List.length_take, List.length_drop, Nat.min_eq_left (by omega), hnl, hrl]
                              · cases h
                            · cases h
                          · -- there is none
                            have H1 : Sat G w (emb ι T2 :: F) := hput .dead T2 w F hdead (Sat.map (Sat.to_pu trivial HR.drop) fun _ hx => hx.2)
                            exact growL_sound H1 hadd hzs hn hnl h2 (by omega) (by simp [Builtin.firstCells, h3]) h
                        · cases h
              · cases h
            · cases h
        · cases h
    · cases h
  · cases h
end
end Go.Ev
