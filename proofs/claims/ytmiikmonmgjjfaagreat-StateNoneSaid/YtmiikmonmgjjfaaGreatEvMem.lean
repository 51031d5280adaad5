/- Closed runs by the kernel: reading, writing, new memory. -/
import Derived.Test.YtmiikmonmgjjfaaGreatEv
namespace Go.Ev
open Go.Sx

def LO.contents : LO → Option (List Value)
  | .cells c => some c
  | .ro c => some c
  | .grow _ c => some c
  | _ => none
def LO.refill : LO → List Value → Option LO
  | .cells _, c => some (.cells c)
  | .grow sz _, c => some (.grow sz c)
  | _, _ => none
def splice (L : List Value) (p : Nat) (vs : List Value) : List Value := L.take p ++ vs ++ L.drop (p + vs.length)

theorem splice_length {L vs : List Value} {p : Nat} (h : p + vs.length ≤ L.length) : (splice L p vs).length = L.length := by
  simp [splice]; omega
theorem splice_get {L vs : List Value} {p : Nat} (h : p + vs.length ≤ L.length) (j : Nat) : (splice L p vs)[j]? = if p ≤ j ∧ j < p + vs.length then vs[j - p]? else L[j]? := by
  unfold splice
  rw [List.append_assoc]
  by_cases h1 : j < p
  · rw [List.getElem?_append_left (by simp; omega), List.getElem?_take, if_pos h1, if_neg (by omega)]
  · rw [List.getElem?_append_right (by simp; omega), List.length_take, Nat.min_eq_left (by omega)]
    by_cases h2 : j < p + vs.length
    · rw [List.getElem?_append_left (by omega), if_pos (by omega)]
    · rw [List.getElem?_append_right (by omega), List.getElem?_drop, if_neg (by omega)]
      congr 1; omega
theorem splice_view {L vs : List Value} {b p n : Nat} (h1 : p + vs.length ≤ n) (h2 : b + n ≤ L.length) : ((splice L (b + p) vs).drop b).take n = splice ((L.drop b).take n) p vs := by
  have hl : ((L.drop b).take n).length = n := by simp; omega
  apply List.ext_getElem?
  intro j
  rw [splice_get (by rw [hl]; exact h1), List.getElem?_take, List.getElem?_drop, splice_get (by omega)]
  by_cases hj : j < n
  · rw [if_pos hj]
    by_cases h3 : p ≤ j ∧ j < p + vs.length
    · rw [if_pos (by omega), if_pos h3]; congr 1; omega
    · rw [if_neg (by omega), if_neg h3, List.getElem?_take, if_pos hj, List.getElem?_drop]
  · rw [if_neg hj, if_neg (by omega), List.getElem?_take, if_neg hj]
theorem rns_splice {ι : List Spot} {L rL vs rvs : List Value} (h1 : rns ι L = some rL) (h2 : rns ι vs = some rvs) (p : Nat) : rns ι (splice L p vs) = some (splice rL p rvs) := by
  unfold splice
  have h3 := rns_split h1 p
  have h4 := rns_split h1 (p + vs.length)
  rw [rns_length h2]
  exact rns_append.2 ⟨_, _, rns_append.2 ⟨_, _, h3.1, h2, rfl⟩, h4.2, rfl⟩

section
variable {P : Program} {G : Orig} {w : World} {F : List SProp} {ι κ : List Spot} {T T1 : Tr LO}

theorem _root_.Go.Sx.Sat.getf {A : HL → Prop} {l : List SProp} {φ : Prop} (H : Sat G w (A :: l)) (h : ∀ x, A x → φ) : φ := by
  obtain ⟨_, _, _, ⟨x, _, _, _, hx, _⟩, _⟩ := H
  exact h x hx
theorem _root_.Go.Sx.Sat.map {A B : SProp} {l : List SProp} (H : Sat G w (A :: l)) (h : ∀ x, A x → B x) : Sat G w (B :: l) :=
  H.imp fun _ hh => by obtain ⟨x, y, a1, a2, a3, a4⟩ := hh; exact ⟨x, y, a1, a2, h x a3, a4⟩
theorem _root_.Go.Sx.Sat.exf {α : Type} {A : SProp} {B : α → SProp} {l : List SProp} (H : Sat G w (A :: l)) (h : ∀ x, A x → ∃ z, B z x) : ∃ z, Sat G w (B z :: l) :=
  (Sat.map (B := ex B) H h).get_ex

/-- What stands in local memory stands in the world's. -/
theorem emb_cells (H : Sat G w (emb ι T :: F)) {id : Nat} {o : LO} (hk : T.get id = some o) {c : List Value} (hc : o.contents = some c) :
    ∃ s rc, ι[id]? = some s ∧ rns ι c = some rc ∧ ∀ j v, rc[j]? = some v → w.cell? ⟨s.b, s.base + j, none⟩ = some v := by
  obtain ⟨R, H, _⟩ := emb_take H hk
  cases o with
  | dead => simp [LO.contents] at hc
  | map es => simp [LO.contents] at hc
  | cells c0 =>
    simp only [LO.contents, Option.some.injEq] at hc; subst hc
    obtain ⟨⟨b, rc⟩, H⟩ := Sat.exf (B := fun z : Nat × List Value => Sep [pu (ι[id]? = some ⟨z.1, 0, none⟩ ∧ rns ι c0 = some z.2), cb true z.1 z.2.toArray]) H fun x ⟨b, rc, h1, h2, h3⟩ =>
      ⟨(b, rc), HL.no, x, HL.no_ok _, (HL.no_cup _).symm, ⟨⟨h1, h2⟩, rfl⟩, x, HL.no, HL.ok_no _, (HL.cup_no _).symm, h3, rfl⟩
    obtain ⟨⟨h1, h2⟩, H⟩ := H.get_sep.get_pu
    refine ⟨_, rc, h1, h2, fun j v hv => ?_⟩
    rw [Sat.cell (G := G) (l := R :: F) H]
    simpa using hv
  | ro c0 =>
    simp only [LO.contents, Option.some.injEq] at hc; subst hc
    obtain ⟨⟨b, rc, TT, fz, q⟩, H⟩ := Sat.exf (B := fun z : Nat × List Value × TypeId × (Nat × Nat) × Bool => Sep [pu (ι[id]? = some ⟨z.1, 0, none⟩ ∧ rns ι c0 = some z.2.1), bq z.2.2.2.2 z.1 (.cells z.2.1.toArray z.2.2.1 z.2.2.2.1)]) H
      fun x ⟨b, rc, TT, fz, q, h1, h2, h3⟩ => ⟨(b, rc, TT, fz, q), HL.no, x, HL.no_ok _, (HL.no_cup _).symm, ⟨⟨h1, h2⟩, rfl⟩, x, HL.no, HL.ok_no _, (HL.cup_no _).symm, h3, rfl⟩
    obtain ⟨⟨h1, h2⟩, H⟩ := H.get_sep.get_pu
    refine ⟨_, rc, h1, h2, fun j v hv => ?_⟩
    have := Sat.obj (G := G) (l := R :: F) H
    simp only [World.cell?, this]
    simpa using hv
  | grow sz c0 =>
    simp only [LO.contents, Option.some.injEq] at hc; subst hc
    obtain ⟨⟨b, base, C, arr⟩, H⟩ := Sat.exf (B := fun z : Nat × Nat × Nat × Array Value => Sep [pu (ι[id]? = some ⟨z.1, z.2.1, some z.2.2.1⟩ ∧ c0.length ≤ z.2.2.1 * sz ∧ z.2.1 + z.2.2.1 * sz ≤ z.2.2.2.size ∧ rns ι c0 = some ((z.2.2.2.toList.drop z.2.1).take c0.length)), cb true z.1 z.2.2.2]) H
      fun x ⟨b, base, C, arr, h1, h2, h3, h4, h5⟩ => ⟨(b, base, C, arr), HL.no, x, HL.no_ok _, (HL.no_cup _).symm, ⟨⟨h1, h2, h3, h4⟩, rfl⟩, x, HL.no, HL.ok_no _, (HL.cup_no _).symm, h5, rfl⟩
    obtain ⟨⟨h1, h2, h3, h4⟩, H⟩ := H.get_sep.get_pu
    refine ⟨_, _, h1, h4, fun j v hv => ?_⟩
    rw [Sat.cell (G := G) (l := R :: F) H]
    rw [List.getElem?_take] at hv
    split at hv
    · simpa using hv
    · cases hv

/-- Cells of local memory are written. -/
theorem emb_store (H : Sat G w (emb ι T :: F)) {id off : Nat} {o o1 : LO} (hk : T.get id = some o) {c vs rvs : List Value} (hc : o.contents = some c) (ho : o.refill (splice c off vs) = some o1)
    (hs : T.set id o1 = some T1) (hv : rns ι vs = some rvs) (h1 : ∀ u ∈ vs, u.oneCell' = true) (hb : off + vs.length ≤ c.length) :
    ∃ s w', ι[id]? = some s ∧ (storeCells ⟨s.b, s.base + off, none⟩ rvs).run P w = .ok () w' ∧ Sat G w' (emb ι T1 :: F) := by
  obtain ⟨R, H, hput⟩ := emb_take H hk
  have hr1 := ones hv h1
  have hvl := rns_length hv
  cases o with
  | dead => simp [LO.contents] at hc
  | map es => simp [LO.contents] at hc
  | ro c => simp [LO.refill] at ho
  | cells c0 =>
    simp only [LO.contents, Option.some.injEq] at hc; subst hc
    simp only [LO.refill, Option.some.injEq] at ho; subst ho
    obtain ⟨⟨b, rc⟩, H⟩ := Sat.exf (B := fun z : Nat × List Value => Sep [pu (ι[id]? = some ⟨z.1, 0, none⟩ ∧ rns ι c0 = some z.2), cb true z.1 z.2.toArray]) H fun x ⟨b, rc, h1, h2, h3⟩ =>
      ⟨(b, rc), HL.no, x, HL.no_ok _, (HL.no_cup _).symm, ⟨⟨h1, h2⟩, rfl⟩, x, HL.no, HL.ok_no _, (HL.cup_no _).symm, h3, rfl⟩
    obtain ⟨⟨hi, hrc⟩, H⟩ := H.get_sep.get_pu
    simp only at hi hrc H
    have hcl := rns_length hrc
    obtain ⟨TT, H⟩ := Sat.of_cb (G := G) (l := R :: F) H
    have hst := run_storeCells_at P b off TT rvs 0 rc.toArray w H.obj (by simp; omega) hr1
    simp only [Nat.add_zero] at hst
    refine ⟨_, w.setRow b (splice rc off rvs).toArray, hi, by simpa [splice] using hst, hput _ _ _ _ hs ?_⟩
    have H2 := Sat.upd_c (w' := w.setRow b (splice rc off rvs).toArray) (G := G) (l := R :: F) H.to_cb rfl rfl (setRow_heap w b rc.toArray (splice rc off rvs).toArray TT _ H.obj) fun k _ hk => setRow_other w b k _ hk
    exact H2.map fun x hx => ⟨b, splice rc off rvs, hi, rns_splice hrc hv off, hx⟩
  | grow sz c0 =>
    simp only [LO.contents, Option.some.injEq] at hc; subst hc
    simp only [LO.refill, Option.some.injEq] at ho; subst ho
    obtain ⟨⟨b, base, C, arr⟩, H⟩ := Sat.exf (B := fun z : Nat × Nat × Nat × Array Value => Sep [pu (ι[id]? = some ⟨z.1, z.2.1, some z.2.2.1⟩ ∧ c0.length ≤ z.2.2.1 * sz ∧ z.2.1 + z.2.2.1 * sz ≤ z.2.2.2.size ∧ rns ι c0 = some ((z.2.2.2.toList.drop z.2.1).take c0.length)), cb true z.1 z.2.2.2]) H
      fun x ⟨b, base, C, arr, h1, h2, h3, h4, h5⟩ => ⟨(b, base, C, arr), HL.no, x, HL.no_ok _, (HL.no_cup _).symm, ⟨⟨h1, h2, h3, h4⟩, rfl⟩, x, HL.no, HL.ok_no _, (HL.cup_no _).symm, h5, rfl⟩
    obtain ⟨⟨hi, hC, hA, hrc⟩, H⟩ := H.get_sep.get_pu
    simp only at hi hC hA hrc H
    obtain ⟨TT, H⟩ := Sat.of_cb (G := G) (l := R :: F) H
    have hst := run_storeCells_at P b (base + off) TT rvs 0 arr w H.obj (by omega) hr1
    simp only [Nat.add_zero] at hst
    refine ⟨_, w.setRow b (splice arr.toList (base + off) rvs).toArray, hi, hst, hput _ _ _ _ hs ?_⟩
    have H2 := Sat.upd_c (w' := w.setRow b (splice arr.toList (base + off) rvs).toArray) (G := G) (l := R :: F) H.to_cb rfl rfl (setRow_heap w b arr (splice arr.toList (base + off) rvs).toArray TT _ H.obj) fun k _ hk => setRow_other w b k _ hk
    have hsz : arr.toList.length = arr.size := by simp
    refine H2.map fun x hx => ⟨b, base, C, (splice arr.toList (base + off) rvs).toArray, hi, by rw [splice_length hb]; exact hC, by rw [List.size_toArray, splice_length (by omega), hsz]; exact hA, ?_, hx⟩
    rw [splice_length hb]
    simp only
    rw [splice_view (by omega) (by omega)]
    exact rns_splice hrc hv off

/-- A new block of cells. -/
theorem emb_alloc (H : Sat G w (emb ι T :: F)) {c rc : List Value} (hc : rns ι c = some rc) (hg : T.get ι.length = none) (hs : T.set ι.length (.cells c) = some T1) (t : TypeId) :
    Sat G (w.alloc (.cells rc.toArray t)) (emb (ι ++ [⟨w.heap.size, 0, none⟩]) T1 :: F) := by
  refine emb_new hg hs (Sat.map (Sat.new_c (c := rc.toArray) (T := t) H) fun x hx => ⟨w.heap.size, rc, by simp, rns_mono _ _ hc, hx⟩)
end
end Go.Ev
