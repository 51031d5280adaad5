/- Closed runs by the kernel: local values, local memory. -/
import Derived.Test.YtmiikmonmgjjfaaGreatSep
import Derived.Test.YtmiikmonmgjjfaaGreatReg
import Derived.MapKept
namespace Go.Ev
open Go.Sx

/-! ### Trees -/

inductive Tr (α : Type) where
  | nil
  | node (o : α) (l r : Tr α)

namespace Tr
variable {α : Type}
def get : Tr α → Nat → Option α
  | .nil, _ => none
  | .node o _ _, 0 => some o
  | .node _ l r, k + 1 => if k % 2 == 0 then l.get (k / 2) else r.get (k / 2)
def set : Tr α → Nat → α → Option (Tr α)
  | .nil, 0, v => some (.node v .nil .nil)
  | .nil, _ + 1, _ => none
  | .node _ l r, 0, v => some (.node v l r)
  | .node o l r, k + 1, v =>
    if k % 2 == 0 then (match l.set (k / 2) v with | some l' => some (.node o l' r) | none => none)
    else (match r.set (k / 2) v with | some r' => some (.node o l r') | none => none)
def full (v : α) : Nat → Tr α
  | 0 => .nil
  | d + 1 => .node v (full v d) (full v d)

theorem get_set {t t' : Tr α} {k : Nat} {v : α} (h : t.set k v = some t') : ∀ j, t'.get j = if j = k then some v else t.get j := by
  induction t generalizing k t' with
  | nil =>
    cases k with
    | zero =>
      simp only [set, Option.some.injEq] at h
      subst h
      intro j
      cases j with
      | zero => simp [get]
      | succ j => simp [get]
    | succ k => simp [set] at h
  | node o l r ihl ihr =>
    cases k with
    | zero =>
      simp only [set, Option.some.injEq] at h
      subst h
      intro j
      cases j with
      | zero => simp [get]
      | succ j => simp [get]
    | succ k =>
      simp only [set] at h
      split at h
      · rename_i hk
        simp only [beq_iff_eq] at hk
        cases hl : l.set (k / 2) v with
        | none => rw [hl] at h; simp at h
        | some l' =>
          rw [hl] at h
          simp only [Option.some.injEq] at h
          subst h
          intro j
          cases j with
          | zero => simp [get]
          | succ j =>
            simp only [get]
            by_cases hj : j % 2 == 0
            · simp only [hj, if_true]
              rw [ihl hl]
              simp only [beq_iff_eq] at hj
              by_cases e : j = k
              · subst e; simp
              · rw [if_neg (by omega), if_neg (by omega)]
            · simp only [hj, Bool.false_eq_true, if_false]
              simp only [beq_iff_eq] at hj
              rw [if_neg (by omega)]
      · rename_i hk
        simp only [beq_iff_eq] at hk
        cases hr : r.set (k / 2) v with
        | none => rw [hr] at h; simp at h
        | some r' =>
          rw [hr] at h
          simp only [Option.some.injEq] at h
          subst h
          intro j
          cases j with
          | zero => simp [get]
          | succ j =>
            simp only [get]
            by_cases hj : j % 2 == 0
            · simp only [hj, if_true]
              simp only [beq_iff_eq] at hj
              rw [if_neg (by omega)]
            · simp only [hj, Bool.false_eq_true, if_false]
              rw [ihr hr]
              simp only [beq_iff_eq] at hj
              by_cases e : j = k
              · subst e; simp
              · rw [if_neg (by omega), if_neg (by omega)]

theorem get_full {v : α} : ∀ (d j : Nat) {u : α}, (full v d).get j = some u → u = v := by
  intro d
  induction d with
  | zero => intro j u h; simp [full, get] at h
  | succ d ih =>
    intro j u h
    cases j with
    | zero => simp [full, get] at h; exact h.symm
    | succ j =>
      simp only [full, get] at h
      split at h <;> exact ih _ h
end Tr

/-! ### What a local value stands for -/

structure Spot where
  b : Nat
  base : Nat
  cap : Option Nat

def Spot.slot (s : Spot) (c : Nat) : Nat := match s.cap with
  | none => c
  | some C => if c % 2 = 0 then C - c / 2 else c / 2

mutual
def rn (ι : List Spot) : Value → Option Value
  | .pointer (some ⟨id, off, none⟩) => (ι[id]?).map fun s => .pointer (some ⟨s.b, s.base + off, none⟩)
  | .pointer (some ⟨_, _, some _⟩) => none
  | .slice (some ⟨id, off, none⟩) n c => (ι[id]?).map fun s => .slice (some ⟨s.b, s.base + off, none⟩) n (s.slot c)
  | .slice (some ⟨_, _, some _⟩) _ _ => none
  | .map (some id) => (ι[id]?).map fun s => .map (some s.b)
  | .chan _ => none
  | .func fn first captured => match rns ι first.toList, rns ι captured.toList with
    | some a, some b => some (.func fn a.toArray b.toArray)
    | _, _ => none
  | .iface t v => (rn ι v).map (.iface t)
  | .agg cs => (rns ι cs.toList).map fun l => .agg l.toArray
  | .tuple cs => (rns ι cs.toList).map fun l => .tuple l.toArray
  | v => some v
def rns (ι : List Spot) : List Value → Option (List Value)
  | [] => some []
  | v :: l => match rn ι v, rns ι l with
    | some a, some b => some (a :: b)
    | _, _ => none
end

mutual
/-- no address within -/
def plainV : Value → Bool
  | .pointer (some _) => false
  | .slice (some _) _ _ => false
  | .map (some _) => false
  | .chan _ => false
  | .func _ a b => plainA a.toList && plainA b.toList
  | .iface _ v => plainV v
  | .agg cs => plainA cs.toList
  | .tuple cs => plainA cs.toList
  | _ => true
def plainA : List Value → Bool
  | [] => true
  | v :: l => plainV v && plainA l
end

section
variable {ι κ : List Spot}

theorem rns_cons {v : Value} {l rl : List Value} : rns ι (v :: l) = some rl ↔ ∃ a b, rn ι v = some a ∧ rns ι l = some b ∧ rl = a :: b := by
  simp only [rns]
  cases rn ι v <;> cases rns ι l <;> simp [eq_comm]

mutual
theorem rn_mono (v : Value) : ∀ rv, rn ι v = some rv → rn (ι ++ κ) v = some rv := by
  intro rv h
  match v with
  | .pointer (some ⟨id, off, none⟩) | .slice (some ⟨id, off, none⟩) _ _ | .map (some id) =>
    simp only [rn, Option.map_eq_some_iff] at h ⊢
    obtain ⟨s, hs, rfl⟩ := h
    exact ⟨s, by rw [List.getElem?_append_left (List.getElem?_eq_some_iff.1 hs).1]; exact hs, rfl⟩
  | .pointer (some ⟨_, _, some _⟩) | .slice (some ⟨_, _, some _⟩) _ _ | .chan _ => simp [rn] at h
  | .func fn a b =>
    simp only [rn] at h ⊢
    cases ha : rns ι a.toList with
    | none => simp [ha] at h
    | some ra =>
      cases hb : rns ι b.toList with
      | none => simp [ha, hb] at h
      | some rb => rw [rns_mono _ _ ha, rns_mono _ _ hb]; simpa [ha, hb] using h
  | .iface t u =>
    simp only [rn, Option.map_eq_some_iff] at h ⊢
    obtain ⟨s, hs, rfl⟩ := h
    exact ⟨s, rn_mono u _ hs, rfl⟩
  | .agg cs | .tuple cs =>
    simp only [rn, Option.map_eq_some_iff] at h ⊢
    obtain ⟨s, hs, rfl⟩ := h
    exact ⟨s, rns_mono _ _ hs, rfl⟩
  | .bool _ | .int _ _ | .float _ _ | .complex _ _ _ | .string _ | .pointer none | .slice none _ _ | .map none | .nilFunc | .nilIface => simpa [rn] using h
theorem rns_mono (l : List Value) : ∀ rl, rns ι l = some rl → rns (ι ++ κ) l = some rl := by
  intro rl h
  match l with
  | [] => simpa [rns] using h
  | v :: l =>
    obtain ⟨a, b, h1, h2, rfl⟩ := rns_cons.1 h
    exact rns_cons.2 ⟨a, b, rn_mono v _ h1, rns_mono l _ h2, rfl⟩
end

mutual
theorem rn_plain (v : Value) (h : plainV v = true) : rn ι v = some v := by
  match v with
  | .pointer (some _) | .slice (some _) _ _ | .map (some _) | .chan _ => simp [plainV] at h
  | .func fn a b =>
    simp only [plainV, Bool.and_eq_true] at h
    simp [rn, rns_plain _ h.1, rns_plain _ h.2]
  | .iface t u =>
    simp only [plainV] at h
    simp [rn, rn_plain u h]
  | .agg cs | .tuple cs =>
    simp only [plainV] at h
    simp [rn, rns_plain _ h]
  | .bool _ | .int _ _ | .float _ _ | .complex _ _ _ | .string _ | .pointer none | .slice none _ _ | .map none | .nilFunc | .nilIface => simp [rn]
theorem rns_plain (l : List Value) (h : plainA l = true) : rns ι l = some l := by
  match l with
  | [] => rfl
  | v :: l =>
    simp only [plainA, Bool.and_eq_true] at h
    exact rns_cons.2 ⟨_, _, rn_plain v h.1, rns_plain l h.2, rfl⟩
end

theorem rns_length {l rl : List Value} (h : rns ι l = some rl) : rl.length = l.length := by
  induction l generalizing rl with
  | nil => simp [rns] at h; subst h; rfl
  | cons v l ih =>
    obtain ⟨a, b, _, h2, rfl⟩ := rns_cons.1 h
    simp [ih h2]
theorem rns_get {l rl : List Value} (h : rns ι l = some rl) {i : Nat} {v : Value} (hv : l[i]? = some v) : ∃ rv, rl[i]? = some rv ∧ rn ι v = some rv := by
  induction l generalizing rl i with
  | nil => simp at hv
  | cons x l ih =>
    obtain ⟨a, b, h1, h2, rfl⟩ := rns_cons.1 h
    cases i with
    | zero => simp at hv; subst hv; exact ⟨a, by simp, h1⟩
    | succ i => simp at hv; simpa using ih h2 hv
theorem rns_set {l rl : List Value} (h : rns ι l = some rl) {i : Nat} {v rv : Value} (hv : rn ι v = some rv) : rns ι (l.set i v) = some (rl.set i rv) := by
  induction l generalizing rl i with
  | nil => simp [rns] at h; subst h; simp [rns]
  | cons x l ih =>
    obtain ⟨a, b, h1, h2, rfl⟩ := rns_cons.1 h
    cases i with
    | zero => exact rns_cons.2 ⟨_, _, hv, h2, rfl⟩
    | succ i => exact rns_cons.2 ⟨_, _, h1, ih h2, rfl⟩
theorem rns_append {l l' : List Value} {r : List Value} : rns ι (l ++ l') = some r ↔ ∃ a b, rns ι l = some a ∧ rns ι l' = some b ∧ r = a ++ b := by
  induction l generalizing r with
  | nil => simp [rns]
  | cons x l ih =>
    rw [List.cons_append, rns_cons]
    constructor
    · rintro ⟨a, b, h1, h2, rfl⟩
      obtain ⟨c, d, h3, h4, rfl⟩ := ih.1 h2
      exact ⟨a :: c, d, rns_cons.2 ⟨_, _, h1, h3, rfl⟩, h4, rfl⟩
    · rintro ⟨a, b, h1, h2, rfl⟩
      obtain ⟨c, d, h3, h4, rfl⟩ := rns_cons.1 h1
      exact ⟨c, d ++ b, h3, ih.2 ⟨_, _, h4, h2, rfl⟩, rfl⟩
theorem rns_split {l r : List Value} (h : rns ι l = some r) (n : Nat) : rns ι (l.take n) = some (r.take n) ∧ rns ι (l.drop n) = some (r.drop n) := by
  rw [← List.take_append_drop n l] at h
  obtain ⟨a, b, h1, h2, rfl⟩ := rns_append.1 h
  have hl := rns_length h1
  have hb := rns_length h2
  by_cases hn : n ≤ l.length
  · have : a.length = n := by rw [hl, List.length_take]; omega
    subst this
    refine ⟨?_, ?_⟩
    · rw [h1]; simp
    · rw [h2]; simp
  · have h3 : l.drop n = [] := List.drop_of_length_le (by omega)
    rw [h3] at h2
    simp [rns] at h2
    subst h2
    have h4 : a.length ≤ n := by rw [hl, List.length_take]; omega
    refine ⟨?_, ?_⟩
    · rw [h1]; simp [List.take_of_length_le h4]
    · rw [h3]; simp [rns]; rw [h3] at hb; omega
theorem rn_one {v rv : Value} (h : rn ι v = some rv) : rv.oneCell' = v.oneCell' := by
  match v with
  | .pointer (some ⟨id, off, none⟩) | .slice (some ⟨id, off, none⟩) _ _ | .map (some id) | .iface _ _ | .agg _ | .tuple _ =>
    simp only [rn, Option.map_eq_some_iff] at h
    obtain ⟨s, hs, rfl⟩ := h
    rfl
  | .pointer (some ⟨_, _, some _⟩) | .slice (some ⟨_, _, some _⟩) _ _ | .chan _ => simp [rn] at h
  | .func fn a b =>
    simp only [rn] at h
    cases ha : rns ι a.toList with
    | none => simp [ha] at h
    | some ra =>
      cases hb : rns ι b.toList with
      | none => simp [ha, hb] at h
      | some rb => simp [ha, hb] at h; subst h; rfl
  | .bool _ | .int _ _ | .float _ _ | .complex _ _ _ | .string _ | .pointer none | .slice none _ _ | .map none | .nilFunc | .nilIface => simp [rn] at h; subst h; rfl
theorem rn_cells {v rv : Value} (h : rn ι v = some rv) : rns ι v.cells.toList = some rv.cells.toList := by
  have one : ∀ (u ru : Value), rn ι u = some ru → u.cells = #[u] → ru.cells = #[ru] → rns ι u.cells.toList = some ru.cells.toList := fun u ru h h1 h2 => by
    rw [h1, h2]; exact rns_cons.2 ⟨_, [], h, rfl, rfl⟩
  match v with
  | .agg cs =>
    simp only [rn, Option.map_eq_some_iff] at h
    obtain ⟨s, hs, rfl⟩ := h
    exact hs
  | .pointer (some ⟨id, off, none⟩) | .slice (some ⟨id, off, none⟩) _ _ | .map (some id) | .iface _ _ | .tuple _ =>
    refine one _ _ h rfl ?_
    simp only [rn, Option.map_eq_some_iff] at h
    obtain ⟨s, hs, rfl⟩ := h
    rfl
  | .pointer (some ⟨_, _, some _⟩) | .slice (some ⟨_, _, some _⟩) _ _ | .chan _ => simp [rn] at h
  | .func fn a b =>
    refine one _ _ h rfl ?_
    simp only [rn] at h
    cases ha : rns ι a.toList with
    | none => simp [ha] at h
    | some ra =>
      cases hb : rns ι b.toList with
      | none => simp [ha, hb] at h
      | some rb => simp [ha, hb] at h; subst h; rfl
  | .bool _ | .int _ _ | .float _ _ | .complex _ _ _ | .string _ | .pointer none | .slice none _ _ | .map none | .nilFunc | .nilIface => refine one _ _ h rfl ?_; simp [rn] at h; subst h; rfl

theorem ones {l rl : List Value} (h : rns ι l = some rl) (h1 : ∀ u ∈ l, u.oneCell' = true) : ∀ u ∈ rl, u.oneCell' = true := by
  induction l generalizing rl with
  | nil => simp [rns] at h; subst h; simp
  | cons v l ih =>
    obtain ⟨a, b, h2, h3, rfl⟩ := rns_cons.1 h
    intro u hu
    cases hu with
    | head => rw [rn_one h2]; exact h1 v (by simp)
    | tail _ hm => exact ih h3 (fun u hu => h1 u (by simp [hu])) u hm
theorem rns_mono' {l rl : List Value} (h : rns ι l = some rl) (hp : ι <+: κ) : rns κ l = some rl := by
  obtain ⟨t, rfl⟩ := hp; exact rns_mono l _ h
theorem rn_mono' {v rv : Value} (h : rn ι v = some rv) (hp : ι <+: κ) : rn κ v = some rv := by
  obtain ⟨t, rfl⟩ := hp; exact rn_mono v _ h
end

/-! ### Local memory -/

inductive LO where
  | dead
  | cells (c : List Value)
  | ro (c : List Value)
  | grow (sz : Nat) (c : List Value)
  | map (es : List (Value × Value))

def pairs (ι : List Spot) (es : List (Value × Value)) (res : List MapEntry) : Prop :=
  rns ι (es.map (·.1)) = some (res.map (·.key)) ∧ rns ι (es.map (·.2)) = some (res.map (·.val))

def atom (ι : List Spot) (id : Nat) : LO → SProp
  | .dead => fun h => h = HL.no
  | .cells c => fun h => ∃ b rc, ι[id]? = some ⟨b, 0, none⟩ ∧ rns ι c = some rc ∧ cb true b rc.toArray h
  | .ro c => fun h => ∃ b rc T fz q, ι[id]? = some ⟨b, 0, none⟩ ∧ rns ι c = some rc ∧ bq q b (.cells rc.toArray T fz) h
  | .grow sz c => fun h => ∃ b base C arr, ι[id]? = some ⟨b, base, some C⟩ ∧ c.length ≤ C * sz ∧ base + C * sz ≤ arr.size ∧ rns ι c = some ((arr.toList.drop base).take c.length) ∧ cb true b arr h
  | .map es => fun h => ∃ b clock res, ι[id]? = some ⟨b, 0, none⟩ ∧ (pairs ι es res.toList ∧ MapKept.Stamped res clock) ∧ bq true b (.map res clock) h

def emT (f : Nat → LO → SProp) : Tr LO → SProp
  | .nil => fun h => h = HL.no
  | .node o l r => Sep [f 0 o, emT (fun k => f (2 * k + 1)) l, emT (fun k => f (2 * k + 2)) r]
def emb (ι : List Spot) (T : Tr LO) : SProp := emT (atom ι) T

theorem get_mono {ι κ : List Spot} {id : Nat} {s : Spot} (h : ι[id]? = some s) (hp : ι <+: κ) : κ[id]? = some s := by
  obtain ⟨t, rfl⟩ := hp
  rw [List.getElem?_append_left (List.getElem?_eq_some_iff.1 h).1]; exact h
theorem atom_mono {ι κ : List Spot} (hp : ι <+: κ) {id : Nat} {o : LO} {h : HL} (ha : atom ι id o h) : atom κ id o h := by
  cases o with
  | dead => exact ha
  | cells c => obtain ⟨b, rc, h1, h2, h3⟩ := ha; exact ⟨b, rc, get_mono h1 hp, rns_mono' h2 hp, h3⟩
  | ro c => obtain ⟨b, rc, T, fz, q, h1, h2, h3⟩ := ha; exact ⟨b, rc, T, fz, q, get_mono h1 hp, rns_mono' h2 hp, h3⟩
  | grow sz c => obtain ⟨b, base, C, arr, h1, h2, h3, h4, h5⟩ := ha; exact ⟨b, base, C, arr, get_mono h1 hp, h2, h3, rns_mono' h4 hp, h5⟩
  | map es => obtain ⟨b, clock, res, h1, ⟨⟨h2, h3⟩, h5⟩, h4⟩ := ha; exact ⟨b, clock, res, get_mono h1 hp, ⟨⟨rns_mono' h2 hp, rns_mono' h3 hp⟩, h5⟩, h4⟩
theorem emT_mono {f g : Nat → LO → SProp} (hfg : ∀ k o h, f k o h → g k o h) : ∀ (T : Tr LO) (h : HL), emT f T h → emT g T h := by
  intro T
  induction T generalizing f g with
  | nil => intro h hh; exact hh
  | node o l r ihl ihr =>
    rintro h ⟨x, y, h1, h2, h3, x', y', h4, h5, h6, x2, y2, h7, h8, h9, h10⟩
    exact ⟨x, y, h1, h2, hfg _ _ _ h3, x', y', h4, h5, ihl (fun k o h hh => hfg _ _ _ hh) _ h6, x2, y2, h7, h8, ihr (fun k o h hh => hfg _ _ _ hh) _ h9, h10⟩
theorem emb_mono {ι κ : List Spot} (hp : ι <+: κ) {T : Tr LO} {h : HL} (hh : emb ι T h) : emb κ T h := emT_mono (fun _ _ _ ha => atom_mono hp ha) T h hh

theorem Sep.eqv {A B C _D : SProp} {l : List SProp} (hAB : ∀ h, A h ↔ Sep [B, C] h) : ∀ h, Sep (A :: l) h ↔ Sep (B :: C :: l) h := by
  intro h
  constructor
  · rintro ⟨x, y, hok, rfl, ha, hl⟩
    exact (Sep.app (l1 := [B, C])).2 ⟨x, y, hok, rfl, (hAB x).1 ha, hl⟩
  · intro hs
    obtain ⟨x, y, hok, rfl, ha, hl⟩ := (Sep.app (l1 := [B, C])).1 hs
    exact ⟨x, y, hok, rfl, (hAB x).2 ha, hl⟩

/-- The object at 'k' and the rest. -/
theorem emT_split (T : Tr LO) : ∀ (f : Nat → LO → SProp) (k : Nat), (T.get k).isSome = true → ∃ R : SProp, ∀ o, ∃ T1, T.set k o = some T1 ∧ ∀ h, emT f T1 h ↔ Sep [f k o, R] h := by
  induction T with
  | nil => intro f k h; simp [Tr.get] at h
  | node o0 l r ihl ihr =>
    intro f k h
    cases k with
    | zero =>
      refine ⟨Sep [emT (fun k => f (2 * k + 1)) l, emT (fun k => f (2 * k + 2)) r], fun o => ⟨_, rfl, fun h => ?_⟩⟩
      constructor
      · rintro ⟨x, y, h1, h2, h3, h4⟩
        exact ⟨x, y, h1, h2, h3, y, HL.no, HL.ok_no _, (HL.cup_no _).symm, h4, rfl⟩
      · rintro ⟨x, y, h1, h2, h3, y1, y2, h4, h5, h6, h7⟩
        rw [show y2 = HL.no from h7, HL.cup_no] at h5
        subst h5
        exact ⟨x, y, h1, h2, h3, h6⟩
    | succ k =>
      by_cases hk : k % 2 == 0
      · simp only [Tr.get, hk, if_true] at h
        obtain ⟨R, hR⟩ := ihl (fun k => f (2 * k + 1)) (k / 2) h
        refine ⟨Sep [f 0 o0, R, emT (fun k => f (2 * k + 2)) r], fun o => ?_⟩
        obtain ⟨T1, h1, h2⟩ := hR o
        refine ⟨.node o0 T1 r, by simp [Tr.set, hk, h1], fun h => ?_⟩
        have e : 2 * (k / 2) + 1 = k + 1 := by simp only [beq_iff_eq] at hk; omega
        rw [e] at h2
        constructor
        · intro hs
          have hs : Sep ([emT (fun k => f (2 * k + 1)) T1] ++ [f 0 o0, emT (fun k => f (2 * k + 2)) r]) h := Sep.swap hs
          have hs := (Sep.eqv (_D := R) h2 h).1 hs
          obtain ⟨x, y, a1, a2, a3, a4⟩ := hs
          refine ⟨x, y, a1, a2, a3, y, HL.no, HL.ok_no _, (HL.cup_no _).symm, Sep.swap a4, rfl⟩
        · rintro ⟨x, y, a1, a2, a3, y1, y2, a4, a5, a6, a7⟩
          rw [show y2 = HL.no from a7, HL.cup_no] at a5
          subst a5
          exact Sep.swap ((Sep.eqv (_D := R) h2 h).2 ⟨x, y, a1, a2, a3, Sep.swap a6⟩)
      · simp only [Tr.get, hk, Bool.false_eq_true, if_false] at h
        obtain ⟨R, hR⟩ := ihr (fun k => f (2 * k + 2)) (k / 2) h
        refine ⟨Sep [R, f 0 o0, emT (fun k => f (2 * k + 1)) l], fun o => ?_⟩
        obtain ⟨T1, h1, h2⟩ := hR o
        refine ⟨.node o0 l T1, by simp [Tr.set, hk, h1], fun h => ?_⟩
        have e : 2 * (k / 2) + 2 = k + 1 := by simp only [beq_iff_eq] at hk; omega
        rw [e] at h2
        have hp : [f 0 o0, emT (fun k => f (2 * k + 1)) l, emT (fun k => f (2 * k + 2)) T1].Perm [emT (fun k => f (2 * k + 2)) T1, f 0 o0, emT (fun k => f (2 * k + 1)) l] := List.perm_middle (l₁ := [_, _])
        constructor
        · intro hs
          have hs := Sep.perm hp h hs
          have hs := (Sep.eqv (_D := R) h2 h).1 hs
          obtain ⟨x, y, a1, a2, a3, a4⟩ := hs
          exact ⟨x, y, a1, a2, a3, y, HL.no, HL.ok_no _, (HL.cup_no _).symm, a4, rfl⟩
        · rintro ⟨x, y, a1, a2, a3, y1, y2, a4, a5, a6, a7⟩
          rw [show y2 = HL.no from a7, HL.cup_no] at a5
          subst a5
          exact Sep.perm hp.symm h ((Sep.eqv (_D := R) h2 h).2 ⟨x, y, a1, a2, a3, a6⟩)

theorem Tr.set_get {α : Type} (T : Tr α) : ∀ {k : Nat} {o : α}, T.get k = some o → T.set k o = some T := by
  induction T with
  | nil => intro k o h; simp [Tr.get] at h
  | node o0 l r ihl ihr =>
    intro k o h
    cases k with
    | zero => simp [Tr.get] at h; subst h; rfl
    | succ k =>
      simp only [Tr.get] at h
      simp only [Tr.set]
      split at h
      · rename_i hk; simp [hk, ihl h]
      · rename_i hk; simp [hk, ihr h]

/-- A new object. -/
theorem emT_add (T : Tr LO) : ∀ (f : Nat → LO → SProp) (k : Nat) (o : LO) (T1 : Tr LO), T.get k = none → T.set k o = some T1 → ∀ h, Sep [f k o, emT f T] h → emT f T1 h := by
  induction T with
  | nil =>
    intro f k o T1 _ hs h hh
    cases k with
    | zero =>
      simp only [Tr.set, Option.some.injEq] at hs
      subst hs
      obtain ⟨x, y, a1, a2, a3, a4⟩ := hh
      refine ⟨x, y, a1, a2, a3, ?_⟩
      obtain ⟨y1, y2, b1, b2, b3, b4⟩ := a4
      exact ⟨y1, y2, b1, b2, b3, HL.no, y2, HL.no_ok _, (HL.no_cup _).symm, rfl, b4⟩
    | succ k => simp [Tr.set] at hs
  | node o0 l r ihl ihr =>
    intro f k o T1 hg hs h hh
    cases k with
    | zero => simp [Tr.get] at hg
    | succ k =>
      simp only [Tr.get] at hg
      simp only [Tr.set] at hs
      have hh : Sep [f (k + 1) o, f 0 o0, emT (fun k => f (2 * k + 1)) l, emT (fun k => f (2 * k + 2)) r] h := by
        obtain ⟨x, y, a1, a2, a3, y1, y2, a4, a5, a6, a7⟩ := hh
        rw [show y2 = HL.no from a7, HL.cup_no] at a5
        subst a5
        exact ⟨x, y, a1, a2, a3, a6⟩
      by_cases hk : k % 2 == 0
      · simp only [hk, if_true] at hg hs
        cases hl : l.set (k / 2) o with
        | none => simp [hl] at hs
        | some l' =>
          simp only [hl, Option.some.injEq] at hs
          subst hs
          have e : 2 * (k / 2) + 1 = k + 1 := by simp only [beq_iff_eq] at hk; omega
          have hp : [f (k + 1) o, f 0 o0, emT (fun k => f (2 * k + 1)) l, emT (fun k => f (2 * k + 2)) r].Perm ([f (k + 1) o, emT (fun k => f (2 * k + 1)) l] ++ [f 0 o0, emT (fun k => f (2 * k + 2)) r]) :=
            List.Perm.cons _ (List.Perm.swap _ _ _)
          obtain ⟨x, y, a1, a2, a3, a4⟩ := Sep.app.1 (Sep.perm hp h hh)
          have := ihl (fun k => f (2 * k + 1)) (k / 2) o l' hg hl x (by rw [e]; exact a3)
          exact Sep.swap ⟨x, y, a1, a2, this, a4⟩
      · simp only [hk, Bool.false_eq_true, if_false] at hg hs
        cases hr : r.set (k / 2) o with
        | none => simp [hr] at hs
        | some r' =>
          simp only [hr, Option.some.injEq] at hs
          subst hs
          have e : 2 * (k / 2) + 2 = k + 1 := by simp only [beq_iff_eq] at hk; omega
          have hp : [f (k + 1) o, f 0 o0, emT (fun k => f (2 * k + 1)) l, emT (fun k => f (2 * k + 2)) r].Perm ([f (k + 1) o, emT (fun k => f (2 * k + 2)) r] ++ [f 0 o0, emT (fun k => f (2 * k + 1)) l]) :=
            List.Perm.cons _ (List.perm_middle (l₁ := [_, _]))
          obtain ⟨x, y, a1, a2, a3, a4⟩ := Sep.app.1 (Sep.perm hp h hh)
          have := ihr (fun k => f (2 * k + 2)) (k / 2) o r' hg hr x (by rw [e]; exact a3)
          have hp2 : [f 0 o0, emT (fun k => f (2 * k + 1)) l, emT (fun k => f (2 * k + 2)) r'].Perm [emT (fun k => f (2 * k + 2)) r', f 0 o0, emT (fun k => f (2 * k + 1)) l] := List.perm_middle (l₁ := [_, _])
          exact Sep.perm hp2.symm h ⟨x, y, a1, a2, this, a4⟩

section
variable {G : Orig} {w : World} {F : List SProp} {ι κ : List Spot} {T T1 : Tr LO}

theorem Sat.iff1 {A B C : SProp} {l : List SProp} (hAB : ∀ h, A h ↔ Sep [B, C] h) : Sat G w (A :: l) ↔ Sat G w (B :: C :: l) :=
  ⟨fun H => H.imp fun h hs => (Sep.eqv (_D := C) hAB h).1 hs, fun H => H.imp fun h hs => (Sep.eqv (_D := C) hAB h).2 hs⟩

/-- An object of local memory by itself, and how it is put back. -/
theorem emb_take {k : Nat} {o : LO} (H : Sat G w (emb ι T :: F)) (hk : T.get k = some o) : ∃ R : SProp, Sat G w (atom ι k o :: R :: F) ∧
    ∀ (o1 : LO) (T1 : Tr LO) (w1 : World) (F1 : List SProp), T.set k o1 = some T1 → Sat G w1 (atom ι k o1 :: R :: F1) → Sat G w1 (emb ι T1 :: F1) := by
  obtain ⟨R, hR⟩ := emT_split T (atom ι) k (by simp [hk])
  refine ⟨R, ?_, fun o1 T1 w1 F1 hs H1 => ?_⟩
  · obtain ⟨T1, h1, h2⟩ := hR o
    rw [Tr.set_get T hk] at h1
    cases h1
    exact (Sat.iff1 h2).1 H
  · obtain ⟨T2, h1, h2⟩ := hR o1
    rw [hs] at h1
    cases h1
    exact (Sat.iff1 h2).2 H1
theorem emb_new {s : Spot} {o : LO} (hp : T.get ι.length = none) (hs : T.set ι.length o = some T1) (H : Sat G w (atom (ι ++ [s]) ι.length o :: emb ι T :: F)) : Sat G w (emb (ι ++ [s]) T1 :: F) := by
  refine H.imp fun h hh => ?_
  obtain ⟨x, y, a1, a2, a3, a4⟩ := (Sep.app (l1 := [_, _])).1 hh
  refine ⟨x, y, a1, a2, ?_, a4⟩
  obtain ⟨x1, y1, b1, b2, b3, x2, y2, b4, b5, b6, b7⟩ := a3
  exact emT_add T (atom (ι ++ [s])) ι.length o T1 hp hs x ⟨x1, y1, b1, b2, b3, x2, y2, b4, b5, emb_mono (List.prefix_append _ _) b6, b7⟩
end
end Go.Ev
