/- Closed runs by the kernel: strings compared, maps cloned, a map's keys sorted: by the library's contracts. -/
import Derived.Test.YtmiikmonmgjjfaaGreatEvHook
import Derived.Sort.KeysCollected
import Derived.Maps.Own
import Derived.Lib.Bytealg
import Derived.Below
namespace Go.Ev
open Go.Sx Go.Maps Go.Sort
open Go.Proofs (encStr)

def cmpL (args : List Value) (T : Mem) (n : Nat) : Ans :=
  match args with
  | [.string a, .string b] => some (.int .i64 (Lib.compareBytes a.data.toList b.data.toList), T, n)
  | _ => none
def mapCloneL (args : List Value) (T : Mem) (n : Nat) : Ans :=
  match args with
  | [.map (some id)] => match T.get id with
    | some (.map es) => match newL T n (.map es) with
      | some T1 => some (.map (some n), T1, n + 1)
      | none => none
    | _ => none
  | _ => none

def ltB : List UInt8 → List UInt8 → Bool
  | _, [] => false
  | [], _ :: _ => true
  | a :: l, b :: r => if a.toNat < b.toNat then true else if a.toNat = b.toNat then ltB l r else false
def insB (v : List UInt8) : List (List UInt8) → List (List UInt8)
  | [] => [v]
  | u :: l => if ltB u v then u :: insB v l else v :: u :: l
def sortB : List (List UInt8) → List (List UInt8)
  | [] => []
  | v :: l => insB v (sortB l)
def keysB : List (Value × Value) → Option (List (List UInt8))
  | [] => some []
  | (.string s, _) :: l => match keysB l with
    | some r => some (s.data.toList :: r)
    | none => none
  | _ :: _ => none
/-- slices.Sorted of a map's keys; 'g': the iterator's number. -/
def sortedL (g : FuncId) (args : List Value) (T : Mem) (n : Nat) : Ans :=
  match args with
  | [.func (.func g') a b] => if g' = g ∧ a.toList = [] then match b.toList with
      | [.pointer (some ⟨id, 0, none⟩)] => match T.get id with
        | some (.cells [.map (some m)]) => match T.get m with
          | some (.map es) => match keysB es with
            | some ks => if es.length ≤ 100000 ∧ (ks.all fun k => decide (k.length ≤ 1000000)) = true then match ks with
                | [] => some (.slice none 0 0, T, n)
                | _ => match newL T n (.grow 1 ((sortB ks).map encStr)) with
                  | some T1 => some (.slice (some ⟨n, 0, none⟩) ks.length 0, T1, n + 1)
                  | none => none
              else none
            | none => none
          | _ => none
        | _ => none
      | _ => none
    else none
  | _ => none

theorem ltB_iff : ∀ x y : List UInt8, ltB x y = true ↔ x < y := by
  intro x
  induction x with
  | nil => intro y; cases y with
    | nil => simp [ltB]
    | cons b r => simp [ltB]
  | cons a l ih => intro y; cases y with
    | nil => simp [ltB]
    | cons b r =>
      rw [List.cons_lt_cons_iff, ← ih r, UInt8.lt_iff_toNat_lt, ← UInt8.toNat_inj]
      simp only [ltB]
      by_cases h1 : a.toNat < b.toNat
      · simp [h1]
      · by_cases h2 : a.toNat = b.toNat
        · simp [h2]
        · simp [h1, h2]
theorem insB_perm (v : List UInt8) (l : List (List UInt8)) : (insB v l).Perm (v :: l) := by
  induction l with
  | nil => exact List.Perm.refl _
  | cons u l ih =>
    simp only [insB]
    split
    · exact (ih.cons u).trans (List.Perm.swap _ _ _)
    · exact List.Perm.refl _
theorem sortB_perm (l : List (List UInt8)) : (sortB l).Perm l := by
  induction l with
  | nil => exact List.Perm.refl _
  | cons v l ih => exact (insB_perm v _).trans (ih.cons v)
theorem insB_sorted (v : List UInt8) (l : List (List UInt8)) (h : l.Pairwise (fun x y => leB x y = true)) : (insB v l).Pairwise (fun x y => leB x y = true) := by
  induction l with
  | nil => simp [insB]
  | cons u l ih =>
    rw [List.pairwise_cons] at h
    simp only [insB]
    split
    · rename_i hlt
      rw [List.pairwise_cons]
      refine ⟨fun z hz => ?_, ih h.2⟩
      rcases List.mem_cons.1 ((insB_perm v l).mem_iff.1 hz) with rfl | hz
      · simp only [leB, decide_eq_true_eq]
        exact List.le_of_lt ((ltB_iff u z).1 hlt)
      · exact h.1 z hz
    · rename_i hlt
      have huv : v ≤ u := List.not_lt.1 (fun e => hlt ((ltB_iff u v).2 e))
      rw [List.pairwise_cons]
      refine ⟨fun z hz => ?_, List.pairwise_cons.2 h⟩
      simp only [leB, decide_eq_true_eq]
      rcases List.mem_cons.1 hz with rfl | hz
      · exact huv
      · have := h.1 z hz
        simp only [leB, decide_eq_true_eq] at this
        exact List.le_trans huv this
theorem sortB_sorted (l : List (List UInt8)) : (sortB l).Pairwise (fun x y => leB x y = true) := by
  induction l with
  | nil => exact List.Pairwise.nil
  | cons v l ih => exact insB_sorted v _ ih
theorem mergeSort_eq {l r : List (List UInt8)} (h : l.Perm r) : l.mergeSort leB = sortB r := by
  have tr : ∀ a b c : List UInt8, leB a b = true → leB b c = true → leB a c = true := by
    intro a b c h1 h2
    simp only [leB, decide_eq_true_eq] at *
    exact List.le_trans h1 h2
  have tot : ∀ a b : List UInt8, (leB a b || leB b a) = true := by
    intro a b
    simp only [leB, Bool.or_eq_true, decide_eq_true_eq]
    exact List.le_total a b
  refine List.Perm.eq_of_pairwise (le := fun x y => leB x y = true) (fun a b _ _ h1 h2 => ?_) (List.pairwise_mergeSort tr tot l) (sortB_sorted r) ?_
  · simp only [leB, decide_eq_true_eq] at h1 h2
    exact List.le_antisymm h1 h2
  · exact (List.mergeSort_perm l leB).trans (h.trans (sortB_perm r).symm)

section
variable {P : Program} {G : Orig} {w : World} {F : List SProp} {ι κ : List Spot} {T T1 : Mem} {ng : Nat}

theorem cmpL_ok {f : FuncId} (hb : Bodied P f) (hc : ∀ (a b : ByteArray) (w : World), Calls P f #[.string a, .string b] w fun e w' => e = .returned (.int .i64 (Lib.compareBytes a.data.toList b.data.toList)) ∧ w' = w) : CallOk P ng (hookOf f cmpL) := by
  refine hook_ok hb fun args T v T1 n1 ι w F G rargs he hG ha H => ?_
  unfold cmpL at he
  split at he
  · rename_i a b
    cases he
    simp only [rns, rn, Option.some.injEq] at ha
    subst ha
    refine (hc a b w).mono ?_
    rintro e w' ⟨rfl, rfl⟩
    exact ⟨ι, _, List.prefix_refl _, rfl, rfl, by simp [rn], H⟩
  · cases he

theorem mapCloneL_ok {f : FuncId} (hb : Bodied P f) (hc : ∀ (b : Nat) (es : Array MapEntry) (clock : Nat) (w : World), w.heap[b]? = some (.map es clock) → Calls P f #[.map (some b)] w fun e w' => e = .returned (.map (some w.heap.size)) ∧ w' = w.alloc (.map es clock)) :
    CallOk P ng (hookOf f mapCloneL) := by
  refine hook_ok hb fun args T v T1 n1 ι w F G rargs he hG ha H => ?_
  unfold mapCloneL at he
  split at he
  · rename_i id
    split at he
    · rename_i es hg
      split at he
      · rename_i T2 hn
        cases he
        obtain ⟨b, clock, res, h1, ⟨h2, h3⟩, h4, _⟩ := emb_map (P := P) H hg
        obtain ⟨rv, l, h5, h6, rfl⟩ := rns_cons.1 ha
        simp only [rns, Option.some.injEq] at h6
        subst h6
        simp only [rn, h1, Option.map_some, Option.some.injEq] at h5
        subst h5
        refine (hc b res clock w h4).mono ?_
        rintro e w' ⟨rfl, rfl⟩
        obtain ⟨hn1, hn2⟩ := newL_sound hn
        refine ⟨ι ++ [⟨w.heap.size, 0, none⟩], _, List.prefix_append _ _, by simp, rfl, by simp [rn], ?_⟩
        exact emb_new hn1 hn2 (Sat.map (Sat.alloc (o := .map res clock) H) fun x hx => ⟨w.heap.size, clock, res, by simp, ⟨⟨rns_mono _ _ h2.1, rns_mono _ _ h2.2⟩, h3⟩, hx⟩)
      · cases he
    · cases he
  · cases he

theorem keysB_sound : ∀ (es : List (Value × Value)) (ks : List (List UInt8)) (res : List MapEntry), keysB es = some ks → pairs ι es res → res.map (·.key) = ks.map encStr := by
  intro es
  induction es with
  | nil =>
    intro ks res h hp
    simp only [keysB, Option.some.injEq] at h
    subst h
    have := rns_length hp.1
    simp only [List.map_nil, List.length_nil, List.length_map] at this
    obtain rfl := List.length_eq_zero_iff.1 this
    rfl
  | cons e es ih =>
    intro ks res h hp
    obtain ⟨re, res', rfl, h1, h2, h3⟩ := pairs_cons hp
    obtain ⟨k, v⟩ := e
    unfold keysB at h
    split at h
    · rename_i heq; cases heq
    · rename_i s u l heq
      cases heq
      split at h
      · rename_i r hr
        cases h
        simp only [rn, Option.some.injEq] at h1
        simp only [List.map_cons, ih r res' hr h3, ← h1, encStr]
      · cases h
    · cases h

/-- What a map's keys read as. -/
theorem read_keys {kt : TypeId} (hkt : P.underlying kt = some .string) {ks : List (List UInt8)} {res : Array MapEntry} {clock : Nat} (hk : res.toList.map (·.key) = ks.map encStr) (hs : MapKept.Stamped res clock) (hn : res.size ≤ 100000) (hl : ∀ k ∈ ks, k.length ≤ 1000000)
    {b : Nat} {w : World} (hb : w.heap[b]? = some (.map res clock)) :
    ∃ D0 : DataW Unit, w.ownsMap P kt (fun _ => some (.nil, [])) b res.size D0 ∧ (strKeys D0).Perm ks ∧ Maps.size D0 ≤ 100000 := by
  have rdk : ∀ x ∈ res.toList, ∃ s, s ∈ ks ∧ x.key = encStr s ∧ WideElems.rd (H := Unit) P kt (fun _ => some (.nil, [])) x = some (.string s, .nil) := by
    intro x hx
    have : x.key ∈ res.toList.map (·.key) := List.mem_map_of_mem hx
    rw [hk] at this
    obtain ⟨s, hs1, hs2⟩ := List.mem_map.1 this
    refine ⟨s, hs1, hs2.symm, ?_⟩
    have := hl s hs1
    have hlen : s.length ≤ maxLen := by unfold maxLen; omega
    have hsz : (ByteArray.mk s.toArray).size ≤ maxLen := hlen
    simp [WideElems.rd, ← hs2, encStr, keyOf, hkt, mapKey, hsz]
  refine ⟨_, ⟨res, clock, hb, ⟨?_, hs, fun x hx => ?_⟩, Nat.le_refl _, rfl⟩, ?_, ?_⟩
  · unfold maxLen; omega
  · obtain ⟨s, _, _, h⟩ := rdk x hx
    exact ⟨_, h⟩
  · simp only [strKeys]
    refine ((WideShapes.sorted_perm _).map _).trans ?_
    have : ∀ (l : List MapEntry) (ks : List (List UInt8)), l.map (·.key) = ks.map encStr → (∀ x ∈ l, ∃ s, x.key = encStr s ∧ WideElems.rd (H := Unit) P kt (fun _ => some (.nil, [])) x = some (.string s, .nil)) →
        (l.map (WideElems.rg (H := Unit) P kt (fun _ => some (.nil, [])))).map (fun p => strOf p.1) = ks := by
      intro l
      induction l with
      | nil => intro ks h _; cases ks with
        | nil => rfl
        | cons k ks => simp at h
      | cons x l ih => intro ks h hr; cases ks with
        | nil => simp at h
        | cons k ks =>
          simp only [List.map_cons, List.cons.injEq] at h ⊢
          obtain ⟨s, h1, h2⟩ := hr x (by simp)
          refine ⟨?_, ih ks h.2 fun y hy => hr y (by simp [hy])⟩
          rw [WideElems.rg_of h2]
          simp only [strOf]
          exact encStr_inj (h1.symm.trans h.1)
    rw [this res.toList ks hk fun x hx => let ⟨s, _, h1, h2⟩ := rdk x hx; ⟨s, h1, h2⟩]
  · simp only [Maps.size, length_sorted]
    simpa using hn

theorem sortedL_ok {f g : FuncId} {kt : TypeId} (hkt : P.underlying kt = some .string) (hb : Bodied P f)
    (hc : ∀ (Bm b nn : Nat) (D0 : DataW Unit) (R : Value → Option (DataW Unit × List MemPlace)) (w : World), Bm < w.heap.size → w.cell? ⟨Bm, 0, none⟩ = some (.map (some b)) → w.ownsMap P kt R b nn D0 → Maps.size D0 ≤ 100000 →
      Calls P f #[.func (.func g) #[] #[.pointer (some ⟨Bm, 0, none⟩)]] w fun e w' => ∃ (v : Value) (ss : List (List UInt8)), e = .returned v ∧ ss.Perm (strKeys D0) ∧ w'.ownsRow w.heap.size kt 1 v ss.length ((ss.mergeSort leB).map encStr) ∧ (v = .slice none 0 0 ↔ ss = []) ∧ RowKit.Below w.heap.size w w') :
    CallOk P ng (hookOf f (sortedL g)) := by
  refine hook_ok hb fun args T v T1 n1 ι w F G rargs he hG ha H => ?_
  unfold sortedL at he
  split at he
  · rename_i g' a b
    split at he
    · rename_i hga
      obtain ⟨rfl, hae⟩ := hga
      have hae : a = #[] := Array.toList_eq_nil_iff.1 hae
      subst hae
      split at he
      · rename_i id hbl
        have hbe : b = #[.pointer (some ⟨id, 0, none⟩)] := Array.ext' hbl
        subst hbe
        split at he
        · rename_i m hgid
          split at he
          · rename_i es hgm
            split at he
            · rename_i ks hks
              split at he
              · rename_i hsz
                obtain ⟨hsz, hll⟩ := hsz
                obtain ⟨mb, clock, res, h1, ⟨h2, h3⟩, h4, _⟩ := emb_map (P := P) H hgm
                obtain ⟨s, rc, h5, h6, h7⟩ := emb_cells H hgid (c := [.map (some m)]) rfl
                obtain ⟨rm, l, h8, h9, rfl⟩ := rns_cons.1 h6
                simp only [rns, Option.some.injEq] at h9
                subst h9
                simp only [rn, h1, Option.map_some, Option.some.injEq] at h8
                subst h8
                have h5' : s.base = 0 := by
                  obtain ⟨b0, hb0⟩ := emb_exact H hgid (.inl ⟨_, rfl⟩)
                  rw [h5] at hb0
                  cases hb0
                  rfl
                have hcell := h7 0 _ rfl
                rw [h5'] at hcell
                have hlt : s.b < w.heap.size := by
                  rcases Nat.lt_or_ge s.b w.heap.size with h | h
                  · exact h
                  · simp [World.cell?, Array.getElem?_eq_none h] at hcell
                have hrs : res.size = es.length := by
                  have := rns_length h2.1
                  simpa using this
                obtain ⟨D0, g1, g2, g3⟩ := read_keys (P := P) hkt (keysB_sound es ks _ hks h2) h3 (by omega) (by simpa using hll) h4
                obtain ⟨rv, l, h10, h11, rfl⟩ := rns_cons.1 ha
                simp only [rns, Option.some.injEq] at h11
                subst h11
                simp only [rn, rns, h5, Option.map_some, Option.some.injEq, h5', Nat.zero_add] at h10
                subst h10
                refine (hc s.b mb res.size D0 _ w hlt hcell g1 g3).mono ?_
                rintro e w' ⟨v', ss, rfl, hp, hrow, hnil, hbel⟩
                have hpk := hp.trans g2
                have hss := mergeSort_eq hpk
                rw [hss] at hrow
                have hlen : ss.length = ks.length := hpk.length_eq
                have H' : Sat G w' (emb ι T :: F) := H.same hbel.os hbel.output hbel.block
                split at he
                · cases he
                  have : ss = [] := List.eq_nil_of_length_eq_zero hlen
                  rw [hnil.2 this]
                  exact ⟨ι, _, List.prefix_refl _, rfl, rfl, by simp [rn], H'⟩
                · rename_i hne
                  split at he
                  · rename_i T2 hn
                    cases he
                    have hpos : 0 < ks.length := List.length_pos_iff.2 hne
                    rw [hlen] at hrow
                    obtain ⟨q1, ⟨rfl, q2⟩ | ⟨gb, cap, cur, rfl, q2, q3, q4, q5, q6, q7⟩⟩ := hrow
                    · omega
                    · have H2 : Sat G w' (blk gb (.cells cur kt (0, 0)) :: emb ι T :: F) := Sat.new H hbel.os hbel.output q3 q2 hbel.block
                      have H3 : Sat G w' (sl true (.slice (some ⟨gb, 0, none⟩) ks.length cap) 1 ks.length ((sortB ks).map encStr) :: emb ι T :: F) :=
                        Sat.to_sl (B := .at gb cur) ⟨q1, .inr ⟨gb, cur, 0, cap, rfl, rfl, q4, by omega, by rw [List.drop_zero]; exact q7⟩⟩ (Sat.to_cb H2)
                      have hr : rns ι ((sortB ks).map encStr) = some ((sortB ks).map encStr) := rns_plain _ (by
                        have : ∀ l : List (List UInt8), plainA (l.map encStr) = true := by
                          intro l
                          induction l with
                          | nil => rfl
                          | cons x l ih => simp [plainA, plainV, ih]
                        exact this _)
                      obtain ⟨κ, k1, k2, k3, k4⟩ := row_new hpos H3 hr hn
                      exact ⟨κ, _, k1, k2, rfl, k3, k4⟩
                  · cases he
              · cases he
            · cases he
          · cases he
        · cases he
      · cases he
    · cases he
  · cases he
end
end Go.Ev
