/- Closed runs by the kernel: library functions that are taken by their contracts. -/
import Derived.Test.YtmiikmonmgjjfaaGreatEvAll
namespace Go.Ev
open Go.Sx

/-- A slice of one's own: what it holds, how many elements, which block. -/
def rowL (T : Mem) (sz : Nat) : Value → Option (List Value × Nat × Option Nat)
  | .slice none 0 0 => some ([], 0, none)
  | .slice (some ⟨id, off, none⟩) k cf => match T.get id with
    | some (.grow s c) => if s = sz ∧ 0 < sz ∧ cf % 2 = 0 ∧ off = cf / 2 * sz ∧ off + k * sz ≤ c.length then some ((c.drop off).take (k * sz), k, some id) else none
    | some (.cells c) => if k ≤ cf ∧ off + cf * sz ≤ c.length then some ((c.drop off).take (k * sz), k, some id) else none
    | _ => none
  | _ => none
def killL (T : Mem) : Option Nat → Option Mem
  | none => some T
  | some id => T.set id .dead
def insertL (sz : Nat) (args : List Value) (T : Mem) (n : Nat) : Ans :=
  match args with
  | [lv, .int .i64 i, .slice (some ⟨gx, ox, none⟩) 1 cx] => match rowL T sz lv, T.get gx with
    | some (xs, k, id), some (.cells ax) =>
      if 0 ≤ i ∧ i ≤ k ∧ k ≤ 1000000 ∧ 1 ≤ cx ∧ ox + cx * sz ≤ ax.length ∧ id ≠ some gx ∧ xs.all (·.oneCell') = true ∧ ((ax.drop ox).take sz).all (·.oneCell') = true then match killL T id with
        | some T1 => match T1.set gx .dead with
          | some T2 => match newL T2 n (.grow sz (xs.take (i.toNat * sz) ++ (ax.drop ox).take sz ++ xs.drop (i.toNat * sz))) with
            | some T3 => some (.slice (some ⟨n, 0, none⟩) (k + 1) 0, T3, n + 1)
            | none => none
          | none => none
        | none => none
      else none
    | _, _ => none
  | _ => none

def hookOf (f : FuncId) (g : List Value → Mem → Nat → Ans) : CallF := fun f' args T n => if f' = f then g args T n else none

def Bodied (P : Program) (f : FuncId) : Prop := ∃ fn c, P.funcs[f]? = some fn ∧ (fn.name == "runtime.NumGoroutine") = false ∧ fn.body = some c
theorem Bodied.of {P : Program} {f : FuncId} (h : (match P.funcs[f]? with | some fn => !(fn.name == "runtime.NumGoroutine") && fn.body.isSome | none => false) = true) : Bodied P f := by
  cases hf : P.funcs[f]? with
  | none => rw [hf] at h; cases h
  | some fn =>
    rw [hf] at h
    simp only [Bool.and_eq_true, Bool.not_eq_true'] at h
    obtain ⟨c, hc⟩ := Option.isSome_iff_exists.1 h.2
    exact ⟨fn, c, hf, h.1, hc⟩

theorem hook_ok {P : Program} {ng : Nat} {f : FuncId} {g : List Value → Mem → Nat → Ans} (hb : Bodied P f)
    (h : ∀ args T v T1 n1 (ι : List Spot) (w : World) (F : List SProp) (G : Orig) (rargs : List Value), g args T ι.length = some (v, T1, n1) → GI ng ι → rns ι args = some rargs → Sat G w (emb ι T :: F) →
      Calls P f rargs.toArray w fun e w' => ∃ κ rv, ι <+: κ ∧ κ.length = n1 ∧ e = .returned rv ∧ rn κ v = some rv ∧ Sat G w' (emb κ T1 :: F)) : CallOk P ng (hookOf f g) := by
  intro f' args T n v T1 n1 he
  unfold hookOf at he
  split at he
  · rename_i hf
    subst hf
    exact ⟨hb, fun ι w F G rargs hn hG ha H => by subst hn; exact h args T v T1 n1 ι w F G rargs he hG ha H⟩
  · cases he

section
variable {P : Program} {G : Orig} {w : World} {F : List SProp} {ι κ : List Spot} {T T1 : Mem}

theorem Sat.dead (H : Sat G w F) (ι : List Spot) (k : Nat) : Sat G w (atom ι k .dead :: F) := Sat.map (H.to_pu (φ := True) trivial) fun _ hx => hx.2

/-- A slice of one's own is taken out of local memory. -/
theorem rowL_sound {sz k : Nat} {lv rlv : Value} {xs : List Value} {id : Option Nat} (h : rowL T sz lv = some (xs, k, id)) (hk : killL T id = some T1) (hr : rn ι lv = some rlv) (H : Sat G w (emb ι T :: F)) :
    ∃ B rxs, Has B rlv sz k rxs ∧ rns ι xs = some rxs ∧ Sat G w (bs true B :: emb ι T1 :: F) := by
  unfold rowL at h
  split at h
  · cases h
    simp only [killL, Option.some.injEq] at hk
    subst hk
    simp only [rn, Option.some.injEq] at hr
    subst hr
    exact ⟨.nil, [], ⟨by simp, .inl ⟨rfl, rfl⟩⟩, rfl, Sat.map (H.to_pu (φ := True) trivial) fun _ hx => hx.2⟩
  · rename_i i off k0 cf
    obtain ⟨s, hs, rfl⟩ := rn_sl hr
    split at h
    · rename_i sz0 c hg
      split at h
      · rename_i hc
        cases h
        obtain ⟨rfl, h0, hc1, hc2, hc3⟩ := hc
        obtain ⟨R, H, hput⟩ := emb_take H hg
        obtain ⟨⟨b, base, C, arr⟩, H⟩ := Sat.exf (B := fun z : Nat × Nat × Nat × Array Value => Sep [pu (ι[i]? = some ⟨z.1, z.2.1, some z.2.2.1⟩ ∧ c.length ≤ z.2.2.1 * sz0 ∧ z.2.1 + z.2.2.1 * sz0 ≤ z.2.2.2.size ∧ rns ι c = some ((z.2.2.2.toList.drop z.2.1).take c.length)), cb true z.1 z.2.2.2]) H
          fun x ⟨b, base, C, arr, h1, h2, h3, h4, h5⟩ => ⟨(b, base, C, arr), HL.no, x, HL.no_ok _, (HL.no_cup _).symm, ⟨⟨h1, h2, h3, h4⟩, rfl⟩, x, HL.no, HL.ok_no _, (HL.cup_no _).symm, h5, rfl⟩
        obtain ⟨⟨hi, hC, hA, hrc⟩, H⟩ := H.get_sep.get_pu
        simp only at hi hC hA hrc H
        rw [hs] at hi
        cases hi
        have H2 : Sat G w (cb true b arr :: R :: F) := H
        have H3 := hput .dead T1 w (cb true b arr :: F) hk (Sat.dead H2.p1 ι i)
        have hrc2 := (rns_split (rns_split hrc off).2 (k * sz0)).1
        refine ⟨.at b arr, _, ⟨?_, .inr ⟨b, arr, base + off, C - cf / 2, rfl, by simp [Spot.slot, hc1], ?_, ?_, ?_⟩⟩, hrc2, H3.p1⟩
        · rw [rns_length hrc2]; simp; omega
        · have h1 : cf / 2 * sz0 + k * sz0 ≤ C * sz0 := by omega
          rw [← Nat.add_mul] at h1
          have := Nat.le_of_mul_le_mul_right h1 h0
          omega
        · rw [Nat.sub_mul]
          have h1 : cf / 2 * sz0 + k * sz0 ≤ C * sz0 := by omega
          omega
        · apply List.ext_getElem?
          intro j
          simp only [List.getElem?_take, List.getElem?_drop]
          split
          · rw [if_pos (by omega)]; congr 1; omega
          · rfl
      · cases h
    · rename_i c hg
      split at h
      · rename_i hc
        cases h
        obtain ⟨hc1, hc2⟩ := hc
        obtain ⟨R, H, hput⟩ := emb_take H hg
        obtain ⟨⟨b, rc⟩, H⟩ := Sat.exf (B := fun z : Nat × List Value => Sep [pu (ι[i]? = some ⟨z.1, 0, none⟩ ∧ rns ι c = some z.2), cb true z.1 z.2.toArray]) H fun x ⟨b, rc, h1, h2, h3⟩ =>
          ⟨(b, rc), HL.no, x, HL.no_ok _, (HL.no_cup _).symm, ⟨⟨h1, h2⟩, rfl⟩, x, HL.no, HL.ok_no _, (HL.cup_no _).symm, h3, rfl⟩
        obtain ⟨⟨hi, hrc⟩, H⟩ := H.get_sep.get_pu
        simp only at hi hrc H
        rw [hs] at hi
        cases hi
        have H2 : Sat G w (cb true b rc.toArray :: R :: F) := H
        have H3 := hput .dead T1 w (cb true b rc.toArray :: F) hk (Sat.dead H2.p1 ι i)
        have hrc2 := (rns_split (rns_split hrc off).2 (k * sz)).1
        have hl := rns_length hrc
        have h1 : k * sz ≤ cf * sz := Nat.mul_le_mul_right _ hc1
        refine ⟨.at b rc.toArray, _, ⟨?_, .inr ⟨b, _, off, cf, rfl, by simp [Spot.slot], hc1, by simp; omega, by simp⟩⟩, hrc2, H3.p1⟩
        rw [rns_length hrc2]; simp; omega
      · cases h
    · cases h
  · cases h

/-- A slice of one's own is put into local memory, as a new row. -/
theorem row_new {sz k : Nat} {v : Value} {xs rxs : List Value} (hk : 0 < k) (H : Sat G w (sl true v sz k rxs :: emb ι T :: F)) (hx : rns ι xs = some rxs) (hn : newL T ι.length (.grow sz xs) = some T1) :
    ∃ κ, ι <+: κ ∧ κ.length = ι.length + 1 ∧ rn κ (.slice (some ⟨ι.length, 0, none⟩) k 0) = some v ∧ Sat G w (emb κ T1 :: F) := by
  obtain ⟨B, hB, H2⟩ := H.get_sl
  clear H
  obtain ⟨g, c, off, cap, rfl, rfl, h1, h2, h3⟩ := hB.at hk
  have hl := hB.1
  have hl2 := rns_length hx
  refine ⟨ι ++ [⟨g, off, some cap⟩], List.prefix_append _ _, by simp, by simp [rn, Spot.slot], ?_⟩
  obtain ⟨hn1, hn2⟩ := newL_sound hn
  have h4 : k * sz ≤ cap * sz := Nat.mul_le_mul_right _ h1
  refine emb_new hn1 hn2 (Sat.map (B := atom (ι ++ [⟨g, off, some cap⟩]) ι.length (.grow sz xs)) H2 fun x hx' => ⟨g, off, cap, c, by simp, by omega, h2, ?_, hx'⟩)
  have : xs.length = k * sz := by omega
  rw [this, h3]
  exact rns_mono _ _ hx

/-- slices.Insert of one element. -/
theorem insertL_ok {ng : Nat} {f : FuncId} {sz : Nat} (hb : Bodied P f)
    (hc : ∀ {G : Orig} {w : World} {F : List SProp} (n i : Nat) (v : Value) (gx ox cx : Nat) (ax : Array Value) (xs ys : List Value) (B : Base) (_ : Has B v sz n xs) (_ : Has (.at gx ax) (.slice (some ⟨gx, ox, none⟩) 1 cx) sz 1 ys)
      (_ : ∀ u ∈ xs, u.oneCell' = true) (_ : ∀ u ∈ ys, u.oneCell' = true) (_ : i ≤ n) (_ : n ≤ 1000000) (_ : Sat G w (bs true B :: cb true gx ax :: F)),
      Calls P f #[v, .int .i64 i, .slice (some ⟨gx, ox, none⟩) 1 cx] w fun e w' => ∃ v', e = .returned v' ∧ Sat G w' (sl true v' sz (n + 1) (xs.take (i * sz) ++ ys ++ xs.drop (i * sz)) :: F)) : CallOk P ng (hookOf f (insertL sz)) := by
  refine hook_ok hb fun args T v T1 n1 ι w F G rargs he hG ha H => ?_
  unfold insertL at he
  split at he
  · rename_i lv i gx ox cx
    split at he
    · rename_i xs k id ax hrow hgx
      split at he
      · rename_i hcond
        obtain ⟨h1, h2, h3, h4, h5, h6, h7, h8⟩ := hcond
        split at he
        · rename_i T2 hk1
          split at he
          · rename_i T3 hk2
            split at he
            · rename_i T4 hnew
              cases he
              obtain ⟨rlv, b, hlv, h9, rfl⟩ := rns_cons.1 ha
              obtain ⟨ri, b, hi, h10, rfl⟩ := rns_cons.1 h9
              obtain ⟨rx, b, hx, h11, rfl⟩ := rns_cons.1 h10
              simp only [rns, Option.some.injEq] at h11
              subst h11
              simp only [rn, Option.some.injEq] at hi
              subst hi
              obtain ⟨s, hs, rfl⟩ := rn_sl hx
              obtain ⟨B, rxs, hB, hrxs, H⟩ := rowL_sound hrow hk1 hlv H
              have hgx2 : T2.get gx = some (.cells ax) := by
                cases id with
                | none => simp only [killL, Option.some.injEq] at hk1; subst hk1; exact hgx
                | some j =>
                  rw [Tr.get_set hk1, if_neg (fun e => h6 (by rw [e])), hgx]
              obtain ⟨R, H, hput⟩ := emb_take H.p1 hgx2
              obtain ⟨⟨g, rc⟩, H⟩ := Sat.exf (B := fun z : Nat × List Value => Sep [pu (ι[gx]? = some ⟨z.1, 0, none⟩ ∧ rns ι ax = some z.2), cb true z.1 z.2.toArray]) H fun x ⟨b, rc, h1, h2, h3⟩ =>
                ⟨(b, rc), HL.no, x, HL.no_ok _, (HL.no_cup _).symm, ⟨⟨h1, h2⟩, rfl⟩, x, HL.no, HL.ok_no _, (HL.cup_no _).symm, h3, rfl⟩
              obtain ⟨⟨hig, hrc⟩, H⟩ := H.get_sep.get_pu
              simp only at hig hrc H
              rw [hs] at hig
              cases hig
              have H2 : Sat G w (cb true g rc.toArray :: R :: bs true B :: F) := H
              have H3 := hput .dead T3 w (cb true g rc.toArray :: bs true B :: F) hk2 (Sat.dead H2.p1 ι gx)
              have hrl := rns_length hrc
              have hys := (rns_split (rns_split hrc ox).2 sz).1
              have hX : Has (.at g rc.toArray) (.slice (some ⟨g, ox, none⟩) 1 cx) sz 1 ((rc.drop ox).take sz) := by
                have h12 : sz ≤ cx * sz := Nat.le_mul_of_pos_left _ (by omega)
                refine ⟨by simp; omega, .inr ⟨g, _, ox, cx, rfl, rfl, h4, by simp; omega, by simp⟩⟩
              have key := hc k i.toNat rlv g ox cx rc.toArray rxs ((rc.drop ox).take sz) B hB hX (ones hrxs (by simpa using h7)) (ones hys (by simpa using h8)) (by omega) h3 (F := emb ι T3 :: F) H3.q2.p1
              have ei : ((i.toNat : Nat) : Int) = i := by omega
              rw [ei] at key
              have es : Value.slice (some ⟨g, 0 + ox, none⟩) 1 (Spot.slot ⟨g, 0, none⟩ cx) = .slice (some ⟨g, ox, none⟩) 1 cx := by simp [Spot.slot]
              rw [es]
              refine key.mono ?_
              rintro e w' ⟨v', rfl, H'⟩
              have hL : rns ι (xs.take (i.toNat * sz) ++ (ax.drop ox).take sz ++ xs.drop (i.toNat * sz)) = some (rxs.take (i.toNat * sz) ++ (rc.drop ox).take sz ++ rxs.drop (i.toNat * sz)) :=
                rns_append.2 ⟨_, _, rns_append.2 ⟨_, _, (rns_split hrxs _).1, hys, rfl⟩, (rns_split hrxs _).2, rfl⟩
              obtain ⟨κ, g1, g2, g3, g4⟩ := row_new (by omega) H' hL hnew
              exact ⟨κ, v', g1, g2, rfl, g3, g4⟩
            · cases he
          · cases he
        · cases he
      · cases he
    · cases he
  · cases he
end
end Go.Ev
