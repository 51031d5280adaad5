/- Closed runs by the kernel: calls, and the whole. -/
import Derived.Test.YtmiikmonmgjjfaaGreatEvRun
namespace Go.Ev
open Go.Sx

section
variable {P : Program} {G : Orig} {w : World} {F : List SProp} {ι κ : List Spot} {T T1 : Mem} {ng N : Nat}

theorem setAll_get : ∀ (l : List Value) (E E1 : Tr Value) (k : Nat), setAll E k l = some E1 → ∀ t, E1.get t = if k ≤ t ∧ t < k + l.length then l[t - k]? else E.get t := by
  intro l
  induction l with
  | nil => intro E E1 k h t; simp only [setAll, Option.some.injEq] at h; subst h; rw [if_neg (by simp only [List.length_nil]; omega)]
  | cons v l ih =>
    intro E E1 k h t
    simp only [setAll] at h
    split at h
    · rename_i E2 hs
      rw [ih _ _ _ h t, Tr.get_set hs]
      simp only [List.length_cons]
      by_cases h1 : k + 1 ≤ t ∧ t < k + 1 + l.length
      · rw [if_pos h1, if_pos (by omega), show t - k = (t - (k + 1)) + 1 by omega, List.getElem?_cons_succ]
      · rw [if_neg h1]
        by_cases h2 : t = k
        · subst h2
          rw [if_pos rfl, if_pos (by omega)]
          simp
        · rw [if_neg h2, if_neg (by omega)]
    · cases h

theorem resL_sound {E : Tr Value} {a : Act} (hE : EnvR ι N E a) (H : Sat G w (emb ι T :: F)) : ∀ (l : List ResultVar) (vs : List Value), resL P E T l = some vs → ∃ rvs, rns ι vs = some rvs ∧
    (l.mapM (fun | .tmp t => pure (a.tmps.getD t undef) | .cell p t => do loadVar t (← asAddr (a.tmps.getD p undef)) : ResultVar → Sem Value)).run P w = .ok rvs w := by
  intro l
  induction l with
  | nil => intro vs h; simp only [resL, Option.some.injEq] at h; subst h; exact ⟨[], rfl, by simp⟩
  | cons x l ih =>
    intro vs h
    cases x with
    | tmp t =>
      simp only [resL] at h
      split at h
      · rename_i v r hv hr
        cases h
        obtain ⟨rvs, h1, h2⟩ := ih _ hr
        refine ⟨_, rns_cons.2 ⟨_, _, hE.get t v hv, h1, rfl⟩, ?_⟩
        rw [List.mapM_cons, Sem.run_bind]
        simp only [Sem.run_pure, Result.andThen_ok]
        rw [Sem.run_bind, h2]
        rfl
      · cases h
    | cell p t =>
      simp only [resL] at h
      split at h
      · rename_i pv r hp hr
        split at h
        · rename_i v hv
          cases h
          obtain ⟨rvs, h1, h2⟩ := ih _ hr
          have hpr := hE.get p pv hp
          obtain ⟨rv, h3, h4⟩ := loadL_sound (P := P) H hv hpr
          refine ⟨_, rns_cons.2 ⟨_, _, h4, h1, rfl⟩, ?_⟩
          have h5 : (do loadVar t (← asAddr (a.tmps.getD p undef)) : Sem Value).run P w = .ok rv w := by
            unfold loadL at hv
            split at hv
            · obtain ⟨s, hs, e⟩ := rn_ptr hpr
              rw [e] at h3 ⊢
              exact h3
            · cases hv
          rw [List.mapM_cons, Sem.run_bind]
          simp only
          rw [h5]
          simp only [Result.andThen_ok]
          rw [Sem.run_bind, h2]
          rfl
        · cases h
      · cases h

theorem results_sound {E : Tr Value} {a : Act} (hE : EnvR ι N E a) (H : Sat G w (emb ι T :: F)) {fn : Func} {vs : List Value} (h : resL P E T fn.results.toList = some vs) : ∃ rv, rn ι (retL vs) = some rv ∧ (results fn a.tmps).run P w = .ok rv w := by
  obtain ⟨rvs, h1, h2⟩ := resL_sound hE H _ _ h
  have hm : (fn.results.mapM (fun | .tmp t => pure (a.tmps.getD t undef) | .cell p t => do loadVar t (← asAddr (a.tmps.getD p undef)) : ResultVar → Sem Value)).run P w = .ok rvs.toArray w := by
    rw [Array.mapM_eq_mapM_toList]
    show Sem.run P (List.mapM _ fn.results.toList >>= fun l => pure l.toArray) w = _
    rw [Sem.run_bind, h2]
    rfl
  have hr : (results fn a.tmps).run P w = .ok (if h : rvs.toArray.size = 1 then rvs.toArray[0] else .tuple rvs.toArray) w := by
    unfold results
    rw [Sem.run_bind]
    exact congrArg (fun r : Result (Array Value) => r.andThen fun (vs : Array Value) w' => Sem.run P (pure (if h : vs.size = 1 then vs[0] else Value.tuple vs)) w') hm
  have hl := rns_length h1
  match vs, rvs, h1, hl, hr with
  | [v], [rv], h1, _, hr =>
    obtain ⟨x, b1, h3, h4, h5⟩ := rns_cons.1 h1
    cases h5
    exact ⟨_, h3, by rw [hr]; simp⟩
  | [], [], h1, _, hr => exact ⟨.tuple #[], by simp [retL, rn, rns], by rw [hr]; simp⟩
  | a :: b :: l, c :: d :: r, h1, _, hr => exact ⟨.tuple (c :: d :: r).toArray, by simp [retL, rn, h1], by rw [hr]; simp⟩
  | [_], [], _, hl, _ => simp at hl
  | [_], _ :: _ :: _, _, hl, _ => simp at hl
  | [], _ :: _, _, hl, _ => simp at hl
  | _ :: _ :: _, [], _, hl, _ => simp at hl
  | _ :: _ :: _, [_], _, hl, _ => simp at hl

theorem call_ok {C : Cfg} (hC : C.Ok) (k : Nat) (hcode : ∀ f N, CodeOk C.P C.ng N (C.held f) (run C k f N)) : CallOk C.P C.ng (evCall C (run C k)) := by
  intro f args T n v T1 n1 h
  unfold evCall at h
  split at h
  · rename_i g hg
    exact hC.hooks f g hg f args T n v T1 n1 (by simp only [if_true]; exact h)
  · split at h
    · rename_i hgood
      split at h
      · rename_i fn hf
        split at h
        · rename_i c hb
          obtain ⟨hname, hok⟩ := hC.funcs f fn c hgood hf hb
          refine ⟨⟨fn, c, hf, hname, hb⟩, ?_⟩
          intro ι w F G rargs hlen hG hargs H
          simp only at h
          split at h
          · rename_i E0 hE0
            have hal := rns_length hargs
            -- the activation's beginning
            have hR : Rel C.ng (args.length + (fn.ntmps - args.length)) G F ι ⟨E0, T, n⟩ { tmps := rargs.toArray ++ Array.replicate (fn.ntmps - rargs.toArray.size) undef, defers := [] } w := by
              refine ⟨⟨by simp [hal], rfl, fun t u hu => ?_⟩, hG, hlen, H⟩
              rw [setAll_get _ _ _ _ hE0 t] at hu
              simp only [Nat.zero_le, true_and, Nat.zero_add, Nat.sub_zero] at hu
              split at hu
              · rename_i ht
                obtain ⟨ru, h1, h2⟩ := rns_get hargs hu
                rw [h2]
                have : t < rargs.length := by omega
                simp only [Array.getD_eq_getD_getElem?, Array.getElem?_append, List.size_toArray, this, if_true]
                simp [h1]
              · rename_i ht
                have := Tr.get_full _ _ hu
                subst this
                rw [rn_undef]
                have : ¬ t < rargs.length := by omega
                simp only [Array.getD_eq_getD_getElem?, Array.getElem?_append, List.size_toArray, this, if_false]
                by_cases h3 : t - rargs.length < fn.ntmps - rargs.length
                · simp [h3]
                · simp [h3]
            have post : ∀ e st, run C k f (args.length + (fn.ntmps - args.length)) c ⟨E0, T, n⟩ = some (e, st) → (e = .normal ∨ e = .ret) →
                (match resL C.P st.E st.T fn.results.toList with
                  | some vs => some (retL vs, st.T, st.n)
                  | none => none) = some (v, T1, n1) →
                Calls C.P f rargs.toArray w fun e w' => ∃ κ rv, ι <+: κ ∧ κ.length = n1 ∧ e = .returned rv ∧ rn κ v = some rv ∧ Sat G w' (emb κ T1 :: F) := by
              intro e st hrun he h
              split at h
              · rename_i vs hvs
                cases h
                refine calls_of_wp hf hb (hcode f _ c _ e st hok hrun ι G F _ w _ hR fun a' w' κ h1 R' => ?_)
                obtain ⟨rv, h2, h3⟩ := results_sound R'.env R'.sat hvs
                have fin : a'.defers = [] ∧ ∃ v, (results fn a'.tmps).run C.P w' = .ok v w' ∧ ∃ κ rv, ι <+: κ ∧ κ.length = st.n ∧ Ending.returned v = .returned rv ∧ rn κ (retL vs) = some rv ∧ Sat G w' (emb κ st.T :: F) :=
                  ⟨R'.env.defers, rv, h3, κ, rv, h1, R'.len, rfl, h2, R'.sat⟩
                rcases he with rfl | rfl
                · exact fin
                · exact fin
              · cases h
            split at h
            · rename_i st hrun
              exact post _ st hrun (.inl rfl) h
            · rename_i st hrun
              exact post _ st hrun (.inr rfl) h
            · cases h
          · cases h
        · cases h
      · cases h
    · cases h

/-- **What the evaluator answers is what every run of the program does.** -/
theorem all_ok {C : Cfg} (hC : C.Ok) : ∀ k, CallOk C.P C.ng (evCall C (run C k)) := by
  have key : ∀ k, ∀ j, j ≤ k → ∀ f N, CodeOk C.P C.ng N (C.held f) (run C j f N) := by
    intro k
    induction k with
    | zero =>
      intro j hj f N c st e st' _ h
      have : j = 0 := by omega
      subst this
      simp [run] at h
    | succ k ih =>
      intro j hj f N
      rcases Nat.lt_or_ge j (k + 1) with h | h
      · exact ih j (by omega) f N
      · have : j = k + 1 := by omega
        subst this
        exact code_step hC k (call_ok hC k (ih k (Nat.le_refl k))) fun i hi => ih i hi f N
  exact fun k => call_ok hC k (key k k (Nat.le_refl k))
end
end Go.Ev
