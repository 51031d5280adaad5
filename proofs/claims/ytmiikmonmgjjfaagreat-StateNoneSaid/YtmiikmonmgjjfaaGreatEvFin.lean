/- Closed runs by the kernel: what a closed run says of a call; what a claim asks of it. -/
import Derived.Test.YtmiikmonmgjjfaaGreatEvAll
import Derived.ChangeSame
import Derived.ProofKit
import Derived.OpenShut
namespace Go.Ev
open Go.Sx Go.ChangeShapes Go.WideShapes Go.ChangeAt

/-- What was there is as it was. -/
structure OldKept (w w' : World) : Prop where
  os : w'.os = w.os
  output : w'.output = w.output
  block : ∀ k, k < w.heap.size → w'.heap[k]? = w.heap[k]?

def allOf (w : World) : SProp := fun h => h = fun b => (w.heap[b]?).map fun o => (false, o)
def orig (w : World) : Orig := ⟨w.os, w.output⟩

theorem Sat.start (w : World) : Sat (orig w) w [allOf w] :=
  ⟨rfl, rfl, _, ⟨_, HL.no, HL.ok_no _, (HL.cup_no _).symm, rfl, rfl⟩, fun b u h => by
    obtain ⟨o, ho, rfl⟩ := Option.map_eq_some_iff.1 h
    exact ho⟩
theorem Sat.kept {w w' : World} (H : Sat (orig w) w' [allOf w]) : OldKept w w' := by
  obtain ⟨h1, h2, h, ⟨x, y, _, rfl, hx, hy⟩, h3⟩ := H
  rw [show y = HL.no from hy, HL.cup_no] at h3
  rw [show x = _ from hx] at h3
  refine ⟨h1, h2, fun k hk => ?_⟩
  rw [h3 k (false, w.heap[k]) (by simp [hk])]
  simp [hk]
theorem Sat.emb0 {G : Orig} {w : World} {F : List SProp} (H : Sat G w F) : Sat G w (emb [] .nil :: F) := Sat.map (H.to_pu (φ := True) trivial) fun _ hx => hx.2

def isT : Ans → Bool
  | some (.bool true, _, _) => true
  | _ => false

theorem isT_run {C : Cfg} (hC : C.Ok) (hng : C.ng = 0) {k : Nat} {f : FuncId} (h : isT (evCall C (run C k) f [] .nil 0) = true) (w : World) : Calls C.P f #[] w fun e w' => e = .returned (.bool true) ∧ OldKept w w' := by
  unfold isT at h
  split at h
  · rename_i T1 n1 he
    obtain ⟨_, h2⟩ := all_ok hC k f [] .nil 0 _ _ _ he
    refine (h2 [] w [allOf w] (orig w) [] rfl (fun g hg => by rw [hng] at hg; omega) rfl (Sat.emb0 (Sat.start w))).mono ?_
    rintro e w' ⟨κ, rv, _, _, rfl, h3, H⟩
    simp only [rn, Option.some.injEq] at h3
    subst h3
    exact ⟨rfl, Sat.kept H.drop⟩
  · cases h

theorem OldKept.frame {w w' : World} (h : OldKept w w') (may : MemPlace → Prop) : w.keptBut w' may := by
  refine ⟨h.os, h.output, fun i hi => ?_⟩
  rw [h.block i hi]
  cases hw : w.heap[i]? with
  | none => trivial
  | some o => cases o <;> simp
theorem OldKept.frozen {w w' : World} (h : OldKept w w') {a : Addr} (ha : a.block < w.heap.size) : w'.frozen? a = w.frozen? a := by
  unfold World.frozen?; rw [h.block _ ha]
theorem OldKept.cell {w w' : World} (h : OldKept w w') {a : Addr} (ha : a.block < w.heap.size) : w'.cell? a = w.cell? a := by
  unfold World.cell?; rw [h.block _ ha]

section
variable {H : Type} {enc : TypeId × Value → H} {P : Program}
theorem post_of_kept {f : Func} {s : ChangeSpec} {apart fresh handsOn again : Bool} {W W' : World} {args : Array Value} {v : Value} {ds gs : List (DataW H)} {before pa pv : List MemPlace}
    (hW : DataW.Whole enc P f.params.toList s.vars apart W args.toList ds gs before)
    (hres : ∀ (b : Nat) (sp : Nat → Bool) (hd : Bool), DataW.TrodAll enc P W' b sp hd f.resultTypes.toList (v.resultList f.resultTypes.size) (s.fn H (ds ++ gs)).results [])
    (hargs : ∀ sp : Nat → Bool, (∀ p ∈ before, sp p.block = true) → DataW.TrodAll enc P W' 0 sp true f.params.toList args.toList (s.fn H (ds ++ gs)).args pa)
    (hvars : ∀ sp : Nat → Bool, (∀ p ∈ before, sp p.block = true) → DataW.TrodVars enc P W' sp s.vars (s.fn H (ds ++ gs)).vars pv)
    (hps : before = pa ++ pv) (hb : OldKept W W')
    (hok : ∀ (j : Nat) (t : TypeId) (r : Value), f.resultTypes[j]? = some t → (v.resultList f.resultTypes.size)[j]? = some r → Value.okWide P W' .any 0 t r) :
    s.post enc P f apart fresh handsOn again W args v W' := by
  have hlt : ∀ p ∈ before, p.block < W.heap.size := fun p hp => hW.lt p hp
  have hold : ∀ p ∈ before, (fun b => decide (b < W.heap.size)) p.block = true := fun p hp => by simpa using hlt p hp
  refine ⟨ds, gs, before, [], pa, pv, hW, hres _ _ _, hargs _ hold, hvars _ hold, World.keptBut_mono (fun p hp => ⟨hp, ?_⟩) (hb.frame (· ∈ before)), fun _ => ?_⟩
  · rw [hps, List.mem_append] at hp
    exact Or.inr hp
  · obtain ⟨_, _, _, _, _, hz, hn⟩ := hW
    refine ⟨hok, _, _, ([] ++ pa) ++ pv, ⟨[] ++ pa, pv, trodAll_append (hargs _ (fun _ _ => rfl)) (hres _ _ _), hvars _ (fun _ _ => rfl), rfl, ?_, ?_⟩, ?_⟩
    · intro b off hp
      have hin : MemPlace.cell b off ∈ before := by rw [hps]; simpa using hp
      rw [hb.frozen (hlt _ hin)]
      exact hz b off hin
    · intro ha
      have := hn ha
      rw [hps] at this
      simpa using this
    · intro p hp _
      rw [hps]
      simpa using hp
end
end Go.Ev
