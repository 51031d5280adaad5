/- Closed runs by the kernel: this program's tables, and what is taken by contract. -/
import Derived.Test.YtmiikmonmgjjfaaGreatInsert
import Derived.Test.YtmiikmonmgjjfaaGreatEvHook2
import Derived.Test.YtmiikmonmgjjfaaGreatLay
import Derived.KernelRfl
namespace Go.Proofs.YtmiikmonmgjjfaaGreat
open Go.Ev Go.Sx Go.RowKit Go.Maps Go.Sort Go.Shelf

/-- Of each region that draws: the loads that are held. -/
noncomputable def evHeld : FuncId → Nat → List Nat := fun f id => match f, id with
  | 4, 4 => [4]
  | 10, 10 => [4]
  | 14, 7 => [4]
  | 14, 10 => [3, 8, 12]
  | 15, 7 => [3]
  | 20, 3 => [8, 13]
  | 20, 10 => [1, 13, 14]
  | 47, 7 => [3, 5]
  | 53, 1 => [6, 8, 11, 13]
  | 84, 12 => [11]
  | 84, 16 => [4]
  | 89, 8 => [6]
  | 89, 10 => [4]
  | 89, 13 => [4]
  | 118, 2 => [4]
  | 144, 4 => [2, 9]
  | 144, 6 => [2, 8]
  | _, _ => []
/-- The functions that the evaluator may enter, a bit a function. -/
noncomputable def evMask : Nat := 11972575690911913418514490216005304577851082477142012
noncomputable def evHooks : List (FuncId × (List Value → Mem → Nat → Ans)) := [
  (25, insertL 4),
  (34, insertL 4),
  (38, insertL 4),
  (39, insertL 2),
  (116, insertL 2),
  (119, mapCloneL), (146, sortedL 154), (141, cmpL)]
noncomputable def evHook : FuncId → Option (List Value → Mem → Nat → Ans) := fun f => evHooks.lookup f
noncomputable def cfg : Cfg := { P := Tryz.prog, ng := 0, held := evHeld, hook := evHook, good := fun f => evMask.testBit f }

set_option maxRecDepth 100000 in
theorem funcs_ok : (Tryz.prog.funcs.toList.zipIdx.all fun x => !evMask.testBit x.2 || match x.1.body with | some c => !(x.1.name == "runtime.NumGoroutine") && okC Tryz.prog (evHeld x.2) c | none => true) = true := by kernel_rfl

theorem sorted_calls (Bm b nn : Nat) (D0 : DataW Unit) (R : Value → Option (DataW Unit × List MemPlace)) (w : World) (h1 : Bm < w.heap.size) (h2 : w.cell? ⟨Bm, 0, none⟩ = some (.map (some b))) (h3 : w.ownsMap Tryz.prog 9 R b nn D0) (h4 : Maps.size D0 ≤ 100000) :
    Calls Tryz.prog 146 #[.func (.func 154) #[] #[.pointer (some ⟨Bm, 0, none⟩)]] w fun e w' => ∃ (v : Value) (ss : List (List UInt8)), e = .returned v ∧ ss.Perm (strKeys D0) ∧
      w'.ownsRow w.heap.size 9 1 v ss.length ((ss.mergeSort leB).map encStr) ∧ (v = .slice none 0 0 ↔ ss = []) ∧ Below w.heap.size w w' := by
  have hseq : SeqGives Fence.wide 2 Tryz.prog 154 #[.pointer (some ⟨Bm, 0, none⟩)] encStr (fun ss => ss.Perm (strKeys D0)) (Maps.size D0) w :=
    AnyZ.keys_gives (ρ := Tryz.keysM_ren) { Tryz.keysM with } Fence.wide _ trivial rfl (by omega) Bm b nn D0 w h1 h2 h3
  have hs : AnyZ.SortsIn Tryz.prog Tryz.sortedS_ren Fence.wide 4 :=
    ⟨fun blk off cap ss W hH hblk hsz => callsIn_wide.2 (AnyM.slices_Sort_string Tryz.sortS blk off cap ss W hH hblk hsz), fun p cap W => callsIn_wide.2 (AnyM.slices_Sort_string_none Tryz.sortS p cap W)⟩
  exact callsIn_wide.1 (AnyZ.sorted_in Tryz.sortedS Fence.wide 5 trivial trivial trivial trivial rfl (by omega) hs (enters_of Tryz.func153 (by kernel_rfl) rfl) 154 #[.pointer (some ⟨Bm, 0, none⟩)] trivial (enters_of Tryz.func154 (by kernel_rfl) rfl) _ _ (by unfold maxLen; omega) (by omega) _ hseq)

theorem cfg_ok : cfg.Ok where
  mixed := by kernel_rfl
  hooks := by
    have all : ∀ p ∈ evHooks, CallOk Tryz.prog 0 (hookOf p.1 p.2) := by
      simp only [evHooks, List.forall_mem_cons]
      refine ⟨
        insertL_ok (Bodied.of (by kernel_rfl)) (fun n i v gx ox cx ax xs ys B h1 h2 h3 h4 h5 h6 H => vcell_insert n i v gx ox cx ax xs ys B h1 h2 h3 h4 h5 h6 H),
        insertL_ok (Bodied.of (by kernel_rfl)) (fun n i v gx ox cx ax xs ys B h1 h2 h3 h4 h5 h6 H => lcell_insert n i v gx ox cx ax xs ys B h1 h2 h3 h4 h5 h6 H),
        insertL_ok (Bodied.of (by kernel_rfl)) (fun n i v gx ox cx ax xs ys B h1 h2 h3 h4 h5 h6 H => dcell_insert n i v gx ox cx ax xs ys B h1 h2 h3 h4 h5 h6 H),
        insertL_ok (Bodied.of (by kernel_rfl)) (fun n i v gx ox cx ax xs ys B h1 h2 h3 h4 h5 h6 H => field_insert n i v gx ox cx ax xs ys B h1 h2 h3 h4 h5 h6 H),
        insertL_ok (Bodied.of (by kernel_rfl)) (fun n i v gx ox cx ax xs ys B h1 h2 h3 h4 h5 h6 H => object_insert n i v gx ox cx ax xs ys B h1 h2 h3 h4 h5 h6 H),
        mapCloneL_ok (Bodied.of (by kernel_rfl)) (fun b es clock w h => AnyW.maps_Clone Tryz.cloneM b es clock w h),
        sortedL_ok (kt := 9) (by kernel_rfl) (Bodied.of (by kernel_rfl)) sorted_calls,
        cmpL_ok (Bodied.of (by kernel_rfl)) (fun a b w => Any.strings_Compare Tryz.compareS a b w), fun _ h => nomatch h⟩
    intro f g hg
    have : (f, g) ∈ evHooks := by
      have key : ∀ (l : List (FuncId × (List Value → Mem → Nat → Ans))), l.lookup f = some g → (f, g) ∈ l := by
        intro l
        induction l with
        | nil => intro h; cases h
        | cons x l ih =>
          intro h
          obtain ⟨f', g'⟩ := x
          rw [List.lookup_cons] at h
          split at h
          · rename_i he
            simp only [beq_iff_eq] at he
            cases h
            rw [he]
            exact List.mem_cons_self
          · exact List.mem_cons_of_mem _ (ih h)
      exact key _ hg
    exact all _ this
  funcs := fun f fn c hg hf hb => by
    have := funcs_ok
    rw [List.all_eq_true] at this
    have hm : (fn, f) ∈ Tryz.prog.funcs.toList.zipIdx := by
      rw [List.mem_zipIdx_iff_getElem?]
      have hf' : Tryz.prog.funcs[f]? = some fn := hf
      simpa using hf'
    have := this _ hm
    have hg' : evMask.testBit f = true := hg
    simp only [hg', hb, Bool.not_true, Bool.false_or, Bool.and_eq_true, Bool.not_eq_true'] at this
    exact this
end Go.Proofs.YtmiikmonmgjjfaaGreat
