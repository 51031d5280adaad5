/- slices.Insert of one element into a slice of one's own, at five element types. -/
import Derived.Test.YtmiikmonmgjjfaaGreatRows
import Derived.Test.YtmiikmonmgjjfaaGreatReg
import Derived.Test.YtmiikmonmgjjfaaGreatOps
namespace Go.Proofs.YtmiikmonmgjjfaaGreat
open Go.RowKit Go.Sx
variable {G : Orig} {w : World} {F : List SProp}

theorem vcell_info : (Tryz.prog.info? 56).map (fun i => (i.zero, i.size, i.bytes)) = some (Tryz.prog.info? 56 >>= (·.zero), 4, 32) := by kernel_rfl

set_option maxHeartbeats 1000000 in
set_option maxRecDepth 100000 in
theorem vcell_insert (n i : Nat) (v : Value) (gx ox cx : Nat) (ax : Array Value) (xs ys : List Value) (B : Base) (hB : Has B v 4 n xs) (hX : Has (.at gx ax) (.slice (some ⟨gx, ox, none⟩) 1 cx) 4 1 ys)
    (h1 : ∀ u ∈ xs, u.oneCell' = true) (h2 : ∀ u ∈ ys, u.oneCell' = true) (hi : i ≤ n) (hn : n ≤ 1000000) (H : Sat G w (bs true B :: cb true gx ax :: F)) :
    Calls Tryz.prog 25 #[v, .int .i64 i, .slice (some ⟨gx, ox, none⟩) 1 cx] w fun e w' => ∃ v', e = .returned v' ∧ Sat G w' (sl true v' 4 (n + 1) (xs.take (i * 4) ++ ys ++ xs.drop (i * 4)) :: F) := by
  obtain ⟨i0, hi0, hz0, hz1, hz2⟩ := info_parts vcell_info
  obtain ⟨a, cap, rfl⟩ := hB.slice
  replace hB := Lib.hid hB
  have hl := Lib.hid hB.out.1
  rcases Nat.lt_or_ge i n with hlt | hge
  · obtain ⟨g, c, off, cap', rfl, hv, hc1, hc2, hc3⟩ := hB.out.at (by omega)
    cases hv
    replace hc3 := Lib.hid hc3
    by_cases hroom : n + 1 ≤ cap
    · have hX0 := hX.1
      simp only [Nat.one_mul] at hX0
      replace hX0 := Lib.hid hX0
      have hne1 : cap ≠ i + 1 := by omega
      have hne2 : cap ≠ i := by omega
      obtain ⟨T, HT⟩ := Sat.of_cb (l := cb true gx ax :: F) H
      have hov : ∀ lb cb', (callFunc 59 #[.slice (some ⟨gx, ox, none⟩) 1 cx, .slice (some ⟨g, off + (i + 1) * 4, none⟩) lb cb']).run Tryz.prog w = .ok (.value (.bool false)) w := fun lb cb' => by
        rw [run_callFunc_extern Tryz.func59 (by kernel_rfl) (by kernel_rfl) (by kernel_rfl) (e := Extern.SlicesOverlaps.overlaps #[53, 53] #[4]) (by kernel_rfl),
          run_overlaps_two (tS := 53) (tR := 4) Tryz.underlying53 hi0 (Sat.cne (l := F) H).symm (by omega) H.p1 H]
        rfl
      go_enter Tryz.func25, Tryz.ntmps25
      have hD := hB.out.drop hi
      have h1d : ∀ u ∈ xs.drop (i * 4), u.oneCell' = true := fun u hu => h1 u (List.mem_of_mem_drop hu)
      have hBc := (hB.out).2
      go_wp2
      refine wp_region_txt (by kernel_rfl) (by kernel_rfl) (by kernel_rfl) ?_
      go_wp2_with (with_reducible refine hold_dst 77 ?_)
      refine Hold.go (wpList_copy rfl (.tmp 73) (.tmp 76) 53 53 rfl 56 i0 Tryz.underlying53 hi0 hz1 (g := g) (m := n + 1 - i) (k := n - i) (news := xs.drop (i * 4)) rfl rfl H.drew rfl (by first | (simp; done) | (simp [Nat.min_def]; omega)) (hD.src h1d (q := true) H.drew).gives hD.1 h1d ?_ ?_)
      · have e1 : (cap - (i + 1)) * 4 + (i + 1) * 4 = cap * 4 := by omega
        omega
      intro w2 H2
      go_wp2
      refine ⟨by kernel_rfl, ?_⟩
      go_wp2_with (with_reducible refine hold_dst 82 ?_)
      refine Hold.go (wpList_copy rfl (.tmp 80) (.tmp 81) 53 53 rfl 56 i0 Tryz.underlying53 hi0 hz1 (g := g) (m := 1) (k := 1) (news := ys) rfl rfl H2 rfl (by first | (simp; done) | (simp [Nat.min_def]; omega)) (hX.src h2 (q := true) H2.p1).gives hX.1 h2 ?_ ?_)
      · have := hl.out
        simp
        omega
      intro w3 H3
      go_wp2
      go_ret
      refine ⟨_, rfl, ?_⟩
      have hd1 := hD.1
      refine Sat.to_sl (B := .at g _) ⟨?_, .inr ⟨g, _, off, cap, rfl, rfl, hroom, ?_, ?_⟩⟩ H3.p1.drop
      · have := hX0.out; have := hl.out; simp [*]; omega
      · have := hX0.out; have := hl.out; simp [*]; omega
      · rw [show (n + 1) * 4 = i * 4 + 4 + (n - i) * 4 by omega, show off + (i + 1) * 4 = off + i * 4 + 4 by omega, Nat.one_mul]
        have e := ins_room c.toList xs ys off (i * 4) 4 ((n - i) * 4) (by rw [show i * 4 + (n - i) * 4 = n * 4 by omega]; exact hc3.out) (by simp; omega) hX0.out
        first | exact e | exact e.trans (List.append_assoc _ _ _)
    · have hX0 := hX.1
      simp only [Nat.one_mul] at hX0
      replace hX0 := Lib.hid hX0
      have hk : (n : Int) + 1 - i = ((n + 1 - i : Nat) : Int) := by omega
      replace hk := Lib.hid hk
      go_enter Tryz.func25, Tryz.ntmps25
      go_wp2_with (with_reducible refine hold_dst 40 ?_)
      refine Hold.go (wpList_appz rfl (.tmp 34) (.tmp 39) 53 3 rfl .i64 56 i0 _ Tryz.underlying53 Tryz.underlying3 hi0 hz0 hz1 hz2 rfl (n := i) (cap := cap) (k := n + 1 - i) (base := some ⟨g, off, none⟩) (xs := xs.take (i * 4)) rfl rfl (congrArg (Value.int .i64) hk.out) H ((hB.out.take hi).src (fun u hu => h1 u (List.mem_of_mem_take hu)) (q := true) H) (by omega) (by unfold maxLen; omega) (by omega) ?_)
      intro g2 c2 cap2 w2 zs hzs hcap2 hc2s hc2t H2
      have e1 : i + (n + 1 - i) = n + 1 := by omega
      simp only [e1] at hcap2 hc2t ⊢
      clear e1
      replace hc2s := Lib.hid hc2s
      replace hc2t := Lib.hid hc2t
      have hne : cap2 ≠ i := by omega
      have hne1 : cap2 ≠ i + 1 := by omega
      have hne2 : cap ≠ i := by omega
      go_wp2_with (with_reducible refine hold_dst 45 ?_)
      refine Hold.go (wpList_copy rfl (.tmp 43) (.tmp 44) 53 53 rfl 56 i0 Tryz.underlying53 hi0 hz1 (m := 1) (k := 1) (news := ys) rfl rfl H2 rfl (by first | (simp; done) | (simp [Nat.min_def]; omega)) (hX.src h2 (q := true) H2.p2).gives hX.1 h2 (by rw [hc2s.out]; omega) ?_)
      intro w3 H3
      go_wp2
      refine wp_region_txt (by kernel_rfl) (by kernel_rfl) (by kernel_rfl) ?_
      go_wp2_with (with_reducible refine hold_dst 54 ?_)
      have hD := hB.out.drop hi
      refine Hold.go (wpList_copy rfl (.tmp 50) (.tmp 53) 53 53 rfl 56 i0 Tryz.underlying53 hi0 hz1 (m := n - i) (k := n - i) (news := xs.drop (i * 4)) rfl rfl H3.drew rfl (by first | (simp; done) | (simp [Nat.min_def]; omega)) (hD.src (fun u hu => h1 u (List.mem_of_mem_drop hu)) (q := true) H3.drew.p1).gives hD.1 (fun u hu => h1 u (List.mem_of_mem_drop hu)) ?_ ?_)
      · have := hX0.out; have := hc2s.out
        simp
        omega
      intro w4 H4
      go_wp2
      refine ⟨by kernel_rfl, ?_⟩
      go_wp2
      go_ret
      refine ⟨_, rfl, ?_⟩
      have hd1 := hD.1
      have hsz : c2.toList.length = cap2 * 4 := by simpa using hc2s.out
      have hLp : c2.toList.take (i * 4) = xs.take (i * 4) := by
        have := congrArg (List.take (i * 4)) hc2t.out
        rw [List.take_take, Nat.min_eq_left (by omega), List.take_left' (by rw [List.length_take, hl.out]; omega)] at this
        exact this
      refine Sat.to_sl (B := .at g2 _) ⟨?_, .inr ⟨g2, _, 0, cap2, rfl, rfl, hcap2, ?_, ?_⟩⟩ H4.p1.drop.p1.drop
      · have := hX0.out; have := hl.out; simp [*]; omega
      · have := hX0.out; have := hl.out; simp [*]; omega
      · rw [List.drop_zero, show (n + 1) * 4 = i * 4 + 4 + (n - i) * 4 by omega, show (i + 1) * 4 = i * 4 + 4 by omega, show i * 4 + 1 * 4 = i * 4 + 4 by omega]
        exact ins_grow c2.toList xs ys _ (i * 4) 4 ((n - i) * 4) hLp (by omega) hX0.out hd1
  · have : i = n := by omega
    subst this
    have key : ∀ cap', cap' = cap → Calls Tryz.prog 25 #[.slice a i cap', .int .i64 i, .slice (some ⟨gx, ox, none⟩) 1 cx] w fun e w' => ∃ v', e = .returned v' ∧ Sat G w' (sl true v' 4 (i + 1) (xs.take (i * 4) ++ ys ++ xs.drop (i * 4)) :: F) := by
      intro cap' hcc
      by_cases hce : cap' = i
      all_goals
        first | (subst hce; subst hcc) | subst hcc
        go_enter Tryz.func25, Tryz.ntmps25
        go_wp2_with (with_reducible refine hold_dst 25 ?_)
        refine Hold.go (wpList_app rfl (.tmp 23) (.tmp 24) 53 53 rfl 56 i0 _ _ Tryz.underlying53 Tryz.underlying53 (by simp) hi0 hz0 hz1 hz2 rfl rfl rfl (Sat.to_sl hB.out H) (m := 1) (hX.src h2 (q := true) H.p1) (by unfold maxLen; omega) (by omega) ?_)
        intro v' w' H'
        go_wp2
        go_ret
        refine ⟨v', rfl, ?_⟩
        have := H'.p1.drop
        rw [List.take_of_length_le (by rw [hl.out]; exact Nat.le_refl _), List.drop_of_length_le (by rw [hl.out]; exact Nat.le_refl _), List.append_nil]
        exact this
    exact key cap rfl
theorem lcell_info : (Tryz.prog.info? 76).map (fun i => (i.zero, i.size, i.bytes)) = some (Tryz.prog.info? 76 >>= (·.zero), 4, 48) := by kernel_rfl

set_option maxHeartbeats 1000000 in
set_option maxRecDepth 100000 in
theorem lcell_insert (n i : Nat) (v : Value) (gx ox cx : Nat) (ax : Array Value) (xs ys : List Value) (B : Base) (hB : Has B v 4 n xs) (hX : Has (.at gx ax) (.slice (some ⟨gx, ox, none⟩) 1 cx) 4 1 ys)
    (h1 : ∀ u ∈ xs, u.oneCell' = true) (h2 : ∀ u ∈ ys, u.oneCell' = true) (hi : i ≤ n) (hn : n ≤ 1000000) (H : Sat G w (bs true B :: cb true gx ax :: F)) :
    Calls Tryz.prog 34 #[v, .int .i64 i, .slice (some ⟨gx, ox, none⟩) 1 cx] w fun e w' => ∃ v', e = .returned v' ∧ Sat G w' (sl true v' 4 (n + 1) (xs.take (i * 4) ++ ys ++ xs.drop (i * 4)) :: F) := by
  obtain ⟨i0, hi0, hz0, hz1, hz2⟩ := info_parts lcell_info
  obtain ⟨a, cap, rfl⟩ := hB.slice
  replace hB := Lib.hid hB
  have hl := Lib.hid hB.out.1
  rcases Nat.lt_or_ge i n with hlt | hge
  · obtain ⟨g, c, off, cap', rfl, hv, hc1, hc2, hc3⟩ := hB.out.at (by omega)
    cases hv
    replace hc3 := Lib.hid hc3
    by_cases hroom : n + 1 ≤ cap
    · have hX0 := hX.1
      simp only [Nat.one_mul] at hX0
      replace hX0 := Lib.hid hX0
      have hne1 : cap ≠ i + 1 := by omega
      have hne2 : cap ≠ i := by omega
      obtain ⟨T, HT⟩ := Sat.of_cb (l := cb true gx ax :: F) H
      have hov : ∀ lb cb', (callFunc 62 #[.slice (some ⟨gx, ox, none⟩) 1 cx, .slice (some ⟨g, off + (i + 1) * 4, none⟩) lb cb']).run Tryz.prog w = .ok (.value (.bool false)) w := fun lb cb' => by
        rw [run_callFunc_extern Tryz.func62 (by kernel_rfl) (by kernel_rfl) (by kernel_rfl) (e := Extern.SlicesOverlaps.overlaps #[73, 73] #[4]) (by kernel_rfl),
          run_overlaps_two (tS := 73) (tR := 4) Tryz.underlying73 hi0 (Sat.cne (l := F) H).symm (by omega) H.p1 H]
        rfl
      go_enter Tryz.func34, Tryz.ntmps34
      have hD := hB.out.drop hi
      have h1d : ∀ u ∈ xs.drop (i * 4), u.oneCell' = true := fun u hu => h1 u (List.mem_of_mem_drop hu)
      have hBc := (hB.out).2
      go_wp2
      refine wp_region_txt (by kernel_rfl) (by kernel_rfl) (by kernel_rfl) ?_
      go_wp2_with (with_reducible refine hold_dst 77 ?_)
      refine Hold.go (wpList_copy rfl (.tmp 73) (.tmp 76) 73 73 rfl 76 i0 Tryz.underlying73 hi0 hz1 (g := g) (m := n + 1 - i) (k := n - i) (news := xs.drop (i * 4)) rfl rfl H.drew rfl (by first | (simp; done) | (simp [Nat.min_def]; omega)) (hD.src h1d (q := true) H.drew).gives hD.1 h1d ?_ ?_)
      · have e1 : (cap - (i + 1)) * 4 + (i + 1) * 4 = cap * 4 := by omega
        omega
      intro w2 H2
      go_wp2
      refine ⟨by kernel_rfl, ?_⟩
      go_wp2_with (with_reducible refine hold_dst 82 ?_)
      refine Hold.go (wpList_copy rfl (.tmp 80) (.tmp 81) 73 73 rfl 76 i0 Tryz.underlying73 hi0 hz1 (g := g) (m := 1) (k := 1) (news := ys) rfl rfl H2 rfl (by first | (simp; done) | (simp [Nat.min_def]; omega)) (hX.src h2 (q := true) H2.p1).gives hX.1 h2 ?_ ?_)
      · have := hl.out
        simp
        omega
      intro w3 H3
      go_wp2
      go_ret
      refine ⟨_, rfl, ?_⟩
      have hd1 := hD.1
      refine Sat.to_sl (B := .at g _) ⟨?_, .inr ⟨g, _, off, cap, rfl, rfl, hroom, ?_, ?_⟩⟩ H3.p1.drop
      · have := hX0.out; have := hl.out; simp [*]; omega
      · have := hX0.out; have := hl.out; simp [*]; omega
      · rw [show (n + 1) * 4 = i * 4 + 4 + (n - i) * 4 by omega, show off + (i + 1) * 4 = off + i * 4 + 4 by omega, Nat.one_mul]
        have e := ins_room c.toList xs ys off (i * 4) 4 ((n - i) * 4) (by rw [show i * 4 + (n - i) * 4 = n * 4 by omega]; exact hc3.out) (by simp; omega) hX0.out
        first | exact e | exact e.trans (List.append_assoc _ _ _)
    · have hX0 := hX.1
      simp only [Nat.one_mul] at hX0
      replace hX0 := Lib.hid hX0
      have hk : (n : Int) + 1 - i = ((n + 1 - i : Nat) : Int) := by omega
      replace hk := Lib.hid hk
      go_enter Tryz.func34, Tryz.ntmps34
      go_wp2_with (with_reducible refine hold_dst 40 ?_)
      refine Hold.go (wpList_appz rfl (.tmp 34) (.tmp 39) 73 3 rfl .i64 76 i0 _ Tryz.underlying73 Tryz.underlying3 hi0 hz0 hz1 hz2 rfl (n := i) (cap := cap) (k := n + 1 - i) (base := some ⟨g, off, none⟩) (xs := xs.take (i * 4)) rfl rfl (congrArg (Value.int .i64) hk.out) H ((hB.out.take hi).src (fun u hu => h1 u (List.mem_of_mem_take hu)) (q := true) H) (by omega) (by unfold maxLen; omega) (by omega) ?_)
      intro g2 c2 cap2 w2 zs hzs hcap2 hc2s hc2t H2
      have e1 : i + (n + 1 - i) = n + 1 := by omega
      simp only [e1] at hcap2 hc2t ⊢
      clear e1
      replace hc2s := Lib.hid hc2s
      replace hc2t := Lib.hid hc2t
      have hne : cap2 ≠ i := by omega
      have hne1 : cap2 ≠ i + 1 := by omega
      have hne2 : cap ≠ i := by omega
      go_wp2_with (with_reducible refine hold_dst 45 ?_)
      refine Hold.go (wpList_copy rfl (.tmp 43) (.tmp 44) 73 73 rfl 76 i0 Tryz.underlying73 hi0 hz1 (m := 1) (k := 1) (news := ys) rfl rfl H2 rfl (by first | (simp; done) | (simp [Nat.min_def]; omega)) (hX.src h2 (q := true) H2.p2).gives hX.1 h2 (by rw [hc2s.out]; omega) ?_)
      intro w3 H3
      go_wp2
      refine wp_region_txt (by kernel_rfl) (by kernel_rfl) (by kernel_rfl) ?_
      go_wp2_with (with_reducible refine hold_dst 54 ?_)
      have hD := hB.out.drop hi
      refine Hold.go (wpList_copy rfl (.tmp 50) (.tmp 53) 73 73 rfl 76 i0 Tryz.underlying73 hi0 hz1 (m := n - i) (k := n - i) (news := xs.drop (i * 4)) rfl rfl H3.drew rfl (by first | (simp; done) | (simp [Nat.min_def]; omega)) (hD.src (fun u hu => h1 u (List.mem_of_mem_drop hu)) (q := true) H3.drew.p1).gives hD.1 (fun u hu => h1 u (List.mem_of_mem_drop hu)) ?_ ?_)
      · have := hX0.out; have := hc2s.out
        simp
        omega
      intro w4 H4
      go_wp2
      refine ⟨by kernel_rfl, ?_⟩
      go_wp2
      go_ret
      refine ⟨_, rfl, ?_⟩
      have hd1 := hD.1
      have hsz : c2.toList.length = cap2 * 4 := by simpa using hc2s.out
      have hLp : c2.toList.take (i * 4) = xs.take (i * 4) := by
        have := congrArg (List.take (i * 4)) hc2t.out
        rw [List.take_take, Nat.min_eq_left (by omega), List.take_left' (by rw [List.length_take, hl.out]; omega)] at this
        exact this
      refine Sat.to_sl (B := .at g2 _) ⟨?_, .inr ⟨g2, _, 0, cap2, rfl, rfl, hcap2, ?_, ?_⟩⟩ H4.p1.drop.p1.drop
      · have := hX0.out; have := hl.out; simp [*]; omega
      · have := hX0.out; have := hl.out; simp [*]; omega
      · rw [List.drop_zero, show (n + 1) * 4 = i * 4 + 4 + (n - i) * 4 by omega, show (i + 1) * 4 = i * 4 + 4 by omega, show i * 4 + 1 * 4 = i * 4 + 4 by omega]
        exact ins_grow c2.toList xs ys _ (i * 4) 4 ((n - i) * 4) hLp (by omega) hX0.out hd1
  · have : i = n := by omega
    subst this
    have key : ∀ cap', cap' = cap → Calls Tryz.prog 34 #[.slice a i cap', .int .i64 i, .slice (some ⟨gx, ox, none⟩) 1 cx] w fun e w' => ∃ v', e = .returned v' ∧ Sat G w' (sl true v' 4 (i + 1) (xs.take (i * 4) ++ ys ++ xs.drop (i * 4)) :: F) := by
      intro cap' hcc
      by_cases hce : cap' = i
      all_goals
        first | (subst hce; subst hcc) | subst hcc
        go_enter Tryz.func34, Tryz.ntmps34
        go_wp2_with (with_reducible refine hold_dst 25 ?_)
        refine Hold.go (wpList_app rfl (.tmp 23) (.tmp 24) 73 73 rfl 76 i0 _ _ Tryz.underlying73 Tryz.underlying73 (by simp) hi0 hz0 hz1 hz2 rfl rfl rfl (Sat.to_sl hB.out H) (m := 1) (hX.src h2 (q := true) H.p1) (by unfold maxLen; omega) (by omega) ?_)
        intro v' w' H'
        go_wp2
        go_ret
        refine ⟨v', rfl, ?_⟩
        have := H'.p1.drop
        rw [List.take_of_length_le (by rw [hl.out]; exact Nat.le_refl _), List.drop_of_length_le (by rw [hl.out]; exact Nat.le_refl _), List.append_nil]
        exact this
    exact key cap rfl
theorem dcell_info : (Tryz.prog.info? 84).map (fun i => (i.zero, i.size, i.bytes)) = some (Tryz.prog.info? 84 >>= (·.zero), 4, 48) := by kernel_rfl

set_option maxHeartbeats 1000000 in
set_option maxRecDepth 100000 in
theorem dcell_insert (n i : Nat) (v : Value) (gx ox cx : Nat) (ax : Array Value) (xs ys : List Value) (B : Base) (hB : Has B v 4 n xs) (hX : Has (.at gx ax) (.slice (some ⟨gx, ox, none⟩) 1 cx) 4 1 ys)
    (h1 : ∀ u ∈ xs, u.oneCell' = true) (h2 : ∀ u ∈ ys, u.oneCell' = true) (hi : i ≤ n) (hn : n ≤ 1000000) (H : Sat G w (bs true B :: cb true gx ax :: F)) :
    Calls Tryz.prog 38 #[v, .int .i64 i, .slice (some ⟨gx, ox, none⟩) 1 cx] w fun e w' => ∃ v', e = .returned v' ∧ Sat G w' (sl true v' 4 (n + 1) (xs.take (i * 4) ++ ys ++ xs.drop (i * 4)) :: F) := by
  obtain ⟨i0, hi0, hz0, hz1, hz2⟩ := info_parts dcell_info
  obtain ⟨a, cap, rfl⟩ := hB.slice
  replace hB := Lib.hid hB
  have hl := Lib.hid hB.out.1
  rcases Nat.lt_or_ge i n with hlt | hge
  · obtain ⟨g, c, off, cap', rfl, hv, hc1, hc2, hc3⟩ := hB.out.at (by omega)
    cases hv
    replace hc3 := Lib.hid hc3
    by_cases hroom : n + 1 ≤ cap
    · have hX0 := hX.1
      simp only [Nat.one_mul] at hX0
      replace hX0 := Lib.hid hX0
      have hne1 : cap ≠ i + 1 := by omega
      have hne2 : cap ≠ i := by omega
      obtain ⟨T, HT⟩ := Sat.of_cb (l := cb true gx ax :: F) H
      have hov : ∀ lb cb', (callFunc 64 #[.slice (some ⟨gx, ox, none⟩) 1 cx, .slice (some ⟨g, off + (i + 1) * 4, none⟩) lb cb']).run Tryz.prog w = .ok (.value (.bool false)) w := fun lb cb' => by
        rw [run_callFunc_extern Tryz.func64 (by kernel_rfl) (by kernel_rfl) (by kernel_rfl) (e := Extern.SlicesOverlaps.overlaps #[81, 81] #[4]) (by kernel_rfl),
          run_overlaps_two (tS := 81) (tR := 4) Tryz.underlying81 hi0 (Sat.cne (l := F) H).symm (by omega) H.p1 H]
        rfl
      go_enter Tryz.func38, Tryz.ntmps38
      have hD := hB.out.drop hi
      have h1d : ∀ u ∈ xs.drop (i * 4), u.oneCell' = true := fun u hu => h1 u (List.mem_of_mem_drop hu)
      have hBc := (hB.out).2
      go_wp2
      refine wp_region_txt (by kernel_rfl) (by kernel_rfl) (by kernel_rfl) ?_
      go_wp2_with (with_reducible refine hold_dst 77 ?_)
      refine Hold.go (wpList_copy rfl (.tmp 73) (.tmp 76) 81 81 rfl 84 i0 Tryz.underlying81 hi0 hz1 (g := g) (m := n + 1 - i) (k := n - i) (news := xs.drop (i * 4)) rfl rfl H.drew rfl (by first | (simp; done) | (simp [Nat.min_def]; omega)) (hD.src h1d (q := true) H.drew).gives hD.1 h1d ?_ ?_)
      · have e1 : (cap - (i + 1)) * 4 + (i + 1) * 4 = cap * 4 := by omega
        omega
      intro w2 H2
      go_wp2
      refine ⟨by kernel_rfl, ?_⟩
      go_wp2_with (with_reducible refine hold_dst 82 ?_)
      refine Hold.go (wpList_copy rfl (.tmp 80) (.tmp 81) 81 81 rfl 84 i0 Tryz.underlying81 hi0 hz1 (g := g) (m := 1) (k := 1) (news := ys) rfl rfl H2 rfl (by first | (simp; done) | (simp [Nat.min_def]; omega)) (hX.src h2 (q := true) H2.p1).gives hX.1 h2 ?_ ?_)
      · have := hl.out
        simp
        omega
      intro w3 H3
      go_wp2
      go_ret
      refine ⟨_, rfl, ?_⟩
      have hd1 := hD.1
      refine Sat.to_sl (B := .at g _) ⟨?_, .inr ⟨g, _, off, cap, rfl, rfl, hroom, ?_, ?_⟩⟩ H3.p1.drop
      · have := hX0.out; have := hl.out; simp [*]; omega
      · have := hX0.out; have := hl.out; simp [*]; omega
      · rw [show (n + 1) * 4 = i * 4 + 4 + (n - i) * 4 by omega, show off + (i + 1) * 4 = off + i * 4 + 4 by omega, Nat.one_mul]
        have e := ins_room c.toList xs ys off (i * 4) 4 ((n - i) * 4) (by rw [show i * 4 + (n - i) * 4 = n * 4 by omega]; exact hc3.out) (by simp; omega) hX0.out
        first | exact e | exact e.trans (List.append_assoc _ _ _)
    · have hX0 := hX.1
      simp only [Nat.one_mul] at hX0
      replace hX0 := Lib.hid hX0
      have hk : (n : Int) + 1 - i = ((n + 1 - i : Nat) : Int) := by omega
      replace hk := Lib.hid hk
      go_enter Tryz.func38, Tryz.ntmps38
      go_wp2_with (with_reducible refine hold_dst 40 ?_)
      refine Hold.go (wpList_appz rfl (.tmp 34) (.tmp 39) 81 3 rfl .i64 84 i0 _ Tryz.underlying81 Tryz.underlying3 hi0 hz0 hz1 hz2 rfl (n := i) (cap := cap) (k := n + 1 - i) (base := some ⟨g, off, none⟩) (xs := xs.take (i * 4)) rfl rfl (congrArg (Value.int .i64) hk.out) H ((hB.out.take hi).src (fun u hu => h1 u (List.mem_of_mem_take hu)) (q := true) H) (by omega) (by unfold maxLen; omega) (by omega) ?_)
      intro g2 c2 cap2 w2 zs hzs hcap2 hc2s hc2t H2
      have e1 : i + (n + 1 - i) = n + 1 := by omega
      simp only [e1] at hcap2 hc2t ⊢
      clear e1
      replace hc2s := Lib.hid hc2s
      replace hc2t := Lib.hid hc2t
      have hne : cap2 ≠ i := by omega
      have hne1 : cap2 ≠ i + 1 := by omega
      have hne2 : cap ≠ i := by omega
      go_wp2_with (with_reducible refine hold_dst 45 ?_)
      refine Hold.go (wpList_copy rfl (.tmp 43) (.tmp 44) 81 81 rfl 84 i0 Tryz.underlying81 hi0 hz1 (m := 1) (k := 1) (news := ys) rfl rfl H2 rfl (by first | (simp; done) | (simp [Nat.min_def]; omega)) (hX.src h2 (q := true) H2.p2).gives hX.1 h2 (by rw [hc2s.out]; omega) ?_)
      intro w3 H3
      go_wp2
      refine wp_region_txt (by kernel_rfl) (by kernel_rfl) (by kernel_rfl) ?_
      go_wp2_with (with_reducible refine hold_dst 54 ?_)
      have hD := hB.out.drop hi
      refine Hold.go (wpList_copy rfl (.tmp 50) (.tmp 53) 81 81 rfl 84 i0 Tryz.underlying81 hi0 hz1 (m := n - i) (k := n - i) (news := xs.drop (i * 4)) rfl rfl H3.drew rfl (by first | (simp; done) | (simp [Nat.min_def]; omega)) (hD.src (fun u hu => h1 u (List.mem_of_mem_drop hu)) (q := true) H3.drew.p1).gives hD.1 (fun u hu => h1 u (List.mem_of_mem_drop hu)) ?_ ?_)
      · have := hX0.out; have := hc2s.out
        simp
        omega
      intro w4 H4
      go_wp2
      refine ⟨by kernel_rfl, ?_⟩
      go_wp2
      go_ret
      refine ⟨_, rfl, ?_⟩
      have hd1 := hD.1
      have hsz : c2.toList.length = cap2 * 4 := by simpa using hc2s.out
      have hLp : c2.toList.take (i * 4) = xs.take (i * 4) := by
        have := congrArg (List.take (i * 4)) hc2t.out
        rw [List.take_take, Nat.min_eq_left (by omega), List.take_left' (by rw [List.length_take, hl.out]; omega)] at this
        exact this
      refine Sat.to_sl (B := .at g2 _) ⟨?_, .inr ⟨g2, _, 0, cap2, rfl, rfl, hcap2, ?_, ?_⟩⟩ H4.p1.drop.p1.drop
      · have := hX0.out; have := hl.out; simp [*]; omega
      · have := hX0.out; have := hl.out; simp [*]; omega
      · rw [List.drop_zero, show (n + 1) * 4 = i * 4 + 4 + (n - i) * 4 by omega, show (i + 1) * 4 = i * 4 + 4 by omega, show i * 4 + 1 * 4 = i * 4 + 4 by omega]
        exact ins_grow c2.toList xs ys _ (i * 4) 4 ((n - i) * 4) hLp (by omega) hX0.out hd1
  · have : i = n := by omega
    subst this
    have key : ∀ cap', cap' = cap → Calls Tryz.prog 38 #[.slice a i cap', .int .i64 i, .slice (some ⟨gx, ox, none⟩) 1 cx] w fun e w' => ∃ v', e = .returned v' ∧ Sat G w' (sl true v' 4 (i + 1) (xs.take (i * 4) ++ ys ++ xs.drop (i * 4)) :: F) := by
      intro cap' hcc
      by_cases hce : cap' = i
      all_goals
        first | (subst hce; subst hcc) | subst hcc
        go_enter Tryz.func38, Tryz.ntmps38
        go_wp2_with (with_reducible refine hold_dst 25 ?_)
        refine Hold.go (wpList_app rfl (.tmp 23) (.tmp 24) 81 81 rfl 84 i0 _ _ Tryz.underlying81 Tryz.underlying81 (by simp) hi0 hz0 hz1 hz2 rfl rfl rfl (Sat.to_sl hB.out H) (m := 1) (hX.src h2 (q := true) H.p1) (by unfold maxLen; omega) (by omega) ?_)
        intro v' w' H'
        go_wp2
        go_ret
        refine ⟨v', rfl, ?_⟩
        have := H'.p1.drop
        rw [List.take_of_length_le (by rw [hl.out]; exact Nat.le_refl _), List.drop_of_length_le (by rw [hl.out]; exact Nat.le_refl _), List.append_nil]
        exact this
    exact key cap rfl
theorem field_info : (Tryz.prog.info? 61).map (fun i => (i.zero, i.size, i.bytes)) = some (Tryz.prog.info? 61 >>= (·.zero), 2, 16) := by kernel_rfl

set_option maxHeartbeats 1000000 in
set_option maxRecDepth 100000 in
theorem field_insert (n i : Nat) (v : Value) (gx ox cx : Nat) (ax : Array Value) (xs ys : List Value) (B : Base) (hB : Has B v 2 n xs) (hX : Has (.at gx ax) (.slice (some ⟨gx, ox, none⟩) 1 cx) 2 1 ys)
    (h1 : ∀ u ∈ xs, u.oneCell' = true) (h2 : ∀ u ∈ ys, u.oneCell' = true) (hi : i ≤ n) (hn : n ≤ 1000000) (H : Sat G w (bs true B :: cb true gx ax :: F)) :
    Calls Tryz.prog 39 #[v, .int .i64 i, .slice (some ⟨gx, ox, none⟩) 1 cx] w fun e w' => ∃ v', e = .returned v' ∧ Sat G w' (sl true v' 2 (n + 1) (xs.take (i * 2) ++ ys ++ xs.drop (i * 2)) :: F) := by
  obtain ⟨i0, hi0, hz0, hz1, hz2⟩ := info_parts field_info
  obtain ⟨a, cap, rfl⟩ := hB.slice
  replace hB := Lib.hid hB
  have hl := Lib.hid hB.out.1
  rcases Nat.lt_or_ge i n with hlt | hge
  · obtain ⟨g, c, off, cap', rfl, hv, hc1, hc2, hc3⟩ := hB.out.at (by omega)
    cases hv
    replace hc3 := Lib.hid hc3
    by_cases hroom : n + 1 ≤ cap
    · have hX0 := hX.1
      simp only [Nat.one_mul] at hX0
      replace hX0 := Lib.hid hX0
      have hne1 : cap ≠ i + 1 := by omega
      have hne2 : cap ≠ i := by omega
      obtain ⟨T, HT⟩ := Sat.of_cb (l := cb true gx ax :: F) H
      have hov : ∀ lb cb', (callFunc 66 #[.slice (some ⟨gx, ox, none⟩) 1 cx, .slice (some ⟨g, off + (i + 1) * 2, none⟩) lb cb']).run Tryz.prog w = .ok (.value (.bool false)) w := fun lb cb' => by
        rw [run_callFunc_extern Tryz.func66 (by kernel_rfl) (by kernel_rfl) (by kernel_rfl) (e := Extern.SlicesOverlaps.overlaps #[43, 43] #[4]) (by kernel_rfl),
          run_overlaps_two (tS := 43) (tR := 4) Tryz.underlying43 hi0 (Sat.cne (l := F) H).symm (by omega) H.p1 H]
        rfl
      go_enter Tryz.func39, Tryz.ntmps39
      have hD := hB.out.drop hi
      have h1d : ∀ u ∈ xs.drop (i * 2), u.oneCell' = true := fun u hu => h1 u (List.mem_of_mem_drop hu)
      have hBc := (hB.out).2
      go_wp2
      refine wp_region_txt (by kernel_rfl) (by kernel_rfl) (by kernel_rfl) ?_
      go_wp2_with (with_reducible refine hold_dst 77 ?_)
      refine Hold.go (wpList_copy rfl (.tmp 73) (.tmp 76) 43 43 rfl 61 i0 Tryz.underlying43 hi0 hz1 (g := g) (m := n + 1 - i) (k := n - i) (news := xs.drop (i * 2)) rfl rfl H.drew rfl (by first | (simp; done) | (simp [Nat.min_def]; omega)) (hD.src h1d (q := true) H.drew).gives hD.1 h1d ?_ ?_)
      · have e1 : (cap - (i + 1)) * 2 + (i + 1) * 2 = cap * 2 := by omega
        omega
      intro w2 H2
      go_wp2
      refine ⟨by kernel_rfl, ?_⟩
      go_wp2_with (with_reducible refine hold_dst 82 ?_)
      refine Hold.go (wpList_copy rfl (.tmp 80) (.tmp 81) 43 43 rfl 61 i0 Tryz.underlying43 hi0 hz1 (g := g) (m := 1) (k := 1) (news := ys) rfl rfl H2 rfl (by first | (simp; done) | (simp [Nat.min_def]; omega)) (hX.src h2 (q := true) H2.p1).gives hX.1 h2 ?_ ?_)
      · have := hl.out
        simp
        omega
      intro w3 H3
      go_wp2
      go_ret
      refine ⟨_, rfl, ?_⟩
      have hd1 := hD.1
      refine Sat.to_sl (B := .at g _) ⟨?_, .inr ⟨g, _, off, cap, rfl, rfl, hroom, ?_, ?_⟩⟩ H3.p1.drop
      · have := hX0.out; have := hl.out; simp [*]; omega
      · have := hX0.out; have := hl.out; simp [*]; omega
      · rw [show (n + 1) * 2 = i * 2 + 2 + (n - i) * 2 by omega, show off + (i + 1) * 2 = off + i * 2 + 2 by omega, Nat.one_mul]
        have e := ins_room c.toList xs ys off (i * 2) 2 ((n - i) * 2) (by rw [show i * 2 + (n - i) * 2 = n * 2 by omega]; exact hc3.out) (by simp; omega) hX0.out
        first | exact e | exact e.trans (List.append_assoc _ _ _)
    · have hX0 := hX.1
      simp only [Nat.one_mul] at hX0
      replace hX0 := Lib.hid hX0
      have hk : (n : Int) + 1 - i = ((n + 1 - i : Nat) : Int) := by omega
      replace hk := Lib.hid hk
      go_enter Tryz.func39, Tryz.ntmps39
      go_wp2_with (with_reducible refine hold_dst 40 ?_)
      refine Hold.go (wpList_appz rfl (.tmp 34) (.tmp 39) 43 3 rfl .i64 61 i0 _ Tryz.underlying43 Tryz.underlying3 hi0 hz0 hz1 hz2 rfl (n := i) (cap := cap) (k := n + 1 - i) (base := some ⟨g, off, none⟩) (xs := xs.take (i * 2)) rfl rfl (congrArg (Value.int .i64) hk.out) H ((hB.out.take hi).src (fun u hu => h1 u (List.mem_of_mem_take hu)) (q := true) H) (by omega) (by unfold maxLen; omega) (by omega) ?_)
      intro g2 c2 cap2 w2 zs hzs hcap2 hc2s hc2t H2
      have e1 : i + (n + 1 - i) = n + 1 := by omega
      simp only [e1] at hcap2 hc2t ⊢
      clear e1
      replace hc2s := Lib.hid hc2s
      replace hc2t := Lib.hid hc2t
      have hne : cap2 ≠ i := by omega
      have hne1 : cap2 ≠ i + 1 := by omega
      have hne2 : cap ≠ i := by omega
      go_wp2_with (with_reducible refine hold_dst 45 ?_)
      refine Hold.go (wpList_copy rfl (.tmp 43) (.tmp 44) 43 43 rfl 61 i0 Tryz.underlying43 hi0 hz1 (m := 1) (k := 1) (news := ys) rfl rfl H2 rfl (by first | (simp; done) | (simp [Nat.min_def]; omega)) (hX.src h2 (q := true) H2.p2).gives hX.1 h2 (by rw [hc2s.out]; omega) ?_)
      intro w3 H3
      go_wp2
      refine wp_region_txt (by kernel_rfl) (by kernel_rfl) (by kernel_rfl) ?_
      go_wp2_with (with_reducible refine hold_dst 54 ?_)
      have hD := hB.out.drop hi
      refine Hold.go (wpList_copy rfl (.tmp 50) (.tmp 53) 43 43 rfl 61 i0 Tryz.underlying43 hi0 hz1 (m := n - i) (k := n - i) (news := xs.drop (i * 2)) rfl rfl H3.drew rfl (by first | (simp; done) | (simp [Nat.min_def]; omega)) (hD.src (fun u hu => h1 u (List.mem_of_mem_drop hu)) (q := true) H3.drew.p1).gives hD.1 (fun u hu => h1 u (List.mem_of_mem_drop hu)) ?_ ?_)
      · have := hX0.out; have := hc2s.out
        simp
        omega
      intro w4 H4
      go_wp2
      refine ⟨by kernel_rfl, ?_⟩
      go_wp2
      go_ret
      refine ⟨_, rfl, ?_⟩
      have hd1 := hD.1
      have hsz : c2.toList.length = cap2 * 2 := by simpa using hc2s.out
      have hLp : c2.toList.take (i * 2) = xs.take (i * 2) := by
        have := congrArg (List.take (i * 2)) hc2t.out
        rw [List.take_take, Nat.min_eq_left (by omega), List.take_left' (by rw [List.length_take, hl.out]; omega)] at this
        exact this
      refine Sat.to_sl (B := .at g2 _) ⟨?_, .inr ⟨g2, _, 0, cap2, rfl, rfl, hcap2, ?_, ?_⟩⟩ H4.p1.drop.p1.drop
      · have := hX0.out; have := hl.out; simp [*]; omega
      · have := hX0.out; have := hl.out; simp [*]; omega
      · rw [List.drop_zero, show (n + 1) * 2 = i * 2 + 2 + (n - i) * 2 by omega, show (i + 1) * 2 = i * 2 + 2 by omega, show i * 2 + 1 * 2 = i * 2 + 2 by omega]
        exact ins_grow c2.toList xs ys _ (i * 2) 2 ((n - i) * 2) hLp (by omega) hX0.out hd1
  · have : i = n := by omega
    subst this
    have key : ∀ cap', cap' = cap → Calls Tryz.prog 39 #[.slice a i cap', .int .i64 i, .slice (some ⟨gx, ox, none⟩) 1 cx] w fun e w' => ∃ v', e = .returned v' ∧ Sat G w' (sl true v' 2 (i + 1) (xs.take (i * 2) ++ ys ++ xs.drop (i * 2)) :: F) := by
      intro cap' hcc
      by_cases hce : cap' = i
      all_goals
        first | (subst hce; subst hcc) | subst hcc
        go_enter Tryz.func39, Tryz.ntmps39
        go_wp2_with (with_reducible refine hold_dst 25 ?_)
        refine Hold.go (wpList_app rfl (.tmp 23) (.tmp 24) 43 43 rfl 61 i0 _ _ Tryz.underlying43 Tryz.underlying43 (by simp) hi0 hz0 hz1 hz2 rfl rfl rfl (Sat.to_sl hB.out H) (m := 1) (hX.src h2 (q := true) H.p1) (by unfold maxLen; omega) (by omega) ?_)
        intro v' w' H'
        go_wp2
        go_ret
        refine ⟨v', rfl, ?_⟩
        have := H'.p1.drop
        rw [List.take_of_length_le (by rw [hl.out]; exact Nat.le_refl _), List.drop_of_length_le (by rw [hl.out]; exact Nat.le_refl _), List.append_nil]
        exact this
    exact key cap rfl
theorem object_info : (Tryz.prog.info? 172).map (fun i => (i.zero, i.size, i.bytes)) = some (Tryz.prog.info? 172 >>= (·.zero), 2, 40) := by kernel_rfl

set_option maxHeartbeats 1000000 in
set_option maxRecDepth 100000 in
theorem object_insert (n i : Nat) (v : Value) (gx ox cx : Nat) (ax : Array Value) (xs ys : List Value) (B : Base) (hB : Has B v 2 n xs) (hX : Has (.at gx ax) (.slice (some ⟨gx, ox, none⟩) 1 cx) 2 1 ys)
    (h1 : ∀ u ∈ xs, u.oneCell' = true) (h2 : ∀ u ∈ ys, u.oneCell' = true) (hi : i ≤ n) (hn : n ≤ 1000000) (H : Sat G w (bs true B :: cb true gx ax :: F)) :
    Calls Tryz.prog 116 #[v, .int .i64 i, .slice (some ⟨gx, ox, none⟩) 1 cx] w fun e w' => ∃ v', e = .returned v' ∧ Sat G w' (sl true v' 2 (n + 1) (xs.take (i * 2) ++ ys ++ xs.drop (i * 2)) :: F) := by
  obtain ⟨i0, hi0, hz0, hz1, hz2⟩ := info_parts object_info
  obtain ⟨a, cap, rfl⟩ := hB.slice
  replace hB := Lib.hid hB
  have hl := Lib.hid hB.out.1
  rcases Nat.lt_or_ge i n with hlt | hge
  · obtain ⟨g, c, off, cap', rfl, hv, hc1, hc2, hc3⟩ := hB.out.at (by omega)
    cases hv
    replace hc3 := Lib.hid hc3
    by_cases hroom : n + 1 ≤ cap
    · have hX0 := hX.1
      simp only [Nat.one_mul] at hX0
      replace hX0 := Lib.hid hX0
      have hne1 : cap ≠ i + 1 := by omega
      have hne2 : cap ≠ i := by omega
      obtain ⟨T, HT⟩ := Sat.of_cb (l := cb true gx ax :: F) H
      have hov : ∀ lb cb', (callFunc 142 #[.slice (some ⟨gx, ox, none⟩) 1 cx, .slice (some ⟨g, off + (i + 1) * 2, none⟩) lb cb']).run Tryz.prog w = .ok (.value (.bool false)) w := fun lb cb' => by
        rw [run_callFunc_extern Tryz.func142 (by kernel_rfl) (by kernel_rfl) (by kernel_rfl) (e := Extern.SlicesOverlaps.overlaps #[163, 163] #[4]) (by kernel_rfl),
          run_overlaps_two (tS := 163) (tR := 4) Tryz.underlying163 hi0 (Sat.cne (l := F) H).symm (by omega) H.p1 H]
        rfl
      go_enter Tryz.func116, Tryz.ntmps116
      have hD := hB.out.drop hi
      have h1d : ∀ u ∈ xs.drop (i * 2), u.oneCell' = true := fun u hu => h1 u (List.mem_of_mem_drop hu)
      have hBc := (hB.out).2
      go_wp2
      refine wp_region_txt (by kernel_rfl) (by kernel_rfl) (by kernel_rfl) ?_
      go_wp2_with (with_reducible refine hold_dst 77 ?_)
      refine Hold.go (wpList_copy rfl (.tmp 73) (.tmp 76) 163 163 rfl 172 i0 Tryz.underlying163 hi0 hz1 (g := g) (m := n + 1 - i) (k := n - i) (news := xs.drop (i * 2)) rfl rfl H.drew rfl (by first | (simp; done) | (simp [Nat.min_def]; omega)) (hD.src h1d (q := true) H.drew).gives hD.1 h1d ?_ ?_)
      · have e1 : (cap - (i + 1)) * 2 + (i + 1) * 2 = cap * 2 := by omega
        omega
      intro w2 H2
      go_wp2
      refine ⟨by kernel_rfl, ?_⟩
      go_wp2_with (with_reducible refine hold_dst 82 ?_)
      refine Hold.go (wpList_copy rfl (.tmp 80) (.tmp 81) 163 163 rfl 172 i0 Tryz.underlying163 hi0 hz1 (g := g) (m := 1) (k := 1) (news := ys) rfl rfl H2 rfl (by first | (simp; done) | (simp [Nat.min_def]; omega)) (hX.src h2 (q := true) H2.p1).gives hX.1 h2 ?_ ?_)
      · have := hl.out
        simp
        omega
      intro w3 H3
      go_wp2
      go_ret
      refine ⟨_, rfl, ?_⟩
      have hd1 := hD.1
      refine Sat.to_sl (B := .at g _) ⟨?_, .inr ⟨g, _, off, cap, rfl, rfl, hroom, ?_, ?_⟩⟩ H3.p1.drop
      · have := hX0.out; have := hl.out; simp [*]; omega
      · have := hX0.out; have := hl.out; simp [*]; omega
      · rw [show (n + 1) * 2 = i * 2 + 2 + (n - i) * 2 by omega, show off + (i + 1) * 2 = off + i * 2 + 2 by omega, Nat.one_mul]
        have e := ins_room c.toList xs ys off (i * 2) 2 ((n - i) * 2) (by rw [show i * 2 + (n - i) * 2 = n * 2 by omega]; exact hc3.out) (by simp; omega) hX0.out
        first | exact e | exact e.trans (List.append_assoc _ _ _)
    · have hX0 := hX.1
      simp only [Nat.one_mul] at hX0
      replace hX0 := Lib.hid hX0
      have hk : (n : Int) + 1 - i = ((n + 1 - i : Nat) : Int) := by omega
      replace hk := Lib.hid hk
      go_enter Tryz.func116, Tryz.ntmps116
      go_wp2_with (with_reducible refine hold_dst 40 ?_)
      refine Hold.go (wpList_appz rfl (.tmp 34) (.tmp 39) 163 3 rfl .i64 172 i0 _ Tryz.underlying163 Tryz.underlying3 hi0 hz0 hz1 hz2 rfl (n := i) (cap := cap) (k := n + 1 - i) (base := some ⟨g, off, none⟩) (xs := xs.take (i * 2)) rfl rfl (congrArg (Value.int .i64) hk.out) H ((hB.out.take hi).src (fun u hu => h1 u (List.mem_of_mem_take hu)) (q := true) H) (by omega) (by unfold maxLen; omega) (by omega) ?_)
      intro g2 c2 cap2 w2 zs hzs hcap2 hc2s hc2t H2
      have e1 : i + (n + 1 - i) = n + 1 := by omega
      simp only [e1] at hcap2 hc2t ⊢
      clear e1
      replace hc2s := Lib.hid hc2s
      replace hc2t := Lib.hid hc2t
      have hne : cap2 ≠ i := by omega
      have hne1 : cap2 ≠ i + 1 := by omega
      have hne2 : cap ≠ i := by omega
      go_wp2_with (with_reducible refine hold_dst 45 ?_)
      refine Hold.go (wpList_copy rfl (.tmp 43) (.tmp 44) 163 163 rfl 172 i0 Tryz.underlying163 hi0 hz1 (m := 1) (k := 1) (news := ys) rfl rfl H2 rfl (by first | (simp; done) | (simp [Nat.min_def]; omega)) (hX.src h2 (q := true) H2.p2).gives hX.1 h2 (by rw [hc2s.out]; omega) ?_)
      intro w3 H3
      go_wp2
      refine wp_region_txt (by kernel_rfl) (by kernel_rfl) (by kernel_rfl) ?_
      go_wp2_with (with_reducible refine hold_dst 54 ?_)
      have hD := hB.out.drop hi
      refine Hold.go (wpList_copy rfl (.tmp 50) (.tmp 53) 163 163 rfl 172 i0 Tryz.underlying163 hi0 hz1 (m := n - i) (k := n - i) (news := xs.drop (i * 2)) rfl rfl H3.drew rfl (by first | (simp; done) | (simp [Nat.min_def]; omega)) (hD.src (fun u hu => h1 u (List.mem_of_mem_drop hu)) (q := true) H3.drew.p1).gives hD.1 (fun u hu => h1 u (List.mem_of_mem_drop hu)) ?_ ?_)
      · have := hX0.out; have := hc2s.out
        simp
        omega
      intro w4 H4
      go_wp2
      refine ⟨by kernel_rfl, ?_⟩
      go_wp2
      go_ret
      refine ⟨_, rfl, ?_⟩
      have hd1 := hD.1
      have hsz : c2.toList.length = cap2 * 2 := by simpa using hc2s.out
      have hLp : c2.toList.take (i * 2) = xs.take (i * 2) := by
        have := congrArg (List.take (i * 2)) hc2t.out
        rw [List.take_take, Nat.min_eq_left (by omega), List.take_left' (by rw [List.length_take, hl.out]; omega)] at this
        exact this
      refine Sat.to_sl (B := .at g2 _) ⟨?_, .inr ⟨g2, _, 0, cap2, rfl, rfl, hcap2, ?_, ?_⟩⟩ H4.p1.drop.p1.drop
      · have := hX0.out; have := hl.out; simp [*]; omega
      · have := hX0.out; have := hl.out; simp [*]; omega
      · rw [List.drop_zero, show (n + 1) * 2 = i * 2 + 2 + (n - i) * 2 by omega, show (i + 1) * 2 = i * 2 + 2 by omega, show i * 2 + 1 * 2 = i * 2 + 2 by omega]
        exact ins_grow c2.toList xs ys _ (i * 2) 2 ((n - i) * 2) hLp (by omega) hX0.out hd1
  · have : i = n := by omega
    subst this
    have key : ∀ cap', cap' = cap → Calls Tryz.prog 116 #[.slice a i cap', .int .i64 i, .slice (some ⟨gx, ox, none⟩) 1 cx] w fun e w' => ∃ v', e = .returned v' ∧ Sat G w' (sl true v' 2 (i + 1) (xs.take (i * 2) ++ ys ++ xs.drop (i * 2)) :: F) := by
      intro cap' hcc
      by_cases hce : cap' = i
      all_goals
        first | (subst hce; subst hcc) | subst hcc
        go_enter Tryz.func116, Tryz.ntmps116
        go_wp2_with (with_reducible refine hold_dst 25 ?_)
        refine Hold.go (wpList_app rfl (.tmp 23) (.tmp 24) 163 163 rfl 172 i0 _ _ Tryz.underlying163 Tryz.underlying163 (by simp) hi0 hz0 hz1 hz2 rfl rfl rfl (Sat.to_sl hB.out H) (m := 1) (hX.src h2 (q := true) H.p1) (by unfold maxLen; omega) (by omega) ?_)
        intro v' w' H'
        go_wp2
        go_ret
        refine ⟨v', rfl, ?_⟩
        have := H'.p1.drop
        rw [List.take_of_length_le (by rw [hl.out]; exact Nat.le_refl _), List.drop_of_length_le (by rw [hl.out]; exact Nat.le_refl _), List.append_nil]
        exact this
    exact key cap rfl
end Go.Proofs.YtmiikmonmgjjfaaGreat
