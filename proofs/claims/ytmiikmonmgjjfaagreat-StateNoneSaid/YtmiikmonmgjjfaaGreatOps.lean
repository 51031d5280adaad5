/- copy, clear, append of zeros, slices.overlaps: on slices in memory that is told in parts. -/
import Derived.Test.YtmiikmonmgjjfaaGreatSep
import Derived.Lib.Overlaps
namespace Go.Sx
variable {G : Orig} {w : World} {l : List SProp} {P : Program}

/-- The walk is to stand here. -/
def Hold (p : Prop) : Prop := p
theorem Hold.go {p : Prop} (h : p) : Hold p := h
theorem hold_dst (d : Tmp) {ops : Array Oper} {Q : Exit → Act → World → Prop} {op : Op} {ty : TypeId} {pos : String} {after : Array Edge} {g : Option (Nat × Bool)} {rest : List Oper} {a : Act}
    (h : Hold (wpList P ops Q ({ dst := some d, op := op, type := ty, pos := pos, after := after, guard := g } :: rest) a w)) :
    wpList P ops Q ({ dst := some d, op := op, type := ty, pos := pos, after := after, guard := g } :: rest) a w := h

theorem hold_clear {ops : Array Oper} {Q : Exit → Act → World → Prop} {d : Option Tmp} {args : Array Operand} {ts : Array TypeId} {ty : TypeId} {pos : String} {after : Array Edge} {g : Option (Nat × Bool)} {rest : List Oper} {a : Act}
    (h : Hold (wpList P ops Q ({ dst := d, op := .call { callee := .builtin .clear, args := args, argTypes := ts }, type := ty, pos := pos, after := after, guard := g } :: rest) a w)) :
    wpList P ops Q ({ dst := d, op := .call { callee := .builtin .clear, args := args, argTypes := ts }, type := ty, pos := pos, after := after, guard := g } :: rest) a w := h

/-- 'copy(d, s)': 'k' elements go over into our block. -/
theorem wpList_copy {ops : Array Oper} {rest : List Oper} {o : Oper} {a : Act} {Q : Exit → Act → World → Prop} (hgd : o.guard = none) (x y : Operand) (t u : TypeId)
    (ho : o.op = .call { callee := .builtin .copy, args := #[x, y], argTypes := #[t, u] }) (e : TypeId) (i : TypeInfo) (ht : P.underlying t = some (.slice e)) (hi : P.info? e = some i) {sz : Nat} (hsz : i.size = sz)
    {g off dl dc m k : Nat} {vs : Value} {news : List Value} {c : Array Value} (hx : a.eval x = .slice (some ⟨g, off, none⟩) dl dc) (hy : a.eval y = vs)
    (H : Sat G w (cb true g c :: l)) (ha : (Builtin.lenOf vs).run P w = .ok m w) (hk : Nat.min m dl = k) (hg : (Builtin.firstCells sz k vs).run P w = .ok news.toArray w) (hl : news.length = k * sz) (h1 : ∀ u ∈ news, u.oneCell' = true)
    (hfit : off + k * sz ≤ c.size)
    (h : ∀ w', Sat G w' (cb true g (c.toList.take off ++ news ++ c.toList.drop (off + k * sz)).toArray :: l) → wpList P ops Q rest (a.put o.dst (.int .i64 k)) w') : wpList P ops Q (o :: rest) a w := by
  subst hsz
  refine wpList_plain hgd fun K hK => ?_
  obtain ⟨T, H'⟩ := H.of_cb
  have hst := run_storeCells_at P g off T news 0 c w H'.obj (by rw [hl]; omega) h1
  have hr : (Builtin.copy_ #[t, u] o.type #[.slice (some ⟨g, off, none⟩) dl dc, vs]).run P w = .ok (.int .i64 k) (w.setRow g (c.toList.take off ++ news ++ c.toList.drop (off + k * i.size)).toArray) := by
    simp only [Nat.add_zero, hl] at hst
    simp [Builtin.copy_, run_underlying ht, sizeOf, typeInfo, hi, ha, hk, hg, hst, goInt]
  unfold Oper.wp execOp
  simp only [ho, resolve, invoke, builtin, Sem.run_bind, Sem.run_pure, Result.andThen_ok, List.map_toArray, List.map_cons, List.map_nil, hx, hy, hr, Oper.upon]
  exact hK _ _ (h _ (H.upd_c rfl rfl (setRow_heap w g c _ T _ H'.obj) fun k _ hk => setRow_other w g k _ hk))

theorem Has.first {B : Base} {v : Value} {sz n k : Nat} {xs : List Value} {q : Bool} (hB : Has B v sz n xs) (hk : k ≤ n) (H : Sat G w (bs q B :: l)) : (Builtin.firstCells sz k v).run P w = .ok (xs.take (k * sz)).toArray w := by
  have hks : k * sz ≤ n * sz := Nat.mul_le_mul_right _ hk
  obtain ⟨hl, ⟨rfl, rfl⟩ | ⟨g, c, off, cap, rfl, rfl, h2, h3, h4⟩⟩ := hB
  · have : xs = [] := List.eq_nil_of_length_eq_zero (by simpa using hl)
    subst this; simp [Builtin.firstCells]
  · refine run_firstCells_some w sz k _ n cap _ (by rw [List.length_take, hl]; omega) fun j u hu => ?_
    rw [List.getElem?_take] at hu
    split at hu
    · rw [Addr.add_at, Sat.cell (l := l) (G := G) H, take_drop_get h4 (by omega), hu]
    · cases hu
theorem Has.asks {B : Base} {v : Value} {sz n : Nat} {xs : List Value} (hB : Has B v sz n xs) : (Builtin.lenOf v).run P w = .ok n w := by
  obtain ⟨a, cap, rfl⟩ := hB.slice; rfl

/-- The first 'i' elements; what lies behind them. -/
theorem Has.take {B : Base} {a : Option Addr} {sz n cap : Nat} {xs : List Value} (hB : Has B (.slice a n cap) sz n xs) {i : Nat} (hi : i ≤ n) : Has B (.slice a i cap) sz i (xs.take (i * sz)) := by
  have hks : i * sz ≤ n * sz := Nat.mul_le_mul_right _ hi
  refine ⟨by rw [List.length_take, hB.1]; omega, ?_⟩
  rcases hB.2 with ⟨h, rfl⟩ | ⟨g, c, off, cap', h0, h, h2, h3, h4⟩
  · cases h; exact .inl ⟨by rw [show i = 0 by omega], by omega⟩
  · cases h
    exact .inr ⟨g, c, off, cap, h0, rfl, by omega, h3, by rw [← h4, List.take_take, Nat.min_eq_left hks]⟩
theorem Has.drop {g off : Nat} {c : Array Value} {sz n cap : Nat} {xs : List Value} (hB : Has (.at g c) (.slice (some ⟨g, off, none⟩) n cap) sz n xs) {i : Nat} (hi : i ≤ n) :
    Has (.at g c) (.slice (some ⟨g, off + i * sz, none⟩) (n - i) (cap - i)) sz (n - i) (xs.drop (i * sz)) := by
  have hks : i * sz ≤ n * sz := Nat.mul_le_mul_right _ hi
  refine ⟨by rw [List.length_drop, hB.1, Nat.sub_mul], ?_⟩
  rcases hB.2 with ⟨h, _⟩ | ⟨g', c', off', cap', h0, h, h2, h3, h4⟩
  · cases h
  · cases h; cases h0
    have : i * sz + (cap - i) * sz = cap * sz := by rw [← Nat.add_mul]; congr 1; omega
    exact .inr ⟨g, c, off + i * sz, cap - i, rfl, rfl, by omega, by omega, by rw [← h4, List.drop_take, List.drop_drop, Nat.sub_mul]⟩

/-- An element laid in between, in a new row. -/
theorem ins_grow {α : Type} (L X ys R : List α) (p s q : Nat) (hL : L.take p = X.take p) (hLl : p + s ≤ L.length) (hy : ys.length = s) (hq : (X.drop p).length = q) :
    (((L.take p ++ ys ++ L.drop (p + s)).take (p + s) ++ X.drop p ++ R).take (p + s + q)) = X.take p ++ ys ++ X.drop p := by
  have hp : (L.take p).length = p := by simp; omega
  have h1 : (L.take p ++ ys ++ L.drop (p + s)).take (p + s) = X.take p ++ ys := by
    rw [← hL]
    exact List.take_left' (by rw [List.length_append, hp, hy])
  rw [h1]
  refine List.take_left' ?_
  rw [List.length_append, List.length_append, ← hL, hp, hy, hq]
/-- .. in the row itself. -/
theorem ins_room {α : Type} (L X ys : List α) (off p s q : Nat) (hX : (L.drop off).take (p + q) = X) (hLl : off + p + s + q ≤ L.length) (hy : ys.length = s) :
    ((((L.take (off + p + s) ++ X.drop p ++ L.drop (off + p + s + q)).take (off + p) ++ ys ++ (L.take (off + p + s) ++ X.drop p ++ L.drop (off + p + s + q)).drop (off + p + s)).drop off).take (p + s + q)) = X.take p ++ ys ++ X.drop p := by
  have hl : (L.take (off + p + s)).length = off + p + s := by simp; omega
  have h1 : (L.take (off + p + s) ++ X.drop p ++ L.drop (off + p + s + q)).take (off + p) = L.take (off + p) := by
    rw [List.append_assoc, List.take_append_of_le_length (by omega), List.take_take, Nat.min_eq_left (by omega)]
  have h2 : (L.take (off + p + s) ++ X.drop p ++ L.drop (off + p + s + q)).drop (off + p + s) = X.drop p ++ L.drop (off + p + s + q) := by
    rw [List.append_assoc]; exact List.drop_left' hl
  have h3 : (L.take (off + p)).drop off = X.take p := by rw [List.drop_take, Nat.add_sub_cancel_left, ← hX, List.take_take, Nat.min_eq_left (by omega)]
  have h4 : (L.take (off + p)).length = off + p := by simp; omega
  have h5 : X.length = p + q := by rw [← hX]; simp; omega
  rw [h1, h2, List.append_assoc, List.drop_append_of_le_length (by omega), h3, ← List.append_assoc, ← List.append_assoc]
  refine List.take_left' ?_
  simp [hy, h5]
  omega

/-- 'copy(d, s)' of nothing. -/
theorem wpList_copy0 {ops : Array Oper} {rest : List Oper} {o : Oper} {a : Act} {Q : Exit → Act → World → Prop} (hgd : o.guard = none) (x y : Operand) (t u : TypeId)
    (ho : o.op = .call { callee := .builtin .copy, args := #[x, y], argTypes := #[t, u] }) (e : TypeId) (i : TypeInfo) (ht : P.underlying t = some (.slice e)) (hi : P.info? e = some i)
    {b b' : Option Addr} {dl dc n n' : Nat} (hx : a.eval x = .slice b dl dc) (hy : a.eval y = .slice b' n n') (hn : n = 0 ∨ dl = 0)
    (h : wpList P ops Q rest (a.put o.dst (.int .i64 0)) w) : wpList P ops Q (o :: rest) a w := by
  refine wpList_plain hgd fun K hK => ?_
  have hmin : Nat.min n dl = 0 := by rcases hn with h | h <;> simp [h]
  have hr : (Builtin.copy_ #[t, u] o.type #[.slice b dl dc, .slice b' n n']).run P w = .ok (.int .i64 0) w := by
    cases b' <;> cases b <;> simp [Builtin.copy_, run_underlying ht, sizeOf, typeInfo, hi, Builtin.lenOf, hmin, Builtin.firstCells, loadCells, loadCellsFrom, storeCells, goInt]
  unfold Oper.wp execOp
  simp only [ho, resolve, invoke, builtin, Sem.run_bind, Sem.run_pure, Result.andThen_ok, List.map_toArray, List.map_cons, List.map_nil, hx, hy, hr, Oper.upon]
  exact hK _ _ h

theorem oneCell_zero {z : Value} (hz : ∀ u ∈ z.cells.toList, u.oneCell' = true) (h0 : 0 < z.cells.size) (n : Nat) : ∀ u ∈ (Builtin.zeroCells z.cells n).toList, u.oneCell' = true := by
  intro u hu
  simp only [Builtin.zeroCells, Array.toList_map, List.mem_map] at hu
  obtain ⟨k, _, rfl⟩ := hu
  have hk : k % z.cells.size < z.cells.size := Nat.mod_lt _ h0
  rw [getElem!_pos z.cells (k % z.cells.size) hk]
  exact hz _ (by simp)

/-- 'clear(s)': zeros in our block. -/
theorem wpList_clear {ops : Array Oper} {rest : List Oper} {o : Oper} {a : Act} {Q : Exit → Act → World → Prop} (hgd : o.guard = none) (x : Operand) (t : TypeId)
    (ho : o.op = .call { callee := .builtin .clear, args := #[x], argTypes := #[t] }) (e : TypeId) (i : TypeInfo) (z : Value) (ht : P.underlying t = some (.slice e)) (hi : P.info? e = some i) (hz : i.zero = some z) {sz : Nat} (hsz : i.size = sz)
    (hzs : z.cells.size = sz) (h1 : ∀ u ∈ z.cells.toList, u.oneCell' = true) (hpos : 0 < sz)
    {g off n cap : Nat} {c : Array Value} (hx : a.eval x = .slice (some ⟨g, off, none⟩) n cap)
    (H : Sat G w (cb true g c :: l)) (hfit : off + n * sz ≤ c.size)
    (h : ∀ w' zs, zs.length = n * sz → Sat G w' (cb true g (c.toList.take off ++ zs ++ c.toList.drop (off + n * sz)).toArray :: l) → wpList P ops Q rest (a.put o.dst (.tuple #[])) w') : wpList P ops Q (o :: rest) a w := by
  subst hsz
  refine wpList_plain hgd fun K hK => ?_
  obtain ⟨T, H'⟩ := H.of_cb
  have hlen : (Builtin.zeroCells z.cells n).toList.length = n * i.size := by rw [Array.length_toList, size_zeroCells, hzs]
  have hst := run_storeCells_at P g off T (Builtin.zeroCells z.cells n).toList 0 c w H'.obj (by rw [hlen]; omega) (oneCell_zero h1 (by omega) n)
  simp only [Nat.add_zero, hlen] at hst
  unfold Oper.wp execOp
  by_cases hn : n = 0
  · subst hn
    have hr : (Builtin.clear_ #[t] o.type #[.slice (some ⟨g, off, none⟩) 0 cap]).run P w = .ok (.tuple #[]) w := by
      simp [Builtin.clear_, run_underlying ht]
    simp only [ho, resolve, invoke, builtin, Sem.run_bind, Sem.run_pure, Result.andThen_ok, List.map_toArray, List.map_cons, List.map_nil, hx, hr, Oper.upon]
    refine hK _ _ (h w [] (by simp) ?_)
    simp only [Nat.zero_mul, Nat.add_zero, List.append_nil, List.take_append_drop, Array.toArray_toList]
    exact H
  · have hr : (Builtin.clear_ #[t] o.type #[.slice (some ⟨g, off, none⟩) n cap]).run P w = .ok (.tuple #[]) (w.setRow g (c.toList.take off ++ (Builtin.zeroCells z.cells n).toList ++ c.toList.drop (off + n * i.size)).toArray) := by
      cases n with
      | zero => exact absurd rfl hn
      | succ n => simp [Builtin.clear_, run_underlying ht, zeroValue, typeInfo, hi, hz, hst]
    simp only [ho, resolve, invoke, builtin, Sem.run_bind, Sem.run_pure, Result.andThen_ok, List.map_toArray, List.map_cons, List.map_nil, hx, hr, Oper.upon]
    exact hK _ _ (h _ _ hlen (H.upd_c rfl rfl (setRow_heap w g c _ T _ H'.obj) fun k _ hk => setRow_other w g k _ hk))

/-- 'clear(s)' of nothing. -/
theorem wpList_clear0 {ops : Array Oper} {rest : List Oper} {o : Oper} {a : Act} {Q : Exit → Act → World → Prop} (hgd : o.guard = none) (x : Operand) (t : TypeId)
    (ho : o.op = .call { callee := .builtin .clear, args := #[x], argTypes := #[t] }) (e : TypeId) (ht : P.underlying t = some (.slice e))
    {b : Option Addr} {cap : Nat} (hx : a.eval x = .slice b 0 cap) (h : wpList P ops Q rest (a.put o.dst (.tuple #[])) w) : wpList P ops Q (o :: rest) a w := by
  refine wpList_plain hgd fun K hK => ?_
  have hr : (Builtin.clear_ #[t] o.type #[.slice b 0 cap]).run P w = .ok (.tuple #[]) w := by cases b <;> simp [Builtin.clear_, run_underlying ht]
  unfold Oper.wp execOp
  simp only [ho, resolve, invoke, builtin, Sem.run_bind, Sem.run_pure, Result.andThen_ok, List.map_toArray, List.map_cons, List.map_nil, hx, hr, Oper.upon]
  exact hK _ _ h

/-- 'append(s, x...)' where there is room in our block. -/
theorem wpList_app_room {ops : Array Oper} {rest : List Oper} {o : Oper} {a : Act} {Q : Exit → Act → World → Prop} (hgd : o.guard = none) (x y : Operand) (t u : TypeId)
    (ho : o.op = .call { callee := .builtin .append, args := #[x, y], argTypes := #[t, u] }) (e : TypeId) (i : TypeInfo) (d : TypeDesc) (ht : P.underlying t = some (.slice e)) (hu : P.underlying u = some d) (hd : ∀ k, d ≠ .int k) (hi : P.info? e = some i) {sz : Nat} (hsz : i.size = sz)
    {g off n cap m : Nat} {vs : Value} {news : List Value} {c : Array Value} (hx : a.eval x = .slice (some ⟨g, off, none⟩) n cap) (hy : a.eval y = vs)
    (H : Sat G w (cb true g c :: l)) (hs : Src P w sz vs m news) (hroom : n + m ≤ cap) (hfit : off + n * sz + m * sz ≤ c.size)
    (h : ∀ w', Sat G w' (cb true g (c.toList.take (off + n * sz) ++ news ++ c.toList.drop (off + n * sz + m * sz)).toArray :: l) → wpList P ops Q rest (a.put o.dst (.slice (some ⟨g, off, none⟩) (n + m) cap)) w') : wpList P ops Q (o :: rest) a w := by
  subst hsz
  refine wpList_plain hgd fun K hK => ?_
  obtain ⟨T, H'⟩ := H.of_cb
  have hst := run_storeCells_at P g (off + n * i.size) T news 0 c w H'.obj (by rw [hs.len]; omega) hs.one
  have hut : (Go.underlying u).run P w = .ok d w := by simp [Go.underlying, hu]
  have hr : (Builtin.append_ #[t, u] o.type #[.slice (some ⟨g, off, none⟩) n cap, vs]).run P w = .ok (.slice (some ⟨g, off, none⟩) (n + m) cap) (w.setRow g (c.toList.take (off + n * i.size) ++ news ++ c.toList.drop (off + n * i.size + m * i.size)).toArray) := by
    simp only [Nat.add_zero, hs.len] at hst
    have := hs.gives
    simp [Builtin.append_, run_underlying ht, hut, sizeOf, typeInfo, hi, hs.asks, this, hroom, Addr.add_at, hst]
  unfold Oper.wp execOp
  simp only [ho, resolve, invoke, builtin, Sem.run_bind, Sem.run_pure, Result.andThen_ok, List.map_toArray, List.map_cons, List.map_nil, hx, hy, hr, Oper.upon]
  exact hK _ _ (h _ (H.upd_c rfl rfl (setRow_heap w g c _ T _ H'.obj) fun k _ hk => setRow_other w g k _ hk))

/-- An element taken out: the later ones moved up, zeros behind them. -/
theorem del_row {α : Type} (L X Z : List α) (off p s q : Nat) (hX : (L.drop off).take (p + s + q) = X) (hLl : off + p + s + q ≤ L.length) (hz : Z.length = s) :
    (((L.take (off + p) ++ X.drop (p + s) ++ L.drop (off + p + q)).take (off + p + q) ++ Z ++ (L.take (off + p) ++ X.drop (p + s) ++ L.drop (off + p + q)).drop (off + p + q + s)).drop off).take (p + q) = X.take p ++ X.drop (p + s) := by
  have h5 : X.length = p + s + q := by rw [← hX]; simp; omega
  have h1 : (L.take (off + p) ++ X.drop (p + s) ++ L.drop (off + p + q)).take (off + p + q) = L.take (off + p) ++ X.drop (p + s) :=
    List.take_left' (by simp [h5]; omega)
  have h3 : (L.take (off + p)).drop off = X.take p := by rw [List.drop_take, Nat.add_sub_cancel_left, ← hX, List.take_take, Nat.min_eq_left (by omega)]
  rw [h1, List.append_assoc, List.append_assoc, List.drop_append_of_le_length (by simp; omega), h3, ← List.append_assoc]
  exact List.take_left' (by simp [h5]; omega)

/-- 'append(s, make([]T, k)...)' that needs a new array. -/
theorem wpList_appz {ops : Array Oper} {rest : List Oper} {o : Oper} {a : Act} {Q : Exit → Act → World → Prop} (hgd : o.guard = none) (s x : Operand) (t u : TypeId)
    (ho : o.op = .call { callee := .builtin .append, args := #[s, x], argTypes := #[t, u] }) (kk : IntKind)
    (e : TypeId) (i : TypeInfo) (z : Value) (ht : P.underlying t = some (.slice e)) (hu : P.underlying u = some (.int kk)) (hi : P.info? e = some i) (hz : i.zero = some z)
    {sz byt : Nat} (hsz : i.size = sz) (hby : i.bytes = byt) (hzs : z.cells.size = sz) {v : Value} {n cap k : Nat} {base : Option Addr} {xs : List Value} (hv : a.eval s = v) (hvb : v = .slice base n cap) (hx : a.eval x = .int .i64 k)
    (H : Sat G w l) (hs : Src P w sz v n xs) (hg : cap < n + k) (h63 : n + k ≤ maxLen) (hb : (n + k) * byt ≤ 140737488355328)
    (h : ∀ g c cap' w' zs, zs.length = k * sz → n + k ≤ cap' → c.size = cap' * sz → c.toList.take ((n + k) * sz) = xs ++ zs → Sat G w' (cb true g c :: l) → wpList P ops Q rest (a.put o.dst (.slice (some ⟨g, 0, none⟩) (n + k) cap')) w') : wpList P ops Q (o :: rest) a w := by
  subst hsz; subst hby
  refine wpList_plain hgd fun K hK => ?_
  subst hvb
  have hk63 : IntKind.i64.wrap (k : Int) = k := by
    have : k ≤ maxLen := by omega
    simp only [maxLen] at this
    exact IntWalk.i64_in _ (by omega)
  have h63' : ¬ (9223372036854775807 < ((n : Int) + (k : Int))) := by simp only [maxLen] at h63; omega
  have h48 : ¬ (281474976710656 < (k : Int) * i.bytes) := by
    have : k * i.bytes ≤ (n + k) * i.bytes := Nat.mul_le_mul_right _ (by omega)
    have h2 : ((k * i.bytes : Nat) : Int) = (k : Int) * i.bytes := by simp
    omega
  have h48' : ¬ (281474976710656 < Builtin.nextslicecap (n + k) cap * i.bytes) := by have := growslice_fits (need := n + k) (old := cap) hg hb; omega
  have hn : ¬ (n + k ≤ cap) := by omega
  have hcap := grownCap_ge w (n + k) cap e
  have hr : (Builtin.append_ #[t, u] o.type #[.slice base n cap, .int .i64 k]).run P w =
      .ok (.slice (some ⟨w.heap.size, 0, none⟩) (n + k) (grownCap w (n + k) cap e)) (w.drew.alloc (.cells (xs.toArray ++ Builtin.zeroCells z.cells k ++ Builtin.zeroCells z.cells (grownCap w (n + k) cap e - (n + k))) e)) := by
    have hut : (Go.underlying u).run P w = .ok (.int kk) w := by simp [Go.underlying, hu]
    have ha := hs.again
    have hk0 : ¬ ((k : Int) < 0) := by omega
    simp [Builtin.append_, run_underlying ht, hut, sizeOf, typeInfo, hi, asInt, asIntOf, hk63, hk0, h48, hn, h63', h48', Question.forced, ha]
    have hzv : ∀ w1, (zeroValue e).run P w1 = .ok z w1 := fun w1 => by simp [zeroValue, typeInfo, hi, hz]
    by_cases h0 : k * i.size = 0
    · have he : Builtin.zeroCells z.cells k = #[] := by
        apply Array.eq_empty_of_size_eq_zero
        rw [size_zeroCells, hzs]; exact h0
      simp [h0, hzv, he, newRow, grownCap]
    · simp [h0, hzv, newRow, grownCap]
  have H2 := (H.drew).new_c (c := xs.toArray ++ Builtin.zeroCells z.cells k ++ Builtin.zeroCells z.cells (grownCap w (n + k) cap e - (n + k))) (T := e)
  unfold Oper.wp execOp
  simp only [ho, resolve, invoke, builtin, Sem.run_bind, Sem.run_pure, Result.andThen_ok, List.map_toArray, List.map_cons, List.map_nil, hv, hx, hr, Oper.upon]
  refine hK _ _ (h _ _ _ _ (Builtin.zeroCells z.cells k).toList ?_ hcap ?_ ?_ H2)
  · rw [Array.length_toList, size_zeroCells, hzs]
  · simp only [Array.size_append, List.size_toArray, size_zeroCells, hzs, hs.len, ← Nat.add_mul]
    congr 1; omega
  · simp only [Array.toList_append]
    rw [show (n + k) * i.size = (xs ++ (Builtin.zeroCells z.cells k).toList).length by rw [List.length_append, hs.len, Array.length_toList, size_zeroCells, hzs, Nat.add_mul]]
    exact List.take_left

theorem Sat.shape {q : Bool} {b : Nat} {c : Array Value} (H : Sat G w (cb q b c :: l)) : ∃ T, w.shape? b = some (T, c.size) := by
  obtain ⟨T, H⟩ := H.of_cb
  exact ⟨T, by simp [World.shape?, H.obj]⟩

/-- 'slices.overlaps' of two slices in two blocks. -/
theorem run_overlaps_two {tS tR e : TypeId} {i : TypeInfo} (ht : P.underlying tS = some (.slice e)) (hi : P.info? e = some i) {g g' off off' la ca lb cap : Nat} {q q' : Bool} {c c' : Array Value}
    (hne : g ≠ g') (hc : c'.size ≠ 0) {l' : List SProp} (H : Sat G w (cb q g c :: l)) (H' : Sat G w (cb q' g' c' :: l')) :
    (Extern.SlicesOverlaps.overlaps #[tS, tS] #[tR] #[.slice (some ⟨g, off, none⟩) la ca, .slice (some ⟨g', off', none⟩) lb cap]).run P w = .ok (.bool false) w := by
  obtain ⟨T, h1⟩ := H.shape
  obtain ⟨T', h2⟩ := H'.shape
  exact Lib.run_overlaps_apart w tS tR e ht i.size (fun w => by simp [sizeOf, typeInfo, hi]) _ _ la ca lb cap hne T T' _ _ h1 h2 hc (H.free _) (H.free _)
end Go.Sx
