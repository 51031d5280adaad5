/- Memory in parts: what a world's blocks hold, each part by itself; slices over an array; append to a slice of one's own. -/
import Derived.WalkKit
import Derived.KernelRfl
import Derived.Lib.Hide
namespace Go.Sx


/-! Memory in parts: which blocks are ours alone (true), which ones nobody writes any more (false). -/

abbrev HL := Nat → Option (Bool × Obj)
abbrev SProp := HL → Prop

def HL.no : HL := fun _ => none
def HL.one (q : Bool) (b : Nat) (o : Obj) : HL := fun k => if k = b then some (q, o) else none
def HL.ok (x y : HL) : Prop := ∀ b u v, x b = some u → y b = some v → u.1 = false ∧ u = v
def HL.cup (x y : HL) : HL := fun b => (x b).or (y b)

theorem HL.ok.symm {x y : HL} (h : HL.ok x y) : HL.ok y x := fun b u v hu hv => by
  obtain ⟨h1, h2⟩ := h b v u hv hu
  subst h2; exact ⟨h1, rfl⟩
theorem HL.cup_comm {x y : HL} (h : HL.ok x y) : HL.cup x y = HL.cup y x := by
  funext b
  unfold HL.cup
  cases hx : x b <;> cases hy : y b <;> simp
  exact (h b _ _ hx hy).2
theorem HL.cup_assoc (x y z : HL) : HL.cup (HL.cup x y) z = HL.cup x (HL.cup y z) := by
  funext b; unfold HL.cup; cases x b <;> rfl
theorem HL.cup_no (x : HL) : HL.cup x HL.no = x := by funext b; unfold HL.cup HL.no; cases x b <;> rfl
theorem HL.no_cup (x : HL) : HL.cup HL.no x = x := by funext b; unfold HL.cup HL.no; rfl
theorem HL.ok_no (x : HL) : HL.ok x HL.no := fun b u v _ h => by simp [HL.no] at h
theorem HL.no_ok (x : HL) : HL.ok HL.no x := fun b u v h _ => by simp [HL.no] at h
theorem HL.ok_cup {x y z : HL} (hxy : HL.ok x y) : HL.ok (HL.cup x y) z ↔ HL.ok x z ∧ HL.ok y z := by
  constructor
  · intro h
    refine ⟨fun b u v hu hv => h b u v (by simp [HL.cup, hu]) hv, fun b u v hu hv => ?_⟩
    cases hx : x b with
    | none => exact h b u v (by simp [HL.cup, hx, hu]) hv
    | some u' =>
      obtain ⟨h1, h2⟩ := hxy b _ _ hx hu
      subst h2
      exact h b _ v (by simp [HL.cup, hx]) hv
  · intro ⟨h1, h2⟩ b u v hu hv
    unfold HL.cup at hu
    cases hx : x b with
    | none => rw [hx] at hu; exact h2 b u v (by simpa using hu) hv
    | some u' => rw [hx] at hu; simp at hu; subst hu; exact h1 b _ v hx hv

/-- All of a list's parts side by side. -/
def Sep : List SProp → SProp
  | [] => fun h => h = HL.no
  | A :: l => fun h => ∃ x y, HL.ok x y ∧ h = HL.cup x y ∧ A x ∧ Sep l y

structure Orig where
  os : Os
  output : Array (Nat × ByteArray)

/-- The world is of that origin, and its memory has these parts (and more, of which nothing is said). -/
def Sat (G : Orig) (w : World) (l : List SProp) : Prop :=
  w.os = G.os ∧ w.output = G.output ∧ ∃ h, Sep l h ∧ ∀ b u, h b = some u → w.heap[b]? = some u.2

/-- A block of our own; a block that stays as it is. -/
def bq (q : Bool) (b : Nat) (o : Obj) : SProp := fun h => h = HL.one q b o
abbrev blk (b : Nat) (o : Obj) : SProp := bq true b o
def pu (φ : Prop) : SProp := fun h => φ ∧ h = HL.no
def ex {α : Type} (f : α → SProp) : SProp := fun h => ∃ x, f x h

variable {G : Orig} {w : World} {A B C D E : SProp} {l l' : List SProp}

theorem Sep.swap {h : HL} (hs : Sep (A :: B :: l) h) : Sep (B :: A :: l) h := by
  obtain ⟨x, y, hok, rfl, ha, y1, y2, hok2, rfl, hb, hl⟩ := hs
  have h1 := HL.ok_cup hok2 |>.1 hok.symm
  refine ⟨y1, HL.cup x y2, ?_, ?_, hb, x, y2, h1.2.symm, rfl, ha, hl⟩
  · exact (HL.ok_cup h1.2.symm |>.2 ⟨h1.1.symm, hok2.symm⟩).symm
  · rw [← HL.cup_assoc, ← HL.cup_assoc, HL.cup_comm h1.1]

theorem Sep.perm (hp : l.Perm l') : ∀ h, Sep l h → Sep l' h := by
  induction hp with
  | nil => intro h hs; exact hs
  | cons A _ ih => intro h ⟨x, y, h1, h2, h3, h4⟩; exact ⟨x, y, h1, h2, h3, ih _ h4⟩
  | swap A B l => intro h hs; exact Sep.swap hs
  | trans _ _ ih1 ih2 => intro h hs; exact ih2 _ (ih1 _ hs)

theorem Sep.app {l1 l2 : List SProp} {h : HL} : Sep (l1 ++ l2) h ↔ ∃ x y, HL.ok x y ∧ h = HL.cup x y ∧ Sep l1 x ∧ Sep l2 y := by
  induction l1 generalizing h with
  | nil =>
    constructor
    · intro hs; exact ⟨HL.no, h, HL.no_ok _, (HL.no_cup _).symm, rfl, hs⟩
    · rintro ⟨x, y, _, rfl, rfl, hs⟩; rw [HL.no_cup]; exact hs
  | cons A l1 ih =>
    constructor
    · rintro ⟨x, y, hok, rfl, ha, hs⟩
      obtain ⟨y1, y2, hok2, rfl, h1, h2⟩ := ih.1 hs
      have h3 := HL.ok_cup hok2 |>.1 hok.symm
      exact ⟨HL.cup x y1, y2, HL.ok_cup h3.1.symm |>.2 ⟨h3.2.symm, hok2⟩, (HL.cup_assoc _ _ _).symm, ⟨x, y1, h3.1.symm, rfl, ha, h1⟩, h2⟩
    · rintro ⟨_, y, hok, rfl, ⟨x, y1, hok1, rfl, ha, h1⟩, h2⟩
      have h3 := HL.ok_cup hok1 |>.1 hok
      exact ⟨x, HL.cup y1 y, (HL.ok_cup h3.2 |>.2 ⟨hok1.symm, h3.1.symm⟩).symm, HL.cup_assoc _ _ _, ha, ih.2 ⟨y1, y, h3.2, rfl, h1, h2⟩⟩

theorem Sat.perm (hp : l.Perm l') (H : Sat G w l) : Sat G w l' :=
  ⟨H.1, H.2.1, let ⟨h, h1, h2⟩ := H.2.2; ⟨h, Sep.perm hp _ h1, h2⟩⟩
theorem Sat.imp (hi : ∀ h, Sep l h → Sep l' h) (H : Sat G w l) : Sat G w l' :=
  ⟨H.1, H.2.1, let ⟨h, h1, h2⟩ := H.2.2; ⟨h, hi _ h1, h2⟩⟩
theorem Sat.p1 (H : Sat G w (A :: B :: l)) : Sat G w (B :: A :: l) := H.perm (List.Perm.swap _ _ _)
theorem Sat.p2 (H : Sat G w (A :: B :: C :: l)) : Sat G w (C :: A :: B :: l) := H.perm (List.perm_middle (l₁ := [A, B]))
theorem Sat.p3 (H : Sat G w (A :: B :: C :: D :: l)) : Sat G w (D :: A :: B :: C :: l) := H.perm (List.perm_middle (l₁ := [A, B, C]))
theorem Sat.p4 (H : Sat G w (A :: B :: C :: D :: E :: l)) : Sat G w (E :: A :: B :: C :: D :: l) := H.perm (List.perm_middle (l₁ := [A, B, C, D]))
theorem Sat.p5 {A0 : SProp} (H : Sat G w (A0 :: A :: B :: C :: D :: E :: l)) : Sat G w (E :: A0 :: A :: B :: C :: D :: l) := H.perm (List.perm_middle (l₁ := [A0, A, B, C, D]))
theorem Sat.p6 {A0 A1 : SProp} (H : Sat G w (A1 :: A0 :: A :: B :: C :: D :: E :: l)) : Sat G w (E :: A1 :: A0 :: A :: B :: C :: D :: l) := H.perm (List.perm_middle (l₁ := [A1, A0, A, B, C, D]))
/-- The first one behind the second, third .. -/
theorem Sat.q2 (H : Sat G w (A :: B :: C :: l)) : Sat G w (B :: C :: A :: l) := H.perm (List.perm_middle (l₁ := [B, C])).symm
theorem Sat.q3 (H : Sat G w (A :: B :: C :: D :: l)) : Sat G w (B :: C :: D :: A :: l) := H.perm (List.perm_middle (l₁ := [B, C, D])).symm
theorem Sat.q4 (H : Sat G w (A :: B :: C :: D :: E :: l)) : Sat G w (B :: C :: D :: E :: A :: l) := H.perm (List.perm_middle (l₁ := [B, C, D, E])).symm

theorem Sat.drop (H : Sat G w (A :: l)) : Sat G w l := by
  obtain ⟨h1, h2, h, ⟨x, y, hok, rfl, ha, hs⟩, hh⟩ := H
  refine ⟨h1, h2, y, hs, fun b u hu => ?_⟩
  cases hx : x b with
  | none => exact hh b u (by simp [HL.cup, hx, hu])
  | some u' =>
    obtain ⟨_, h4⟩ := hok b _ _ hx hu
    subst h4
    exact hh b _ (by simp [HL.cup, hx])

theorem Sat.get_ex {α : Type} {f : α → SProp} (H : Sat G w (ex f :: l)) : ∃ x, Sat G w (f x :: l) := by
  obtain ⟨h1, h2, h, ⟨x, y, hok, rfl, ⟨z, ha⟩, hs⟩, hh⟩ := H
  exact ⟨z, h1, h2, _, ⟨x, y, hok, rfl, ha, hs⟩, hh⟩
theorem Sat.to_ex {α : Type} {f : α → SProp} (z : α) (H : Sat G w (f z :: l)) : Sat G w (ex f :: l) := by
  obtain ⟨h1, h2, h, ⟨x, y, hok, rfl, ha, hs⟩, hh⟩ := H
  exact ⟨h1, h2, _, ⟨x, y, hok, rfl, ⟨z, ha⟩, hs⟩, hh⟩
theorem Sat.get_pu {φ : Prop} (H : Sat G w (pu φ :: l)) : φ ∧ Sat G w l := by
  refine ⟨?_, H.drop⟩
  obtain ⟨h1, h2, h, ⟨x, y, hok, rfl, ⟨ha, _⟩, hs⟩, hh⟩ := H
  exact ha
theorem Sat.to_pu {φ : Prop} (hφ : φ) (H : Sat G w l) : Sat G w (pu φ :: l) := by
  obtain ⟨h1, h2, h, hs, hh⟩ := H
  exact ⟨h1, h2, h, ⟨HL.no, h, HL.no_ok _, (HL.no_cup _).symm, ⟨hφ, rfl⟩, hs⟩, hh⟩
theorem Sat.get_sep {l1 : List SProp} (H : Sat G w (Sep l1 :: l)) : Sat G w (l1 ++ l) := by
  obtain ⟨h1, h2, h, ⟨x, y, hok, rfl, ha, hs⟩, hh⟩ := H
  exact ⟨h1, h2, _, Sep.app.2 ⟨x, y, hok, rfl, ha, hs⟩, hh⟩
theorem Sat.to_sep {l1 : List SProp} (H : Sat G w (l1 ++ l)) : Sat G w (Sep l1 :: l) := by
  obtain ⟨h1, h2, h, hs, hh⟩ := H
  obtain ⟨x, y, hok, rfl, ha, hs⟩ := Sep.app.1 hs
  exact ⟨h1, h2, _, ⟨x, y, hok, rfl, ha, hs⟩, hh⟩

/-- What stands in our block. -/
theorem Sat.obj {q : Bool} {b : Nat} {o : Obj} (H : Sat G w (bq q b o :: l)) : w.heap[b]? = some o := by
  obtain ⟨h1, h2, h, ⟨x, y, hok, rfl, rfl, hs⟩, hh⟩ := H
  exact hh b (q, o) (by simp [HL.cup, HL.one])
theorem Sat.lt {q : Bool} {b : Nat} {o : Obj} (H : Sat G w (bq q b o :: l)) : b < w.heap.size :=
  (Array.getElem?_eq_some_iff.1 H.obj).1
theorem Sat.ne {q : Bool} {b b' : Nat} {o o' : Obj} (H : Sat G w (blk b o :: bq q b' o' :: l)) : b ≠ b' := by
  obtain ⟨h1, h2, h, ⟨x, y, hok, rfl, rfl, x', y', hok', rfl, rfl, hs⟩, hh⟩ := H
  intro e
  subst e
  have := hok b (true, o) (q, o') (by simp [HL.one]) (by simp [HL.cup, HL.one])
  simp at this

theorem Sat.dup {b : Nat} {o : Obj} (H : Sat G w (bq false b o :: l)) : Sat G w (bq false b o :: bq false b o :: l) := by
  refine H.imp fun h hs => ?_
  obtain ⟨x, y, hok, rfl, rfl, hs⟩ := hs
  refine ⟨HL.one false b o, HL.cup (HL.one false b o) y, ?_, ?_, rfl, HL.one false b o, y, hok, rfl, rfl, hs⟩
  · intro k u v hu hv
    have : u = (false, o) ∧ k = b := by
      unfold HL.one at hu; split at hu
      · cases hu; exact ⟨rfl, by assumption⟩
      · cases hu
    obtain ⟨rfl, rfl⟩ := this
    simp [HL.cup, HL.one] at hv
    exact ⟨rfl, hv⟩
  · rw [← HL.cup_assoc]
    congr 1
    funext k
    unfold HL.cup
    cases HL.one false b o k <;> rfl

/-- A block of our own is let go: from here on nobody writes it. -/
theorem Sat.freeze {b : Nat} {o : Obj} (H : Sat G w (blk b o :: l)) : Sat G w (bq false b o :: l) := by
  obtain ⟨h1, h2, h, ⟨x, y, hok, rfl, rfl, hs⟩, hh⟩ := H
  have hy : y b = none := by
    cases hy : y b with
    | none => rfl
    | some u => have := (hok b (true, o) u (by simp [HL.one]) hy).1; simp at this
  refine ⟨h1, h2, HL.cup (HL.one false b o) y, ⟨_, y, ?_, rfl, rfl, hs⟩, ?_⟩
  · intro k u v hu hv
    unfold HL.one at hu
    split at hu
    · rename_i e; subst e; rw [hy] at hv; cases hv
    · cases hu
  · intro k u hu
    by_cases hk : k = b
    · subst hk
      simp [HL.cup, HL.one] at hu
      subst hu
      exact hh k (true, o) (by simp [HL.cup, HL.one])
    · refine hh k u ?_
      simpa [HL.cup, HL.one, hk] using hu

/-- The world turns in our block alone. -/
theorem Sat.upd {b : Nat} {o o' : Obj} {w' : World} (H : Sat G w (blk b o :: l)) (h1 : w'.os = w.os) (h2 : w'.output = w.output) (hb : w'.heap[b]? = some o')
    (hf : ∀ k, k < w.heap.size → k ≠ b → w'.heap[k]? = w.heap[k]?) : Sat G w' (blk b o' :: l) := by
  obtain ⟨g1, g2, h, ⟨x, y, hok, rfl, rfl, hs⟩, hh⟩ := H
  have hy : y b = none := by
    cases hy : y b with
    | none => rfl
    | some u => have := (hok b (true, o) u (by simp [HL.one]) hy).1; simp at this
  refine ⟨h1.trans g1, h2.trans g2, HL.cup (HL.one true b o') y, ⟨_, y, ?_, rfl, rfl, hs⟩, ?_⟩
  · intro k u v hu hv
    unfold HL.one at hu
    split at hu
    · rename_i e; subst e; rw [hy] at hv; cases hv
    · cases hu
  · intro k u hu
    by_cases hk : k = b
    · subst hk
      simp [HL.cup, HL.one] at hu
      subst hu
      exact hb
    · have h3 : y k = some u := by simpa [HL.cup, HL.one, hk] using hu
      have h4 := hh k u (by simp [HL.cup, HL.one, hk, h3])
      rw [hf k (Array.getElem?_eq_some_iff.1 h4).1 hk]
      exact h4

/-- What was there is as it was, and there is a new block. -/
theorem Sat.new {b : Nat} {o : Obj} {w' : World} (H : Sat G w l) (h1 : w'.os = w.os) (h2 : w'.output = w.output) (hb : w'.heap[b]? = some o) (hn : w.heap.size ≤ b)
    (hf : ∀ k, k < w.heap.size → w'.heap[k]? = w.heap[k]?) : Sat G w' (blk b o :: l) := by
  obtain ⟨g1, g2, h, hs, hh⟩ := H
  have hy : h b = none := by
    cases hy : h b with
    | none => rfl
    | some u => have := (Array.getElem?_eq_some_iff.1 (hh b u hy)).1; omega
  refine ⟨h1.trans g1, h2.trans g2, HL.cup (HL.one true b o) h, ⟨_, h, ?_, rfl, rfl, hs⟩, ?_⟩
  · intro k u v hu hv
    unfold HL.one at hu
    split at hu
    · rename_i e; subst e; rw [hy] at hv; cases hv
    · cases hu
  · intro k u hu
    by_cases hk : k = b
    · subst hk
      simp [HL.cup, HL.one] at hu
      subst hu
      exact hb
    · have h3 : h k = some u := by simpa [HL.cup, HL.one, hk] using hu
      have h4 := hh k u h3
      rw [hf k (Array.getElem?_eq_some_iff.1 h4).1]
      exact h4

/-- What was there is as it was. -/
theorem Sat.same {w' : World} (H : Sat G w l) (h1 : w'.os = w.os) (h2 : w'.output = w.output) (hf : ∀ k, k < w.heap.size → w'.heap[k]? = w.heap[k]?) : Sat G w' l := by
  obtain ⟨g1, g2, h, hs, hh⟩ := H
  refine ⟨h1.trans g1, h2.trans g2, h, hs, fun b u hu => ?_⟩
  have h4 := hh b u hu
  rw [hf b (Array.getElem?_eq_some_iff.1 h4).1]
  exact h4

theorem Sat.drew (H : Sat G w l) : Sat G w.drew l := H.same rfl rfl fun _ _ => rfl
theorem Sat.alloc {o : Obj} (H : Sat G w l) : Sat G (w.alloc o) (blk w.heap.size o :: l) :=
  H.new rfl rfl (by rw [World.alloc]; exact Array.getElem?_push_size) (Nat.le_refl _) fun k hk => Go.RowKit.Below.heap_alloc _ _ _ hk
theorem Sat.allocd {o : Obj} (H : Sat G w l) : Sat G (w.alloc o) l := H.alloc.drop
theorem Sat.set {b i : Nat} {c : Array Value} {T : TypeId} {fz : Nat × Nat} {v : Value} (H : Sat G w (blk b (.cells c T fz) :: l)) :
    Sat G (w.setCell ⟨b, i, none⟩ v) (blk b (.cells (c.setIfInBounds i v) T fz) :: l) := by
  have hb := H.obj
  refine H.upd rfl rfl ?_ fun k _ hk => Go.RowKit.Below.heap_setCell _ _ _ _ hk
  simp only [World.setCell, Array.getElem?_modify, if_true, hb, Option.map_some, Option.isSome_none, Bool.false_eq_true, if_false]

/-! ### A block of cells, of whatever type -/

def cb (q : Bool) (b : Nat) (c : Array Value) : SProp := fun h => ∃ T, h = HL.one q b (.cells c T)

theorem Sat.of_cb {q : Bool} {b : Nat} {c : Array Value} (H : Sat G w (cb q b c :: l)) : ∃ T, Sat G w (bq q b (.cells c T) :: l) := by
  obtain ⟨h1, h2, h, ⟨x, y, hok, rfl, ⟨T, ha⟩, hs⟩, hh⟩ := H
  exact ⟨T, h1, h2, _, ⟨x, y, hok, rfl, ha, hs⟩, hh⟩
theorem Sat.to_cb {q : Bool} {b : Nat} {c : Array Value} {T : TypeId} (H : Sat G w (bq q b (.cells c T) :: l)) : Sat G w (cb q b c :: l) := by
  obtain ⟨h1, h2, h, ⟨x, y, hok, rfl, ha, hs⟩, hh⟩ := H
  exact ⟨h1, h2, _, ⟨x, y, hok, rfl, ⟨T, ha⟩, hs⟩, hh⟩
theorem Sat.clt {q : Bool} {b : Nat} {c : Array Value} (H : Sat G w (cb q b c :: l)) : b < w.heap.size := let ⟨_, H⟩ := H.of_cb; H.lt
theorem Sat.cne {q : Bool} {b b' : Nat} {c c' : Array Value} (H : Sat G w (cb true b c :: cb q b' c' :: l)) : b ≠ b' := by
  obtain ⟨T, H⟩ := H.of_cb
  obtain ⟨T', H⟩ := H.p1.of_cb
  exact H.p1.ne
theorem Sat.cdup {b : Nat} {c : Array Value} (H : Sat G w (cb false b c :: l)) : Sat G w (cb false b c :: cb false b c :: l) := let ⟨_, H⟩ := H.of_cb; H.dup.to_cb.p1.to_cb.p1
theorem Sat.cfreeze {b : Nat} {c : Array Value} (H : Sat G w (cb true b c :: l)) : Sat G w (cb false b c :: l) := let ⟨_, H⟩ := H.of_cb; H.freeze.to_cb
theorem Sat.new_c {c : Array Value} {T : TypeId} (H : Sat G w l) : Sat G (w.alloc (.cells c T)) (cb true w.heap.size c :: l) := H.alloc.to_cb
theorem Sat.set_c {b i : Nat} {c : Array Value} {v : Value} (H : Sat G w (cb true b c :: l)) : Sat G (w.setCell ⟨b, i, none⟩ v) (cb true b (c.setIfInBounds i v) :: l) := let ⟨_, H⟩ := H.of_cb; H.set.to_cb
theorem Sat.upd_c {b : Nat} {c c' : Array Value} {T : TypeId} {w' : World} (H : Sat G w (cb true b c :: l)) (h1 : w'.os = w.os) (h2 : w'.output = w.output) (hb : w'.heap[b]? = some (.cells c' T))
    (hf : ∀ k, k < w.heap.size → k ≠ b → w'.heap[k]? = w.heap[k]?) : Sat G w' (cb true b c' :: l) := let ⟨_, H⟩ := H.of_cb; (H.upd h1 h2 hb hf).to_cb

/-! ### Facts for the walk -/

theorem Sat.cell {q : Bool} {b : Nat} {c : Array Value} (H : Sat G w (cb q b c :: l)) : ∀ o, w.cell? ⟨b, o, none⟩ = c[o]? := by
  obtain ⟨T, H⟩ := H.of_cb
  intro o; simp [World.cell?, H.obj]
theorem Sat.free {q : Bool} {b : Nat} {c : Array Value} (H : Sat G w (cb q b c :: l)) : ∀ o, w.frozen? ⟨b, o, none⟩ = false := by
  obtain ⟨T, H⟩ := H.of_cb
  intro o; simp [World.frozen?, H.obj]

section

/-- The array that slices lie over. -/
inductive Base where
  | nil
  | at (g : Nat) (c : Array Value)

def bs (q : Bool) : Base → SProp
  | .nil => fun h => h = HL.no
  | .at g c => cb q g c

/-- The slice 'v' over that array has 'n' elements of 'sz' cells: 'xs' in all. -/
def Has (B : Base) (v : Value) (sz n : Nat) (xs : List Value) : Prop :=
  xs.length = n * sz ∧ ((v = .slice none 0 0 ∧ n = 0) ∨
    ∃ g c off cap, B = .at g c ∧ v = .slice (some ⟨g, off, none⟩) n cap ∧ n ≤ cap ∧ off + cap * sz ≤ c.size ∧ (c.toList.drop off).take (n * sz) = xs)

/-- A slice of our own ('q': true) or one that nobody writes. -/
def sl (q : Bool) (v : Value) (sz n : Nat) (xs : List Value) : SProp := ex fun B => Sep [pu (Has B v sz n xs), bs q B]

theorem Sat.get_sl {q : Bool} {v : Value} {sz n : Nat} {xs : List Value} (H : Sat G w (sl q v sz n xs :: l)) : ∃ B, Has B v sz n xs ∧ Sat G w (bs q B :: l) := by
  obtain ⟨B, H⟩ := H.get_ex
  have H := H.get_sep
  exact ⟨B, H.get_pu⟩
theorem Sat.to_sl {q : Bool} {v : Value} {sz n : Nat} {xs : List Value} {B : Base} (hB : Has B v sz n xs) (H : Sat G w (bs q B :: l)) : Sat G w (sl q v sz n xs :: l) :=
  Sat.to_ex B (Sat.to_sep (H.to_pu hB))

theorem Has.slice {B : Base} {v : Value} {sz n : Nat} {xs : List Value} (h : Has B v sz n xs) : ∃ a cap, v = .slice a n cap := by
  rcases h.2 with ⟨rfl, rfl⟩ | ⟨g, c, off, cap, _, rfl, _⟩
  · exact ⟨_, _, rfl⟩
  · exact ⟨_, _, rfl⟩

/-- With an element the slice is none that is nil. -/
theorem Has.at {B : Base} {v : Value} {sz n : Nat} {xs : List Value} (h : Has B v sz n xs) (hn : 0 < n) :
    ∃ g c off cap, B = .at g c ∧ v = .slice (some ⟨g, off, none⟩) n cap ∧ n ≤ cap ∧ off + cap * sz ≤ c.size ∧ (c.toList.drop off).take (n * sz) = xs := by
  rcases h.2 with ⟨rfl, rfl⟩ | h
  · omega
  · exact h

theorem take_drop_get {c : Array Value} {off m : Nat} {xs : List Value} (h : (c.toList.drop off).take m = xs) {k : Nat} (hk : k < m) : c[off + k]? = xs[k]? := by
  rw [← h, List.getElem?_take, if_pos hk, List.getElem?_drop, Array.getElem?_toList]


theorem flat_get {α : Type} {enc : α → List Value} {sz : Nat} (he : ∀ x, (enc x).length = sz) : ∀ (l : List α) (j i : Nat) (hj : j < l.length), i < sz → (l.flatMap enc)[j * sz + i]? = (enc l[j])[i]? := by
  intro l
  induction l with
  | nil => intro j i hj; simp at hj
  | cons x l ih =>
    intro j i hj hi
    rw [List.flatMap_cons]
    cases j with
    | zero => rw [Nat.zero_mul, Nat.zero_add, List.getElem?_append_left (by rw [he]; exact hi)]; rfl
    | succ j =>
      rw [List.getElem?_append_right (by rw [he, Nat.succ_mul]; omega), he, show (j + 1) * sz + i - sz = j * sz + i by rw [Nat.succ_mul]; omega]
      exact ih j i (by simpa using hj) hi

/-- The cells of the element 'j'. -/
theorem Has.row {α : Type} {enc : α → List Value} {sz : Nat} (he : ∀ x, (enc x).length = sz) {q : Bool} {vs : List α} {g off : Nat} {c : Array Value}
    (hx : (c.toList.drop off).take (vs.length * sz) = vs.flatMap enc) (H : Sat G w (cb q g c :: l)) {j : Nat} (hj : j < vs.length) (i : Nat) (hi : i < sz) :
    w.cell? ⟨g, off + j * sz + i, none⟩ = (enc vs[j])[i]? := by
  rw [H.cell, Nat.add_assoc, take_drop_get hx (by
    have : (j + 1) * sz ≤ vs.length * sz := Nat.mul_le_mul_right _ hj
    rw [Nat.succ_mul] at this; omega), flat_get he vs j i hj hi]
variable {P : Program}

/-- What is put behind: 'm' elements, 'news' their cells. -/
structure Src (P : Program) (w : World) (sz : Nat) (vx : Value) (m : Nat) (news : List Value) : Prop where
  len : news.length = m * sz
  one : ∀ u ∈ news, u.oneCell' = true
  asks : (Builtin.lenOf vx).run P w = .ok m w
  gives : (Builtin.firstCells sz m vx).run P w = .ok news.toArray w
  again : (Builtin.firstCells sz m vx).run P w.drew = .ok news.toArray w.drew

theorem Src.cells {sz m cap : Nat} {a : Addr} {news : List Value} (hl : news.length = m * sz) (h1 : ∀ u ∈ news, u.oneCell' = true) (h : ∀ j v, news[j]? = some v → w.cell? (a.add j) = some v) :
    Src P w sz (.slice (some a) m cap) m news :=
  ⟨hl, h1, rfl, run_firstCells_some w sz m a m cap news hl h, run_firstCells_some w.drew sz m a m cap news hl (by simpa using h)⟩
theorem Src.nil {sz : Nat} : Src P w sz (.slice none 0 0) 0 [] :=
  ⟨by simp, by simp, rfl, by simp [Builtin.firstCells], by simp [Builtin.firstCells]⟩
theorem Src.string {s : ByteArray} : Src P w 1 (.string s) s.size (s.data.toList.map fun b => .int .u8 b.toNat) := by
  have hx : s.extract 0 s.size = s := by simp
  refine ⟨by simp, by simp [Value.oneCell'], rfl, ?_, ?_⟩ <;> (simp only [Builtin.firstCells, hx, Sem.run_pure]; congr 1; apply Array.ext'; simp)

theorem Addr.add_at (g o j : Nat) : (⟨g, o, none⟩ : Addr).add j = ⟨g, o + j, none⟩ := by unfold Addr.add; split <;> simp_all

theorem Has.src {B : Base} {v : Value} {sz n : Nat} {xs : List Value} {q : Bool} (hB : Has B v sz n xs) (h1 : ∀ u ∈ xs, u.oneCell' = true) (H : Sat G w (bs q B :: l)) : Src P w sz v n xs := by
  obtain ⟨hl, ⟨rfl, rfl⟩ | ⟨g, c, off, cap, rfl, rfl, h2, h3, h4⟩⟩ := hB
  · have : xs = [] := List.eq_nil_of_length_eq_zero (by simpa using hl)
    subst this; exact Src.nil
  · refine Src.cells hl h1 fun j u hu => ?_
    have hj : j < n * sz := by rw [← hl]; exact (List.getElem?_eq_some_iff.1 hu).1
    rw [Addr.add_at, Sat.cell (l := l) (G := G) H, take_drop_get h4 hj, hu]

theorem run_append_sl {t u ty e : TypeId} {i : TypeInfo} {z : Value} {d : TypeDesc} (ht : P.underlying t = some (.slice e)) (hu : P.underlying u = some d) (hd : ∀ k, d ≠ .int k) (hi : P.info? e = some i) (hz : i.zero = some z)
    (hzs : z.cells.size = i.size) {v vx : Value} {n m : Nat} {xs news : List Value} (H : Sat G w (sl true v i.size n xs :: l)) (hs : Src P w i.size vx m news)
    (h63 : n + m ≤ maxLen) (hb : (n + m) * i.bytes ≤ 140737488355328) :
    ∃ v' w', (Builtin.append_ #[t, u] ty #[v, vx]).run P w = .ok v' w' ∧ Sat G w' (sl true v' i.size (n + m) (xs ++ news) :: l) := by
  obtain ⟨B, hB, HB⟩ := H.get_sl
  clear H
  have hl := hB.1
  have hut : (Go.underlying u).run P w = .ok d w := by simp [Go.underlying, hu]
  have h63' : ¬ (9223372036854775807 < ((n : Int) + (m : Int))) := by simp only [maxLen] at h63; omega
  have grow : ∀ (base : Option Addr) (cap : Nat), v = .slice base n cap → cap < n + m → (Builtin.firstCells i.size n v).run P w.drew = .ok xs.toArray w.drew →
      ∃ v' w', (Builtin.append_ #[t, u] ty #[v, vx]).run P w = .ok v' w' ∧ Sat G w' (sl true v' i.size (n + m) (xs ++ news) :: l) := by
    intro base cap hv hg hf
    subst hv
    have h48' : ¬ (281474976710656 < Builtin.nextslicecap (n + m) cap * i.bytes) := by have := growslice_fits (need := n + m) (old := cap) hg hb; omega
    have hn : ¬ (n + m ≤ cap) := by omega
    have hcap := grownCap_ge w (n + m) cap e
    have hr : (Builtin.append_ #[t, u] ty #[.slice base n cap, vx]).run P w =
        .ok (.slice (some ⟨w.heap.size, 0, none⟩) (n + m) (grownCap w (n + m) cap e)) (w.drew.alloc (.cells (xs.toArray ++ news.toArray ++ Builtin.zeroCells z.cells (grownCap w (n + m) cap e - (n + m))) e)) := by
      simp [Builtin.append_, run_underlying ht, hut, sizeOf, typeInfo, zeroValue, hi, hz, hs.asks, hn, h63', h48', Question.forced, hf, hs.again, newRow, grownCap]
      congr 2
      apply Array.ext'
      simp [List.append_assoc]
    refine ⟨_, _, hr, ?_⟩
    have H2 := (HB.drop.drew).new_c (c := xs.toArray ++ news.toArray ++ Builtin.zeroCells z.cells (grownCap w (n + m) cap e - (n + m))) (T := e)
    refine Sat.to_sl (B := .at w.heap.size _) ⟨by rw [List.length_append, hl, hs.len, Nat.add_mul], .inr ⟨_, _, 0, _, rfl, rfl, hcap, ?_, ?_⟩⟩ H2
    · simp only [Array.size_append, List.size_toArray, size_zeroCells, hzs, hl, hs.len, ← Nat.add_mul, Nat.zero_add]
      exact Nat.mul_le_mul_right _ (by omega)
    · simp only [List.drop_zero, Array.toList_append, List.append_assoc]
      rw [← List.append_assoc, show (n + m) * i.size = (xs ++ news).length by rw [List.length_append, hl, hs.len, Nat.add_mul]]
      exact List.take_left
  rcases hB.2 with ⟨rfl, rfl⟩ | ⟨g, c, off, cap, rfl, rfl, hc1, hc2, hc3⟩
  · have hx : xs = [] := List.eq_nil_of_length_eq_zero (by simpa using hl)
    subst hx
    by_cases hm : m = 0
    · subst hm
      have hn : news = [] := List.eq_nil_of_length_eq_zero (by simpa using hs.len)
      subst hn
      refine ⟨.slice none 0 0, w, ?_, Sat.to_sl (B := B) ⟨by simp, .inl ⟨rfl, rfl⟩⟩ HB⟩
      have := hs.gives
      simp [Builtin.append_, run_underlying ht, hut, sizeOf, typeInfo, hi, hs.asks, this]
    · exact grow none 0 rfl (by omega) (by simp [Builtin.firstCells])
  · by_cases hroom : n + m ≤ cap
    · obtain ⟨T, H'⟩ := Sat.of_cb (l := l) (G := G) HB
      have hg := H'.obj
      have hmul : (n + m) * i.size ≤ cap * i.size := Nat.mul_le_mul_right _ hroom
      rw [Nat.add_mul] at hmul
      have hst := run_storeCells_at P g (off + n * i.size) T news 0 c w hg (by rw [hs.len]; omega) hs.one
      simp only [Nat.add_zero] at hst
      refine ⟨.slice (some ⟨g, off, none⟩) (n + m) cap, w.setRow g (List.take (off + n * i.size) c.toList ++ news ++ List.drop (off + n * i.size + news.length) c.toList).toArray, ?_, ?_⟩
      · have := hs.gives
        simp [Builtin.append_, run_underlying ht, hut, sizeOf, typeInfo, hi, hs.asks, this, hroom, Addr.add_at, hst]
      · refine Sat.to_sl (B := .at g _) ⟨by rw [List.length_append, hl, hs.len, Nat.add_mul], .inr ⟨_, _, off, _, rfl, rfl, hroom, ?_, ?_⟩⟩
          (Sat.upd_c (G := G) (l := l) HB rfl rfl (setRow_heap w g c _ T _ hg) fun k _ hk => setRow_other w g k _ hk)
        · simp only [List.size_toArray, List.length_append, List.length_take, List.length_drop, Array.length_toList, hs.len]
          omega
        · have hto : (List.take (off + n * i.size) c.toList).length = off + n * i.size := by simp; omega
          rw [List.append_assoc, List.drop_append_of_le_length (by rw [hto]; omega), List.drop_take, Nat.add_sub_cancel_left, hc3, ← List.append_assoc,
            show (n + m) * i.size = (xs ++ news).length by rw [List.length_append, hl, hs.len, Nat.add_mul]]
          exact List.take_left
    · refine grow (some ⟨g, off, none⟩) cap rfl (by omega) ?_
      refine run_firstCells_some w.drew i.size n _ n cap xs hl fun j u hu => ?_
      have hj : j < n * i.size := by rw [← hl]; exact (List.getElem?_eq_some_iff.1 hu).1
      rw [World.cell?_drew, Addr.add_at, Sat.cell (l := l) (G := G) HB, take_drop_get hc3 hj, hu]

/-- 's = append(s, x...)' of a slice of our own. -/
theorem wpList_app {ops : Array Oper} {rest : List Oper} {o : Oper} {a : Act} {Q : Exit → Act → World → Prop} (hgd : o.guard = none) (s x : Operand) (t u : TypeId)
    (ho : o.op = .call { callee := .builtin .append, args := #[s, x], argTypes := #[t, u] })
    (e : TypeId) (i : TypeInfo) (z : Value) (d : TypeDesc) (ht : P.underlying t = some (.slice e)) (hu : P.underlying u = some d) (hd : ∀ k, d ≠ .int k) (hi : P.info? e = some i) (hz : i.zero = some z)
    {sz byt : Nat} (hsz : i.size = sz) (hby : i.bytes = byt) (hzs : z.cells.size = sz) {v vx : Value} {n m : Nat} {xs news : List Value} (hv : a.eval s = v) (hx : a.eval x = vx)
    (H : Sat G w (sl true v sz n xs :: l)) (hs : Src P w sz vx m news) (h63 : n + m ≤ maxLen) (hb : (n + m) * byt ≤ 140737488355328)
    (h : ∀ v' w', Sat G w' (sl true v' sz (n + m) (xs ++ news) :: l) → wpList P ops Q rest (a.put o.dst v') w') : wpList P ops Q (o :: rest) a w := by
  subst hsz; subst hby
  refine wpList_plain hgd fun K hK => ?_
  obtain ⟨v', w', hr, H'⟩ := run_append_sl (ty := o.type) ht hu hd hi hz hzs H hs h63 hb
  unfold Oper.wp execOp
  simp only [ho, resolve, invoke, builtin, Sem.run_bind, Sem.run_pure, Result.andThen_ok, List.map_toArray, List.map_cons, List.map_nil, hv, hx, hr, Oper.upon]
  exact hK _ _ (h v' w' H')
end
end Go.Sx
