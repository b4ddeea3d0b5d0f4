import Derived.Test.YtmmkhlalhalomaaLowE
set_option linter.unusedVariables false
set_option linter.unusedSectionVars false
set_option linter.unusedSimpArgs false
/-! What lies in the heap: rows, blocks of one's own, and what stays as it was. -/
namespace Go.Low
open Go
theorem w64_id {x : Int} (h : -9223372036854775808 ≤ x) (h' : x < 9223372036854775808) : w64 x = x := by unfold w64; rw [IntKind.wrap_i64]; omega
theorem add_add (b : Addr) (i j : Nat) : (b.add i).add j = b.add (i + j) := by
  unfold Addr.add
  by_cases hi : i = 0
  · subst hi; simp
  · by_cases hj : j = 0
    · subst hj; simp
    · simp [hi, hj]; omega
@[simp] theorem add_zero (b : Addr) : b.add 0 = b := rfl
theorem add_loc (b o k : Nat) : Addr.add ⟨b, o, none⟩ k = ⟨b, o + k, none⟩ := by
  unfold Addr.add
  by_cases hk : k = 0
  · subst hk; rfl
  · simp [hk]
section
variable {w w' w0 : World} {b : Addr} {B : Nat}
theorem CellsAt.shift {cs : List Value} {k : Nat} : ∀ {i : Nat}, CellsAt w b (k + i) cs → CellsAt w (b.add k) i cs := by
  induction cs with
  | nil => intro i _; trivial
  | cons c r ih =>
    intro i h
    exact ⟨by rw [add_add]; exact h.1, ih (i := i + 1) h.2⟩
theorem CellsAt.append {cs ds : List Value} : ∀ {i : Nat}, CellsAt w b i cs → CellsAt w b (i + cs.length) ds → CellsAt w b i (cs ++ ds) := by
  induction cs with
  | nil => intro i _ h; simpa using h
  | cons c r ih => intro i h h'; exact ⟨h.1, ih h.2 (by simpa [Nat.add_assoc, Nat.add_comm, Nat.add_left_comm] using h')⟩
theorem CellsAt.left {cs ds : List Value} : ∀ {i : Nat}, CellsAt w b i (cs ++ ds) → CellsAt w b i cs := by
  induction cs with
  | nil => intro i _; trivial
  | cons c r ih => intro i h; exact ⟨h.1, ih h.2⟩
theorem CellsAt.right {cs ds : List Value} : ∀ {i : Nat}, CellsAt w b i (cs ++ ds) → CellsAt w b (i + cs.length) ds := by
  induction cs with
  | nil => intro i h; simpa using h
  | cons c r ih => intro i h; have := ih h.2; simpa [Nat.add_assoc, Nat.add_comm, Nat.add_left_comm] using this
/-- the part of a list of equal pieces -/
theorem CellsAt.piece {α : Type} {f : α → List Value} {sz : Nat} {xs : List α} (hl : ∀ x ∈ xs, (f x).length = sz) : ∀ {i j : Nat} {x : α}, CellsAt w b i (xs.flatMap f) → xs[j]? = some x → CellsAt w b (i + j * sz) (f x) := by
  induction xs with
  | nil => intro i j x _ h; simp at h
  | cons c r ih =>
    intro i j x h hj
    simp only [List.flatMap_cons] at h
    cases j with
    | zero => simp at hj; subst hj; simpa using h.left
    | succ j =>
      simp at hj
      have h2 := h.right
      rw [hl c (by simp)] at h2
      have := ih (fun y hy => hl y (by simp [hy])) h2 hj
      rw [show i + (j + 1) * sz = i + sz + j * sz by rw [Nat.add_mul]; omega]
      exact this
/-! ### what stays -/
theorem Ext.put (h : Ext w0 w) {k : Nat} (o : Obj) (hk : w0.heap.size ≤ k) : Ext w0 (w.put k o) :=
  ⟨by simpa using h.1, fun j hj => by rw [heap_put, if_neg (by omega), h.2 j hj], h.os, h.out⟩
theorem Ext.drew (h : Ext w0 w) : Ext w0 w.drew := ⟨h.1, h.2, h.os, h.out⟩
theorem Ext.xtb (h : Ext w0 w) (h' : XtB B w w') (hB : w0.heap.size ≤ B) : Ext w0 w' :=
  ⟨Nat.le_trans h.1 h'.1, fun j hj => by rw [h'.2 j (Nat.lt_of_lt_of_le hj h.1) (by omega), h.2 j hj], h'.os.trans h.os, h'.out.trans h.out⟩
theorem Ext.toXtB (h : Ext w w') : XtB B w w' := ⟨h.1, fun k hk _ => h.2 k hk, h.os, h.out⟩
/-- a block whose content is known -/
def Blk (w : World) (k T : Nat) (cs : List Value) : Prop := w.heap[k]? = some (.cells cs.toArray T (0, 0))
theorem Blk.lt {k T : Nat} {cs : List Value} (h : Blk w k T cs) : k < w.heap.size := (Array.getElem?_eq_some_iff.1 h).1
theorem Blk.ext {k T : Nat} {cs : List Value} (h : Blk w k T cs) (e : Ext w w') : Blk w' k T cs := by unfold Blk; rw [e.2 k h.lt]; exact h
theorem Blk.xtb {k T : Nat} {cs : List Value} (h : Blk w k T cs) (e : XtB B w w') (hB : k ≠ B) : Blk w' k T cs := by unfold Blk; rw [e.2 k h.lt hB]; exact h
theorem Blk.put_ne {k j T : Nat} {cs : List Value} {o : Obj} (h : Blk w k T cs) (hj : k ≠ j) : Blk (w.put j o) k T cs := by unfold Blk; rw [heap_put, if_neg (by omega)]; exact h
theorem Blk.put_eq {k T : Nat} {cs : List Value} (h : k < w.heap.size) : Blk (w.put k (.cells cs.toArray T)) k T cs := by unfold Blk; rw [heap_put, if_pos ⟨rfl, h⟩]
theorem Blk.new {T : Nat} {cs : List Value} : Blk (w.alloc (.cells cs.toArray T)) w.heap.size T cs := by unfold Blk; rw [heap_alloc, if_pos rfl]
theorem Blk.alloc {k T : Nat} {cs : List Value} (h : Blk w k T cs) (o : Obj) : Blk (w.alloc o) k T cs := h.ext ((Ext.refl w).alloc o)
theorem Blk.cell {k T : Nat} {cs : List Value} (h : Blk w k T cs) {o : Nat} {v : Value} (hv : cs[o]? = some v) : w.cell? ⟨k, o, none⟩ = some v := by
  simp only [World.cell?, Blk] at h ⊢
  rw [h]
  simpa using hv
theorem Blk.cells {k T : Nat} {cs : List Value} (h : Blk w k T cs) : ∀ {ds : List Value} {o i : Nat}, (∀ j v, ds[j]? = some v → cs[o + i + j]? = some v) → CellsAt w ⟨k, o, none⟩ i ds := by
  intro ds
  induction ds with
  | nil => intro o i _; trivial
  | cons c r ih =>
    intro o i hd
    refine ⟨by rw [add_loc]; exact h.cell (by simpa using hd 0 c rfl), ih (i := i + 1) fun j v hj => ?_⟩
    have := hd (j + 1) v (by simpa using hj)
    rw [show o + (i + 1) + j = o + i + (j + 1) by omega]
    exact this
theorem Blk.all {k T : Nat} {cs : List Value} (h : Blk w k T cs) : CellsAt w ⟨k, 0, none⟩ 0 cs := h.cells fun j v hj => by simpa using hj
/-- what a store leaves in a known block -/
def splL (cs : List Value) (o : Nat) (vs : List Value) : List Value := cs.take o ++ vs ++ cs.drop (o + vs.length)
theorem Blk.st {k T o : Nat} {cs vs : List Value} {K : World → Prop} (h : Blk w k T cs) (ho : o + vs.length ≤ cs.length) (hK : K (w.put k (.cells (splL cs o vs).toArray T))) : st w ⟨k, o, none⟩ vs K :=
  ⟨cs.toArray, T, h, rfl, by simpa using ho, hK⟩
/-! ### rows -/
structure Row {α : Type} (w : World) (s : Sl) (sz : Nat) (f : α → List Value) (xs : List α) : Prop where
  n : s.n = xs.length
  nc : s.n ≤ s.c
  c63 : s.c < 9223372036854775808
  nil : s.p = none → s.n = 0
  len : ∀ x ∈ xs, (f x).length = sz
  cells : ∀ b, s.p = some b → CellsAt w b 0 (xs.flatMap f)
theorem Row.ext {α : Type} {s : Sl} {sz : Nat} {f : α → List Value} {xs : List α} (h : Row w s sz f xs) (e : Ext w w') : Row w' s sz f xs :=
  ⟨h.n, h.nc, h.c63, h.nil, h.len, fun b hb => e.cells (h.cells b hb)⟩
theorem Row.xtb {α : Type} {s : Sl} {sz : Nat} {f : α → List Value} {xs : List α} (h : Row w s sz f xs) (e : XtB B w w') (hB : ∀ b, s.p = some b → b.block ≠ B) : Row w' s sz f xs :=
  ⟨h.n, h.nc, h.c63, h.nil, h.len, fun b hb => e.cells (hB b hb) (h.cells b hb)⟩
theorem Row.n63 {α : Type} {s : Sl} {sz : Nat} {f : α → List Value} {xs : List α} (h : Row w s sz f xs) : (s.n : Int) < 9223372036854775808 := by
  have := h.nc; have := h.c63; omega
theorem Row.ix {α : Type} {s : Sl} {sz : Nat} {f : α → List Value} {xs : List α} (h : Row w s sz f xs) {i : Nat} {x : α} {K : Addr → Prop} (hx : xs[i]? = some x) (k : ∀ b, CellsAt w b 0 (f x) → K b) : ix s.p s.n sz (i : Int) K := by
  have hi : i < xs.length := (List.getElem?_eq_some_iff.1 hx).1
  cases hp : s.p with
  | none => have := h.nil hp; have := h.n; omega
  | some b =>
    refine ⟨b, rfl, by omega, by have := h.n; omega, k _ ?_⟩
    rw [Int.toNat_natCast]
    have := CellsAt.piece h.len (h.cells b hp) hx
    rw [Nat.zero_add] at this
    exact CellsAt.shift (i := 0) this
/-- bytes -/
def u8 (x : UInt8) : List Value := [.int .u8 x.toNat]
abbrev Bytes (w : World) (s : Sl) (xs : List UInt8) : Prop := Row w s 1 u8 xs
/-! ### a row in a block of its own, that grows -/
structure Own (w : World) (s : Sl) (k e sz : Nat) (cs : List Value) : Prop where
  p : s.p = some ⟨k, 0, none⟩
  blk : ∃ sp : List Value, Blk w k e (cs ++ sp) ∧ cs.length + sp.length = s.c * sz
  n : cs.length = s.n * sz
  nc : s.n ≤ s.c
  c63 : s.c < 9223372036854775808
theorem Own.ext {s : Sl} {k e sz : Nat} {cs : List Value} (h : Own w s k e sz cs) (x : Ext w w') : Own w' s k e sz cs := by
  obtain ⟨sp, hb, hl⟩ := h.blk
  exact ⟨h.p, ⟨sp, hb.ext x, hl⟩, h.n, h.nc, h.c63⟩
theorem Own.xtb {s : Sl} {k e sz : Nat} {cs : List Value} (h : Own w s k e sz cs) (x : XtB B w w') (hB : k ≠ B) : Own w' s k e sz cs := by
  obtain ⟨sp, hb, hl⟩ := h.blk
  exact ⟨h.p, ⟨sp, hb.xtb x hB, hl⟩, h.n, h.nc, h.c63⟩
theorem Own.put_ne {s : Sl} {k e sz j : Nat} {cs : List Value} {o : Obj} (h : Own w s k e sz cs) (hB : k ≠ j) : Own (w.put j o) s k e sz cs := by
  obtain ⟨sp, hb, hl⟩ := h.blk
  exact ⟨h.p, ⟨sp, hb.put_ne hB, hl⟩, h.n, h.nc, h.c63⟩
theorem Own.lt {s : Sl} {k e sz : Nat} {cs : List Value} (h : Own w s k e sz cs) : k < w.heap.size := by
  obtain ⟨sp, hb, hl⟩ := h.blk
  exact hb.lt
theorem Own.new {e sz : Nat} : Own (w.alloc (.cells ([] : List Value).toArray e)) ⟨some ⟨w.heap.size, 0, none⟩, 0, 0⟩ w.heap.size e sz [] :=
  ⟨rfl, ⟨[], Blk.new, by simp⟩, by simp, Nat.le_refl _, by simp⟩
theorem Own.lit {e sz n : Nat} {cs : List Value} (hl : cs.length = n * sz) (hn : n < 9223372036854775808) : Own (w.alloc (.cells cs.toArray e)) ⟨some ⟨w.heap.size, 0, none⟩, n, n⟩ w.heap.size e sz cs :=
  ⟨rfl, ⟨[], by simpa using Blk.new, by simpa using hl⟩, hl, Nat.le_refl _, hn⟩
theorem Own.cells {s : Sl} {k e sz : Nat} {cs : List Value} (h : Own w s k e sz cs) : CellsAt w ⟨k, 0, none⟩ 0 cs := by
  obtain ⟨sp, hb, _⟩ := h.blk
  exact hb.cells fun j v hj => by
    have hlt := (List.getElem?_eq_some_iff.1 hj).1
    simp only [Nat.zero_add]
    rw [List.getElem?_append_left hlt]; exact hj
theorem Own.row {α : Type} {s : Sl} {k e sz : Nat} {f : α → List Value} {xs : List α} (h : Own w s k e sz (xs.flatMap f)) (hf : ∀ x, (f x).length = sz) (hsz : 0 < sz) : Row w s sz f xs := by
  have hn : s.n = xs.length := by
    have h1 := h.n
    have h2 : (xs.flatMap f).length = xs.length * sz := by
      clear h h1
      induction xs with
      | nil => simp
      | cons c r ih => simp only [List.flatMap_cons, List.length_append, hf c, ih, List.length_cons, Nat.add_mul]; omega
    rw [h2] at h1
    exact (Nat.eq_of_mul_eq_mul_right hsz h1).symm
  exact ⟨hn, h.nc, h.c63, fun hp => (by rw [h.p] at hp; cases hp), fun x _ => hf x, fun b hb => by
    rw [h.p] at hb; cases hb; exact h.cells⟩
theorem length_zeroCells (z : Array Value) (n : Nat) : (Builtin.zeroCells z n).toList.length = n * z.size := by simp [Builtin.zeroCells]
theorem srcAt.one {src : Value} {sz k : Nat} {new : List Value} (h : srcAt w src sz k new) : new.length = k * sz ∨ sz ≠ 1 := by
  cases src <;> simp only [srcAt] at h
  · obtain ⟨rfl, rfl⟩ := h
    by_cases h1 : sz = 1
    · subst h1; left; simp
    · exact .inr h1
  · obtain ⟨rfl, hl, _⟩ := h; exact .inl hl
theorem Own.app {s : Sl} {k e sz bts m : Nat} {cs new : List Value} {z : Array Value} {src : Value} {K : Sl → World → Prop} (h : Own w s k e sz cs) (hs : srcAt w src sz m new) (hl : new.length = m * sz) (h1 : ∀ v ∈ new, v.oneCell' = true) (hz : z.size = sz)
    (hb : (s.n + m) * bts ≤ 140737488355328) (h63 : s.n + m < 9223372036854775808)
    (hK : ∀ s' w' k', (k' = k ∧ w'.heap.size = w.heap.size ∨ w.heap.size = k' ∧ w'.heap.size = w.heap.size + 1) → XtB k w w' → Own w' s' k' e sz (cs ++ new) → s'.n = s.n + m → K s' w') : app w e sz bts z s.p s.n s.c src K := by
  obtain ⟨sp, hblk, hsp⟩ := h.blk
  have hn := h.n
  refine ⟨m, new, hs, h1, fun hle => ⟨fun hp => (by rw [h.p] at hp; cases hp), fun b hb' => ?_⟩, fun hlt => ⟨hb, h63, cs, hn, fun hp => (by rw [h.p] at hp; cases hp), fun b hb' => ?_, fun cap hc hc' => ?_⟩⟩
  · rw [h.p] at hb'
    cases hb'
    rw [add_loc]
    have hfit : (s.n + m) * sz ≤ s.c * sz := Nat.mul_le_mul_right _ hle
    rw [Nat.add_mul] at hfit
    have hnew : splL (cs ++ sp) (0 + s.n * sz) new = (cs ++ new) ++ sp.drop new.length := by
      unfold splL
      rw [Nat.zero_add, ← hn, List.take_left, List.drop_append]
      rw [List.drop_eq_nil_of_le (by omega)]
      simp [List.append_assoc]
    refine hblk.st (by simp only [List.length_append]; omega) ?_
    rw [hnew]
    refine hK _ _ k (.inl ⟨rfl, by simp⟩) (XtB.put (b := ⟨k, 0, none⟩) _ rfl) ⟨rfl, ⟨sp.drop new.length, Blk.put_eq h.lt, ?_⟩, ?_, hle, h.c63⟩ rfl
    · simp only [List.length_append, List.length_drop]; omega
    · simp only [List.length_append, Nat.add_mul]; omega
  · rw [h.p] at hb'
    cases hb'
    exact h.cells
  · refine hK _ _ w.heap.size (.inr ⟨rfl, by simp⟩) ((show XtB k w w.drew from ⟨Nat.le_refl _, fun _ _ _ => rfl, rfl, rfl⟩).alloc _) ⟨rfl, ⟨(Builtin.zeroCells z (cap - (s.n + m))).toList, ?_, ?_⟩, ?_, hc, hc'⟩ rfl
    · have : ((cs ++ new).toArray ++ Builtin.zeroCells z (cap - (s.n + m))) = ((cs ++ new) ++ (Builtin.zeroCells z (cap - (s.n + m))).toList).toArray := by
        apply Array.ext'; simp
      rw [this]
      exact Blk.new (w := w.drew)
    · rw [length_zeroCells, hz]
      simp only [List.length_append, hl, hn]
      have : cap * sz = (s.n + m) * sz + (cap - (s.n + m)) * sz := by rw [← Nat.add_mul]; congr 1; omega
      rw [this, Nat.add_mul]
    · simp only [List.length_append, Nat.add_mul]; omega
theorem length_flat {α : Type} {f : α → List Value} {sz : Nat} {xs : List α} (hf : ∀ x ∈ xs, (f x).length = sz) : (xs.flatMap f).length = xs.length * sz := by
  induction xs with
  | nil => simp
  | cons c r ih => simp only [List.flatMap_cons, List.length_append, hf c (by simp), ih fun x hx => hf x (by simp [hx]), List.length_cons, Nat.add_mul]; omega
theorem Row.src {α : Type} {s : Sl} {sz : Nat} {f : α → List Value} {xs : List α} (h : Row w s sz f xs) : srcAt w s.v sz xs.length (xs.flatMap f) :=
  ⟨h.n.symm, by rw [length_flat h.len, h.n], h.nil, h.cells⟩
theorem one_u8 (xs : List UInt8) : ∀ v ∈ xs.flatMap u8, v.oneCell' = true := by
  intro v hv
  simp only [List.mem_flatMap, u8, List.mem_singleton] at hv
  obtain ⟨x, _, rfl⟩ := hv
  rfl
theorem Own.src {α : Type} {s : Sl} {k e sz : Nat} {f : α → List Value} {xs : List α} (h : Own w s k e sz (xs.flatMap f)) (hf : ∀ x, (f x).length = sz) (hsz : 0 < sz) : srcAt w s.v sz xs.length (xs.flatMap f) := (h.row hf hsz).src
theorem dr_i {K : World → Prop} (h : K w.drew) : dr w K := h
theorem dr2_i {K : World → World → Prop} (h : K w.drew w.drew) : dr2 w K := h
theorem al_i {T : Nat} {cs : List Value} {K : Nat → World → Prop} (h : Blk (w.alloc (.cells cs.toArray T)) w.heap.size T cs → Ext w (w.alloc (.cells cs.toArray T)) → K w.heap.size (w.alloc (.cells cs.toArray T))) : al w T cs.toArray K := h Blk.new ((Ext.refl w).alloc _)
/-! ### loads out of what is known -/
theorem CellsAt.cell {cs : List Value} (h : CellsAt w b 0 cs) {i : Nat} {v : Value} (hi : cs[i]? = some v) : w.cell? (b.add i) = some v := by have := h.get i v hi; rwa [Nat.zero_add] at this
theorem ldN_at {cs : List Value} (h : CellsAt w b 0 cs) {i : Nat} {k : IntKind} {K : Int → Prop} (hh : ∃ x, cs[i]? = some (.int k x) ∧ K x) : ldN k w (b.add i) K := hh.imp fun x hx => ⟨h.cell hx.1, hx.2⟩
theorem ldB_at {cs : List Value} (h : CellsAt w b 0 cs) {i : Nat} {K : Bool → Prop} (hh : ∃ x, cs[i]? = some (.bool x) ∧ K x) : ldB w (b.add i) K := hh.imp fun x hx => ⟨h.cell hx.1, hx.2⟩
theorem ldS_at {cs : List Value} (h : CellsAt w b 0 cs) {i : Nat} {K : ByteArray → Prop} (hh : ∃ x, cs[i]? = some (.string x) ∧ K x) : ldS w (b.add i) K := hh.imp fun x hx => ⟨h.cell hx.1, hx.2⟩
theorem ldP_at {cs : List Value} (h : CellsAt w b 0 cs) {i : Nat} {K : Option Addr → Prop} (hh : ∃ x, cs[i]? = some (.pointer x) ∧ K x) : ldP w (b.add i) K := hh.imp fun x hx => ⟨h.cell hx.1, hx.2⟩
theorem ldM_at {cs : List Value} (h : CellsAt w b 0 cs) {i : Nat} {K : Option Nat → Prop} (hh : ∃ x, cs[i]? = some (.map x) ∧ K x) : ldM w (b.add i) K := hh.imp fun x hx => ⟨h.cell hx.1, hx.2⟩
theorem ldL_at {cs : List Value} (h : CellsAt w b 0 cs) {i : Nat} {K : Sl → Prop} (hh : ∃ x, cs[i]? = some (Sl.v x) ∧ K x) : ldL w (b.add i) K := hh.imp fun x hx => ⟨h.cell hx.1, hx.2⟩
theorem ldF_at {cs : List Value} (h : CellsAt w b 0 cs) {i : Nat} {K : Option (Nat × Value) → Prop} (hh : ∃ x, cs[i]? = some (ifc x) ∧ K x) : ldF w (b.add i) K := hh.imp fun x hx => ⟨h.cell hx.1, hx.2⟩
theorem CellsAt.sub {cs ds : List Value} {i : Nat} (h : CellsAt w b 0 cs) (hd : ∀ j v, ds[j]? = some v → cs[i + j]? = some v) : CellsAt w (b.add i) 0 ds := by
  suffices ∀ k, (∀ j v, ds[j]? = some v → cs[i + k + j]? = some v) → CellsAt w (b.add i) k ds by exact this 0 (by simpa using hd)
  clear hd
  induction ds with
  | nil => intro k _; trivial
  | cons c r ih =>
    intro k hd
    refine ⟨by rw [add_add]; exact h.cell (by simpa using hd 0 c rfl), ih (k + 1) fun j v hj => ?_⟩
    have := hd (j + 1) v (by simpa using hj)
    rw [show i + (k + 1) + j = i + k + (j + 1) by omega]
    exact this
theorem ldT_at {α : Type} {f : α → List Value} {cs : List Value} (h : CellsAt w b 0 cs) {i : Nat} {K : α → Prop} (x : α) (hx : (cs.drop i).take (f x).length = f x) (k : K x) : ldT f w (b.add i) K :=
  ⟨x, h.sub fun j v hj => by
    have hlt := (List.getElem?_eq_some_iff.1 hj).1
    rw [← hx] at hj
    rw [List.getElem?_take_of_lt hlt, List.getElem?_drop] at hj
    exact hj, k⟩
theorem ldT_all {α : Type} {f : α → List Value} {K : α → Prop} {x : α} (h : CellsAt w b 0 (f x)) (k : K x) : ldT f w b K := ⟨x, h, k⟩
theorem nn_i {b : Addr} {K : Addr → Prop} (k : K b) : nn (some b) K := ⟨b, rfl, k⟩
/-! ### stores into what is known -/
theorem st_i {k T o : Nat} {cs vs cs' : List Value} {K : World → Prop} (h : Blk w k T cs) (ho : Nat.ble (o + vs.length) cs.length = true) (hcs : splL cs o vs = cs') (kk : ∀ w', Blk w' k T cs' → XtB k w w' → w'.heap.size = w.heap.size → K w') : st w (Addr.add ⟨k, 0, none⟩ o) vs K := by
  rw [add_loc, Nat.zero_add]
  exact h.st (Nat.le_of_ble_eq_true ho) (by rw [hcs]; exact kk _ (Blk.put_eq h.lt) (XtB.put (b := ⟨k, 0, none⟩) _ rfl) (by simp))
theorem st_i0 {k T : Nat} {cs vs cs' : List Value} {K : World → Prop} (h : Blk w k T cs) (ho : Nat.ble vs.length cs.length = true) (hcs : splL cs 0 vs = cs') (kk : ∀ w', Blk w' k T cs' → XtB k w w' → w'.heap.size = w.heap.size → K w') : st w ⟨k, 0, none⟩ vs K :=
  st_i (o := 0) h (by rw [Nat.zero_add]; exact ho) hcs kk
theorem Ext.own {w1 : World} (h : Ext w0 w) (h' : XtB B w w1) (hB : w0.heap.size ≤ B) : Ext w0 w1 := h.xtb h' hB
/-! ### rows of ints of one's own -/
def i64c (x : Int) : List Value := [.int .i64 x]
theorem flat_i64 (xs : List Int) : xs.flatMap i64c = xs.map (Value.int .i64) := by
  induction xs with
  | nil => rfl
  | cons c r ih => simp only [List.flatMap_cons, ih]; rfl
theorem Own.ixS {s : Sl} {k e j : Nat} {cs : List Value} {K : Addr → Prop} (h : Own w s k e 1 cs) (hj : j < cs.length) (kk : K ⟨k, j, none⟩) : ix s.p s.n 1 (j : Int) K := by
  have hn := h.n
  refine ⟨⟨k, 0, none⟩, h.p, by omega, by omega, ?_⟩
  rw [Int.toNat_natCast, Nat.mul_one, add_loc, Nat.zero_add]
  exact kk
theorem Own.cellS {s : Sl} {k e j : Nat} {cs : List Value} {v : Value} (h : Own w s k e 1 cs) (hj : cs[j]? = some v) : w.cell? ⟨k, j, none⟩ = some v := by
  obtain ⟨sp, hb, _⟩ := h.blk
  refine hb.cell ?_
  rw [List.getElem?_append_left (List.getElem?_eq_some_iff.1 hj).1]
  exact hj
theorem Own.stS {s : Sl} {k e j : Nat} {cs : List Value} {v : Value} {K : World → Prop} (h : Own w s k e 1 cs) (hj : j < cs.length) (kk : ∀ w', Own w' s k e 1 (cs.set j v) → XtB k w w' → w'.heap.size = w.heap.size → K w') : st w ⟨k, j, none⟩ [v] K := by
  obtain ⟨sp, hb, hl⟩ := h.blk
  refine hb.st (by simp only [List.length_append, List.length_singleton]; omega) ?_
  have e : splL (cs ++ sp) j [v] = cs.set j v ++ sp := by
    unfold splL
    rw [List.take_append_of_le_length (by omega), List.drop_append_of_le_length (by simp; omega), List.set_eq_take_append_cons_drop, if_pos hj]
    simp
  rw [e]
  exact kk _ ⟨h.p, ⟨sp, Blk.put_eq h.lt, by simpa using hl⟩, by simpa using h.n, h.nc, h.c63⟩ (XtB.put (b := ⟨k, 0, none⟩) _ rfl) (by simp)
theorem made_i64 (n : Nat) : (madeCells #[.int .i64 0] (n * 1)).toList = (List.replicate n (0 : Int)).flatMap i64c := by
  rw [flat_i64, Nat.mul_one]
  apply List.ext_getElem?
  intro j
  by_cases hj : j < n
  · simp [madeCells, hj, Nat.mod_one]
  · simp [madeCells, hj]
theorem Own.made {e sz n : Nat} {z : Array Value} {cs : List Value} (hc : (madeCells z (n * sz)).toList = cs) (hn : n < 9223372036854775808) : Own (w.alloc (.cells (madeCells z (n * sz)) e)) ⟨some ⟨w.heap.size, 0, none⟩, n, n⟩ w.heap.size e sz cs := by
  have hl : cs.length = n * sz := by rw [← hc]; simp [size_madeCells]
  have : madeCells z (n * sz) = cs.toArray := by rw [← hc]
  rw [this]
  exact Own.lit hl hn
end
end Go.Low
