import Derived.Test.YtmmkhlalhalomaaGrC13
set_option linter.unusedVariables false
set_option linter.unusedSimpArgs false
set_option maxRecDepth 100000
namespace Go.Proofs.Ytmmkhlalhalomaa
open Go Go.Low
def strC (x : ByteArray) : List Value := [.string x]
def stepC (it : Nat × ByteArray) : List Value := S_valiseref14_step.cells ⟨(it.1 : Int), it.2⟩
theorem flat_str (xs : List ByteArray) : xs.flatMap strC = xs.map Value.string := by
  induction xs with
  | nil => rfl
  | cons c r ih => simp only [List.flatMap_cons, ih]; rfl
theorem made_str (n : Nat) : (madeCells #[.string ⟨#[]⟩] (n * 1)).toList = ((List.range n).map fun _ => E0).flatMap strC := by
  rw [flat_str, Nat.mul_one]
  apply List.ext_getElem?
  intro j
  by_cases hj : j < n
  · simp [madeCells, hj, Nat.mod_one]
  · simp [madeCells, hj]
theorem cutAt_zero (p : Option Addr) (c sz : Nat) : cutAt p c sz 0 = p := by
  unfold cutAt
  split
  · rfl
  · cases p with
    | none => rfl
    | some b => simp [Addr.add]
theorem Own_cut {w : World} {s : Sl} {k e sz n : Nat} {cs ds : List Value} (h : Own w s k e sz (cs ++ ds)) (hn : cs.length = n * sz) (hle : n ≤ s.n) : Own w ⟨s.p, n, s.c⟩ k e sz cs := by
  obtain ⟨sp, hb, hl⟩ := h.blk
  have := h.nc
  exact ⟨h.p, ⟨ds ++ sp, by rw [← List.append_assoc]; exact hb, by simp only [List.length_append] at hl ⊢; omega⟩, hn, by simp only; omega, h.c63⟩
theorem le_sum {l : List Nat} {x : Nat} (h : x ∈ l) : x ≤ l.sum := by
  induction l with
  | nil => cases h
  | cons a r ih =>
    simp only [List.sum_cons]
    rcases List.mem_cons.1 h with rfl | h
    · omega
    · have := ih h; omega
theorem ents_le {ms : List Nd} (h : OkGraph ms) {m : Nd} (hm : m ∈ ms) : m.ents.length ≤ 8192 := by
  have : m.ents.length ≤ entSum ms := by
    unfold entSum
    exact le_sum (List.mem_map.2 ⟨m, hm, rfl⟩)
  have := h.sum
  omega
structure RSt (w v : World) (ms : List Nd) (g : S_api_Graph) (b1 kf : Nat) (r7 o : Sl) (ko : Nat) (ys : List S_api_Line) (Ds : List (List Nat)) (st : Sl) (ks : Nat) (its : List (Nat × ByteArray)) (σ : TS) : Prop where
  ext : Ext w v
  bg : Blk v b1 24 (S_api_Graph.cells g)
  fst : Own v r7 kf 9 1 (((List.range ms.length).map σ.fst).flatMap strC)
  out : OwnL w.heap.size v o (some ko) ys σ.lines Ds
  stk : Own v st ks 62 2 (its.reverse.flatMap stepC)
  ge : w.heap.size ≤ b1 ∧ w.heap.size ≤ kf ∧ w.heap.size ≤ ks
  ne : kf ≠ b1 ∧ ks ≠ b1 ∧ ks ≠ kf ∧ ko ≠ b1 ∧ ko ≠ kf ∧ ko ≠ ks
  kD : ∀ D ∈ Ds, b1 ∉ D ∧ kf ∉ D ∧ ks ∉ D
section
variable {w v v' : World} {ms : List Nd} {g : S_api_Graph} {b1 kf ko ks B : Nat} {r7 o st : Sl} {ys : List S_api_Line} {Ds : List (List Nat)} {its : List (Nat × ByteArray)} {σ : TS}
theorem RSt.up (h : RSt w v ms g b1 kf r7 o ko ys Ds st ks its σ) (x : Ext v v') : RSt w v' ms g b1 kf r7 o ko ys Ds st ks its σ :=
  ⟨h.ext.trans x, h.bg.ext x, h.fst.ext x, h.out.ext lnP_ext x, h.stk.ext x, h.ge, h.ne, h.kD⟩
/-- all that is held lies ahead of B -/
structure RLt (B b1 kf ko ks : Nat) (Ds : List (List Nat)) : Prop where
  b1 : b1 < B
  kf : kf < B
  ko : ko < B
  ks : ks < B
  D : ∀ D ∈ Ds, ∀ b ∈ D, b < B
theorem RSt.lt (h : RSt w v ms g b1 kf r7 o ko ys Ds st ks its σ) : RLt v.heap.size b1 kf ko ks Ds := ⟨h.bg.lt, h.fst.lt, h.out.lt.1 ko rfl, h.stk.lt, h.out.lt.2⟩
theorem RSt.box (h : RSt w v ms g b1 kf r7 o ko ys Ds st ks its σ) (x : XtB B v v') (hl : RLt B b1 kf ko ks Ds) : RSt w v' ms g b1 kf r7 o ko ys Ds st ks its σ :=
  ⟨h.ext.xtb x (by have := h.ge; have := hl.b1; omega), h.bg.xtb x (Nat.ne_of_lt hl.b1), h.fst.xtb x (Nat.ne_of_lt hl.kf), h.out.xtb lnP_xtb x (fun e => by cases e; have := hl.ko; omega) (fun D hD hb => by have := hl.D D hD B hb; omega), h.stk.xtb x (Nat.ne_of_lt hl.ks), h.ge, h.ne, h.kD⟩
end
theorem range_set {f : Nat → ByteArray} {n k : Nat} {p : ByteArray} : (((List.range n).map f).flatMap strC).set k (.string p) = ((List.range n).map fun x => if x = k then p else f x).flatMap strC := by
  rw [flat_str, flat_str]
  apply List.ext_getElem?
  intro j
  by_cases hj : j < n
  · by_cases e : k = j
    · subst e; simp [hj]
    · rw [List.getElem?_set_ne e]; simp [hj, Ne.symm e]
  · by_cases e : k = j
    · subst e; simp [hj]
    · rw [List.getElem?_set_ne e]; simp [hj]
end Go.Proofs.Ytmmkhlalhalomaa
