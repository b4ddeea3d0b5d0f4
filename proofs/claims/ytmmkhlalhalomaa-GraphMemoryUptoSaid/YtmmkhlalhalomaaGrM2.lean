import Derived.Test.YtmmkhlalhalomaaGrC11
set_option linter.unusedVariables false
set_option linter.unusedSimpArgs false
namespace Go.Proofs.Ytmmkhlalhalomaa
open Go Go.Low
/-! ### rows whose elements own blocks -/
structure OwnR {α β : Type} (part : World → α → β → List Nat → Prop) (e sz : Nat) (f : α → List Value) (base : Nat) (v : World) (s : Sl) (k : Option Nat) (ys : List α) (ls : List β) (Ds : List (List Nat)) : Prop where
  row : OwnO v s k e sz (ys.flatMap f)
  ly : ys.length = ls.length
  lD : Ds.length = ls.length
  nd : ∀ (i : Nat) y l D, ys[i]? = some y → ls[i]? = some l → Ds[i]? = some D → part v y l D
  inj : ∀ (i j : Nat) D D' b, Ds[i]? = some D → Ds[j]? = some D' → b ∈ D → b ∈ D' → i = j
  dk : ∀ D ∈ Ds, ∀ b ∈ D, k ≠ some b ∧ base ≤ b ∧ b < v.heap.size
  bk : ∀ b, k = some b → base ≤ b
section
variable {α β : Type} {part : World → α → β → List Nat → Prop} {e sz : Nat} {f : α → List Value} {base : Nat} {v v' : World} {s : Sl} {k : Option Nat} {ys : List α} {ls : List β} {Ds : List (List Nat)}
/-- what a part bears -/
def PartExt (part : World → α → β → List Nat → Prop) : Prop := ∀ v v' y l D, Ext v v' → part v y l D → part v' y l D
def PartXtb (part : World → α → β → List Nat → Prop) : Prop := ∀ v v' y l D B, XtB B v v' → B ∉ D → part v y l D → part v' y l D
theorem OwnR.ext (h : OwnR part e sz f base v s k ys ls Ds) (hp : PartExt part) (x : Ext v v') : OwnR part e sz f base v' s k ys ls Ds :=
  ⟨h.row.ext x, h.ly, h.lD, fun i y l D h1 h2 h3 => hp _ _ _ _ _ x (h.nd i y l D h1 h2 h3), h.inj, fun D hD b hb => ⟨(h.dk D hD b hb).1, (h.dk D hD b hb).2.1, Nat.lt_of_lt_of_le (h.dk D hD b hb).2.2 x.1⟩, h.bk⟩
theorem OwnR.xtb {B : Nat} (h : OwnR part e sz f base v s k ys ls Ds) (hp : PartXtb part) (x : XtB B v v') (hk : k ≠ some B) (hB : ∀ D ∈ Ds, B ∉ D) : OwnR part e sz f base v' s k ys ls Ds :=
  ⟨h.row.xtb x hk, h.ly, h.lD, fun i y l D h1 h2 h3 => hp _ _ _ _ _ _ x (hB D (List.mem_of_getElem? h3)) (h.nd i y l D h1 h2 h3), h.inj, fun D hD b hb => ⟨(h.dk D hD b hb).1, (h.dk D hD b hb).2.1, Nat.lt_of_lt_of_le (h.dk D hD b hb).2.2 x.1⟩, h.bk⟩
/-- a write elsewhere -/
theorem OwnR.lt (h : OwnR part e sz f base v s k ys ls Ds) : (∀ b, k = some b → b < v.heap.size) ∧ ∀ D ∈ Ds, ∀ b ∈ D, b < v.heap.size :=
  ⟨h.row.lt, fun D hD b hb => (h.dk D hD b hb).2.2⟩
theorem OwnR.new (B : Nat) (h : OwnR part e sz f base v s k ys ls Ds) (hB : v.heap.size ≤ B ∨ B < base) : k ≠ some B ∧ ∀ D ∈ Ds, B ∉ D :=
  ⟨fun hk => by have := h.lt.1 B hk; have := h.bk B hk; omega, fun D hD hb => by have := h.dk D hD B hb; omega⟩
theorem OwnR.low {base' : Nat} (h : OwnR part e sz f base v s k ys ls Ds) (hb : base' ≤ base) : OwnR part e sz f base' v s k ys ls Ds :=
  ⟨h.row, h.ly, h.lD, h.nd, h.inj, fun D hD b hb' => ⟨(h.dk D hD b hb').1, Nat.le_trans hb (h.dk D hD b hb').2.1, (h.dk D hD b hb').2.2⟩, fun b hb' => Nat.le_trans hb (h.bk b hb')⟩
theorem OwnR.nil {w : World} : OwnR part e sz f base w ⟨none, 0, 0⟩ none [] [] [] :=
  ⟨⟨rfl, rfl⟩, rfl, rfl, fun i y l D h => by simp at h, fun i j D D' b h => by simp at h, fun D hD => by simp at hD, fun b hb => by cases hb⟩
theorem OwnR.empty {w : World} (hb : base ≤ w.heap.size) : OwnR part e sz f base (w.alloc (.cells ([] : List Value).toArray e)) ⟨some ⟨w.heap.size, 0, none⟩, 0, 0⟩ (some w.heap.size) [] [] [] :=
  ⟨Own.new (w := w), rfl, rfl, fun i y l D h => by simp at h, fun i j D D' b h => by simp at h, fun D hD => by simp at hD, fun b hb' => by cases hb'; exact hb⟩
theorem OwnR.rowX (h : OwnR part e sz f base v s k ys ls Ds) (hf : ∀ x, (f x).length = sz) (hsz : 0 < sz) : Row v s sz f ys := h.row.row hf hsz
theorem OwnR.n (h : OwnR part e sz f base v s k ys ls Ds) (hf : ∀ x, (f x).length = sz) (hsz : 0 < sz) : s.n = ls.length := by
  rw [(h.rowX hf hsz).n, h.ly]
theorem OwnR.at_ (h : OwnR part e sz f base v s k ys ls Ds) {i : Nat} (hi : i < ls.length) : ∃ y l D, ys[i]? = some y ∧ ls[i]? = some l ∧ Ds[i]? = some D ∧ part v y l D := by
  have h1 := h.ly; have h2 := h.lD
  obtain ⟨y, hy⟩ : ∃ y, ys[i]? = some y := ⟨_, List.getElem?_eq_getElem (by omega)⟩
  obtain ⟨l, hl⟩ : ∃ l, ls[i]? = some l := ⟨_, List.getElem?_eq_getElem hi⟩
  obtain ⟨D, hD⟩ : ∃ D, Ds[i]? = some D := ⟨_, List.getElem?_eq_getElem (by omega)⟩
  exact ⟨y, l, D, hy, hl, hD, h.nd i y l D hy hl hD⟩
theorem OwnR.app {bts : Nat} {z : Array Value} {src : Value} {y : α} {l : β} {D : List Nat} {K : Sl → World → Prop} (h : OwnR part e sz f base v s k ys ls Ds) (hpx : PartXtb part) (hf : ∀ x, (f x).length = sz) (hsz : 0 < sz)
    (hs : srcAt v src sz 1 (f y)) (h1 : ∀ u ∈ f y, u.oneCell' = true) (hz : z.size = sz) (hb : (ls.length + 1) * bts ≤ 140737488355328) (h63 : ls.length + 1 < 9223372036854775808) (hbase : base ≤ v.heap.size)
    (hy : part v y l D) (hD : ∀ b ∈ D, k ≠ some b ∧ base ≤ b ∧ b < v.heap.size ∧ ∀ D' ∈ Ds, b ∉ D')
    (hK : ∀ s' w' k' B, (k = some B ∨ v.heap.size ≤ B) → (k = some k' ∨ v.heap.size ≤ k') → XtB B v w' → OwnR part e sz f base w' s' (some k') (ys ++ [y]) (ls ++ [l]) (Ds ++ [D]) → s'.n = ls.length + 1 → K s' w') :
    app v e sz bts z s.p s.n s.c src K := by
  have hn := h.n hf hsz
  refine h.row.app hs (by rw [hf y]; omega) h1 hz (by decide) (by rw [hn]; exact hb) (by rw [hn]; exact h63) fun s' w' k' B hB hX ho hn' => ?_
  have hB' : k = some B ∨ v.heap.size ≤ B := by
    rcases hB with ⟨a, _, _⟩ | ⟨a, b, _, _⟩
    · exact .inl a.symm
    · by_cases hk : k = none
      · exact .inr (Nat.le_of_eq (a hk).symm)
      · exact .inl (b hk)
  have hk' : k = some k' ∨ v.heap.size ≤ k' := by
    rcases hB with ⟨a, b, _⟩ | ⟨_, _, c, _⟩
    · exact .inl (by rw [b]; exact a.symm)
    · exact .inr (Nat.le_of_eq c.symm)
  have hnB : ∀ D ∈ Ds, B ∉ D := fun D hD hb => by
    have := h.dk D hD B hb
    rcases hB' with h | h
    · exact this.1 h
    · omega
  have hDB : B ∉ D := fun hb => by
    have := hD B hb
    rcases hB' with h | h
    · exact this.1 h
    · omega
  have hly := h.ly; have hlD := h.lD
  refine hK s' w' k' B hB' hk' hX ⟨by rw [List.flatMap_append, List.flatMap_singleton]; exact ho, by simp [hly], by simp [hlD], fun i y1 l1 D1 g1 g2 g3 => ?_, fun i j D1 D2 b g1 g2 m1 m2 => ?_, fun D1 g1 b hb => ?_, fun b hb => ?_⟩ (by rw [hn', hn])
  · rcases get_snoc g1 with g1 | ⟨g1, rfl⟩
    · have hi := some_lt g1
      rw [List.getElem?_append_left (by omega)] at g2 g3
      exact hpx _ _ _ _ _ _ hX (hnB D1 (List.mem_of_getElem? g3)) (h.nd i y1 l1 D1 g1 g2 g3)
    · rw [List.getElem?_append_right (by omega), show i - ls.length = 0 by omega] at g2
      rw [List.getElem?_append_right (by omega), show i - Ds.length = 0 by omega] at g3
      cases g2; cases g3
      exact hpx _ _ _ _ _ _ hX hDB hy
  · rcases get_snoc g1 with g1 | ⟨g1, e1⟩ <;> rcases get_snoc g2 with g2 | ⟨g2, e2⟩
    · exact h.inj i j D1 D2 b g1 g2 m1 m2
    · rw [e2] at m2; exact absurd m1 ((hD b m2).2.2.2 D1 (List.mem_of_getElem? g1))
    · rw [e1] at m1; exact absurd m2 ((hD b m1).2.2.2 D2 (List.mem_of_getElem? g2))
    · rw [g1, g2]
  · have hkb : ∀ b, b < v.heap.size → k ≠ some b → some k' ≠ some b := fun b hlt hne he => by
      cases he
      rcases hk' with h | h
      · exact hne h
      · omega
    have hsz := hX.1
    rcases List.mem_append.1 g1 with g1 | g1
    · have := h.dk D1 g1 b hb
      exact ⟨hkb b this.2.2 this.1, this.2.1, by omega⟩
    · rw [List.mem_singleton.1 g1] at hb
      have := hD b hb
      exact ⟨hkb b this.2.2.1 this.1, this.2.1, by omega⟩
  · cases hb
    rcases hk' with h' | h'
    · exact h.bk _ h'
    · omega
end
/-! ### lines -/
structure Ln where
  path : ByteArray
  kind : Int
  mode : Int
  uid : Int
  gid : Int
  mtime : S_api_Time
  data : List UInt8
  target : ByteArray
  peer : ByteArray
def Ln.hd (l : Ln) (d : Sl) : S_api_Line := ⟨l.path, l.kind, l.mode, l.uid, l.gid, l.mtime, d, l.target, l.peer⟩
structure LineAt (w : World) (x : S_api_Line) (l : Ln) : Prop where
  hd : x = l.hd x.Data
  data : Bytes w x.Data l.data
theorem LineAt.ext {w w' : World} {x : S_api_Line} {m : Ln} (h : LineAt w x m) (e : Ext w w') : LineAt w' x m := ⟨h.hd, h.data.ext e⟩
structure LinesX (w : World) (s : Sl) (xs : List S_api_Line) (ls : List Ln) : Prop where
  row : Row w s 10 S_api_Line.cells xs
  len : xs.length = ls.length
  at_ : ∀ (i : Nat) x m, xs[i]? = some x → ls[i]? = some m → LineAt w x m
theorem LinesX.ext {w w' : World} {s : Sl} {xs : List S_api_Line} {ls : List Ln} (h : LinesX w s xs ls) (e : Ext w w') : LinesX w' s xs ls := ⟨h.row.ext e, h.len, fun i x m hx hm => (h.at_ i x m hx hm).ext e⟩
theorem LinesX.n {w : World} {s : Sl} {xs : List S_api_Line} {ls : List Ln} (h : LinesX w s xs ls) : s.n = ls.length := by rw [← h.len]; exact h.row.n
theorem LinesX.node {w : World} {s : Sl} {xs : List S_api_Line} {ls : List Ln} (h : LinesX w s xs ls) {j : Nat} (hj : j < ls.length) : ∃ x m, xs[j]? = some x ∧ ls[j]? = some m ∧ LineAt w x m := by
  have hl := h.len
  obtain ⟨x, hx⟩ : ∃ x, xs[j]? = some x := ⟨_, List.getElem?_eq_getElem (by omega)⟩
  obtain ⟨m, hm⟩ : ∃ m, ls[j]? = some m := ⟨_, List.getElem?_eq_getElem hj⟩
  exact ⟨x, m, hx, hm, h.at_ j x m hx hm⟩
/-- a line and the block of its data -/
def lnP (v : World) (y : S_api_Line) (l : Ln) (D : List Nat) : Prop := y = l.hd y.Data ∧ ∃ d : Option Nat, OwnO v y.Data d 5 1 (l.data.flatMap u8) ∧ D = d.toList
theorem lnP_ext : PartExt lnP := fun v v' y l D x ⟨h1, d, h2, h3⟩ => ⟨h1, d, h2.ext x, h3⟩
theorem lnP_xtb : PartXtb lnP := fun v v' y l D B x hB ⟨h1, d, h2, h3⟩ => ⟨h1, d, h2.xtb x fun e => hB (by rw [h3, e]; simp), h3⟩
theorem lnP_at {v : World} {y : S_api_Line} {l : Ln} {D : List Nat} (h : lnP v y l D) : LineAt v y l := by
  obtain ⟨h1, d, h2, _⟩ := h
  exact ⟨h1, h2.row (fun _ => rfl) (by decide)⟩
abbrev OwnL (base : Nat) (v : World) (s : Sl) (k : Option Nat) (ys : List S_api_Line) (ls : List Ln) (Ds : List (List Nat)) : Prop := OwnR lnP 40 10 S_api_Line.cells base v s k ys ls Ds
theorem OwnL.linesX {base : Nat} {v : World} {s : Sl} {k : Option Nat} {ys : List S_api_Line} {ls : List Ln} {Ds : List (List Nat)} (h : OwnL base v s k ys ls Ds) : LinesX v s ys ls :=
  ⟨h.rowX (fun _ => rfl) (by decide), h.ly, fun i x m hx hm => by
    obtain ⟨y, l, D, h1, h2, h3, h4⟩ := h.at_ (some_lt hm)
    rw [hx] at h1; rw [hm] at h2; cases h1; cases h2
    exact lnP_at h4⟩
end Go.Proofs.Ytmmkhlalhalomaa
