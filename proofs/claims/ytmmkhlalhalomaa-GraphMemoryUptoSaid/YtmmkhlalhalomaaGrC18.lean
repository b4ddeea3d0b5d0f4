import Derived.Test.YtmmkhlalhalomaaGrM4
set_option linter.unusedVariables false
set_option linter.unusedSimpArgs false
set_option maxRecDepth 100000
namespace Go.Proofs.Ytmmkhlalhalomaa
open Go Go.Low
theorem splL_mid {A B C vs : List Value} {o : Nat} (h : o + vs.length ≤ B.length) : splL (A ++ (B ++ C)) (A.length + o) vs = A ++ (splL B o vs ++ C) := by
  unfold splL
  rw [List.take_length_add_append, Nat.add_assoc, List.drop_length_add_append, List.take_append_of_le_length (by omega), List.drop_append_of_le_length h]
  simp only [List.append_assoc]
theorem split_at {α : Type} {ys : List α} {i : Nat} {y : α} (h : ys[i]? = some y) : ys = ys.take i ++ y :: ys.drop (i + 1) := by
  have hi := some_lt h
  rw [List.getElem?_eq_getElem hi] at h
  have e := Option.some.inj h
  rw [← e, ← List.drop_eq_getElem_cons hi, List.take_append_drop]
theorem set_at {α : Type} {ys : List α} {i : Nat} (y' : α) (hi : i < ys.length) : ys.set i y' = ys.take i ++ y' :: ys.drop (i + 1) := by
  rw [List.set_eq_take_append_cons_drop, if_pos hi]
theorem Own_stF {α : Type} {w : World} {s : Sl} {k e sz i o : Nat} {f : α → List Value} {ys : List α} {y y' : α} {vs : List Value} {K : World → Prop} (h : Own w s k e sz (ys.flatMap f)) (hf : ∀ x, (f x).length = sz) (hy : ys[i]? = some y) (ho : o + vs.length ≤ sz) (hy' : splL (f y) o vs = f y')
    (kk : ∀ w', Own w' s k e sz ((ys.set i y').flatMap f) → XtB k w w' → w'.heap.size = w.heap.size → K w') : st w ⟨k, i * sz + o, none⟩ vs K := by
  obtain ⟨sp, hb, hl⟩ := h.blk
  have hi := some_lt hy
  have hA : ((ys.take i).flatMap f).length = i * sz := by
    rw [length_flat (fun x _ => hf x), List.length_take]; congr 1; omega
  have hcs : ys.flatMap f ++ sp = (ys.take i).flatMap f ++ (f y ++ ((ys.drop (i + 1)).flatMap f ++ sp)) := by
    conv => lhs; rw [split_at hy]
    simp [List.flatMap_append, List.append_assoc]
  have hlen : (ys.flatMap f).length = (ys.take i).length * sz + (sz + (ys.drop (i + 1)).length * sz) := by
    conv => lhs; rw [split_at hy]
    simp only [List.flatMap_append, List.flatMap_cons, List.length_append, hf, length_flat (fun x _ => hf x)]
  refine hb.st ?_ ?_
  · rw [List.length_append, hlen, List.length_take, Nat.min_eq_left (by omega)]; omega
  · have e1 : splL (ys.flatMap f ++ sp) (i * sz + o) vs = (ys.set i y').flatMap f ++ sp := by
      rw [hcs, ← hA, splL_mid (by rw [hf]; exact ho), hy', set_at y' hi]
      simp [List.flatMap_append, List.append_assoc]
    rw [e1]
    have hlen' : ((ys.set i y').flatMap f).length = (ys.flatMap f).length := by
      rw [length_flat (fun x _ => hf x), length_flat (fun x _ => hf x), List.length_set]
    exact kk _ ⟨h.p, ⟨sp, Blk.put_eq h.lt, by rw [hlen']; exact hl⟩, by rw [hlen']; exact h.n, h.nc, h.c63⟩ (XtB.put (b := ⟨k, 0, none⟩) _ rfl) (by simp)
section
variable {α β : Type} {part : World → α → β → List Nat → Prop} {e sz : Nat} {f : α → List Value} {base : Nat} {s : Sl} {ys : List α} {ls : List β} {Ds : List (List Nat)}
theorem OwnR.set {v v1 v2 : World} {kk B i : Nat} {y' : α} {l' : β} {D' : List Nat} (h : OwnR part e sz f base v s (some kk) ys ls Ds) (hpx : PartXtb part) (hi : i < ls.length) (hX1 : XtB B v v1) (hB : ∀ j D2, Ds[j]? = some D2 → B ∈ D2 → j = i)
    (hy' : part v1 y' l' D') (hD' : ∀ b ∈ D', b ≠ kk ∧ base ≤ b ∧ b < v1.heap.size ∧ ∀ j D2, Ds[j]? = some D2 → b ∈ D2 → j = i) (hO : Own v2 s kk e sz ((ys.set i y').flatMap f)) (hX2 : XtB kk v1 v2) :
    OwnR part e sz f base v2 s (some kk) (ys.set i y') (ls.set i l') (Ds.set i D') := by
  have hly := h.ly; have hlD := h.lD
  have hz1 := hX1.1; have hz2 := hX2.1
  refine ⟨hO, by simp [hly], by simp [hlD], fun j y l D g1 g2 g3 => ?_, fun j j' D D2 b g1 g2 m1 m2 => ?_, fun D hD b hb => ?_, h.bk⟩
  · by_cases hj : i = j
    · subst hj
      rw [List.getElem?_set_self (by omega)] at g1 g2 g3
      cases g1; cases g2; cases g3
      exact hpx _ _ _ _ _ _ hX2 (fun hm => (hD' _ hm).1 rfl) hy'
    · rw [List.getElem?_set_ne hj] at g1 g2 g3
      have := h.nd j y l D g1 g2 g3
      refine hpx _ _ _ _ _ _ hX2 (fun hm => (h.dk D (List.mem_of_getElem? g3) _ hm).1 rfl) (hpx _ _ _ _ _ _ hX1 (fun hm => hj (hB j D g3 hm).symm) this)
  · by_cases hj : i = j
    · by_cases hj' : i = j'
      · omega
      · subst hj
        rw [List.getElem?_set_self (by omega)] at g1
        rw [List.getElem?_set_ne hj'] at g2
        cases g1
        exact ((hD' b m1).2.2.2 j' D2 g2 m2).symm
    · rw [List.getElem?_set_ne hj] at g1
      by_cases hj' : i = j'
      · subst hj'
        rw [List.getElem?_set_self (by omega)] at g2
        cases g2
        exact (hD' b m2).2.2.2 j D g1 m1
      · rw [List.getElem?_set_ne hj'] at g2
        exact h.inj j j' D D2 b g1 g2 m1 m2
  · rcases List.mem_or_eq_of_mem_set hD with hD | rfl
    · have := h.dk D hD b hb
      exact ⟨this.1, this.2.1, by omega⟩
    · have := hD' b hb
      exact ⟨fun e => this.1 (Option.some.inj e).symm, this.2.1, by omega⟩
end
/-! ### nodes that are built -/
def ndP (v : World) (y : S_api_Node) (m : Nd) (D : List Nat) : Prop := y = m.hd y.Data y.Ents ∧ ∃ d e : Option Nat, OwnO v y.Data d 5 1 (m.data.flatMap u8) ∧ OwnO v y.Ents e 66 2 (m.ents.flatMap S_api_Ent.cells) ∧ D = d.toList ++ e.toList ∧ ∀ b, d = some b → e ≠ some b
theorem ndP_ext : PartExt ndP := fun v v' y l D x ⟨h1, d, e, h2, h3, h4⟩ => ⟨h1, d, e, h2.ext x, h3.ext x, h4⟩
theorem ndP_xtb : PartXtb ndP := fun v v' y l D B x hB ⟨h1, d, e, h2, h3, h4, h5⟩ => ⟨h1, d, e, h2.xtb x fun e' => hB (by rw [h4, e']; simp), h3.xtb x fun e' => hB (by rw [h4, e']; simp), h4, h5⟩
theorem ndP_at {v : World} {y : S_api_Node} {l : Nd} {D : List Nat} (h : ndP v y l D) : NodeAt v y l := by
  obtain ⟨h1, d, e, h2, h3, _⟩ := h
  exact ⟨h1, h2.row (fun _ => rfl) (by decide), h3.row (fun _ => rfl) (by decide)⟩
abbrev OwnNd (base : Nat) (v : World) (s : Sl) (k : Option Nat) (ys : List S_api_Node) (ms : List Nd) (Ds : List (List Nat)) : Prop := OwnR ndP 43 10 S_api_Node.cells base v s k ys ms Ds
theorem OwnNd.graphX {base : Nat} {v : World} {s : Sl} {k : Option Nat} {ys : List S_api_Node} {ms : List Nd} {Ds : List (List Nat)} (h : OwnNd base v s k ys ms Ds) : GraphX v s ys ms :=
  ⟨h.rowX (fun _ => rfl) (by decide), h.ly, fun i x m hx hm => by
    obtain ⟨y, l, D, h1, h2, h3, h4⟩ := h.at_ (some_lt hm)
    rw [hx] at h1; rw [hm] at h2; cases h1; cases h2
    exact ndP_at h4⟩
theorem modify_set {α : Type} {xs : List α} {i : Nat} {x : α} {f : α → α} (h : xs[i]? = some x) : xs.modify i f = xs.set i (f x) := by
  apply List.ext_getElem?
  intro j
  by_cases hj : i = j
  · subst hj
    rw [List.getElem?_set_self (some_lt h), List.getElem?_modify, h]
    simp
  · rw [List.getElem?_set_ne hj, List.getElem?_modify]
    simp [hj]
theorem C_LastIndexByte {w : World} {s : ByteArray} {K : Int → World → Prop} (h63 : s.size < 9223372036854775807) (k : K (match lastSlash s with | some c => (c : Int) | none => -1) w) : cl1 Try.prog 23 [.string s, .int .u8 47] w (Value.int .i64) K := by
  refine T_strings_LastIndexByte s 47 (T_internal_bytealg_LastIndexByteString s 47 ?_)
  refine ⟨fun _ i v => v = w ∧ ∃ j : Nat, i = (j : Int) - 1 ∧ j ≤ s.size ∧ lastBelow s j = lastSlash s, fun _ i _ => (i + 1).toNat, ⟨rfl, s.size, by rw [w64_id (by omega) (by omega)], Nat.le_refl _, rfl⟩, ?_⟩
  rintro _ i v ⟨rfl, j, rfl, hj, hlast⟩
  refine ⟨fun hpos => ?_, fun hneg => ?_⟩
  · obtain ⟨q, rfl⟩ : ∃ q, j = q + 1 := ⟨j - 1, by omega⟩
    rw [show ((q + 1 : Nat) : Int) - 1 = (q : Int) by omega]
    have hg : s.data[q]? = some s[q] := Array.getElem?_eq_getElem (by exact hj)
    rw [lastBelow, hg] at hlast
    refine sx_i (by omega) ⟨fun he => ?_, fun hne => ⟨⟨rfl, q, by rw [w64_id (by omega) (by omega)], by omega, ?_⟩, by dsimp only; rw [w64_id (by omega) (by omega)]; omega⟩⟩
    · have : s[q] = 47 := u8_eq (n := 47) (by decide) he
      rw [if_pos (by rw [this])] at hlast
      rw [← hlast] at k
      exact k
    · have : s[q] ≠ 47 := u8_ne (n := 47) (by decide) hne
      rw [if_neg (fun h => this (Option.some.inj h))] at hlast
      exact hlast
  · have : j = 0 := by omega
    subst this
    rw [← hlast] at k
    exact k
end Go.Proofs.Ytmmkhlalhalomaa
