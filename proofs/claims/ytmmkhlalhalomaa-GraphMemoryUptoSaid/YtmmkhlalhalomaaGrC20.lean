import Derived.Test.YtmmkhlalhalomaaGrC19
set_option linter.unusedVariables false
set_option linter.unusedSimpArgs false
set_option maxRecDepth 100000
namespace Go.Proofs.Ytmmkhlalhalomaa
open Go Go.Low
section
variable {w w' : World}
theorem Blk_same {k T : Nat} {cs : List Value} (h : Blk w k T cs) (e : w'.heap[k]? = w.heap[k]?) : Blk w' k T cs := e.trans h
theorem Own_same {s : Sl} {k e sz : Nat} {cs : List Value} (h : Own w s k e sz cs) (he : w'.heap[k]? = w.heap[k]?) : Own w' s k e sz cs := by
  obtain ⟨sp, hb, hl⟩ := h.blk
  exact ⟨h.p, ⟨sp, Blk_same hb he, hl⟩, h.n, h.nc, h.c63⟩
theorem MapAt_same {κ α : Type} [DecidableEq κ] {b : Nat} {kk : KeyKind κ} {mv : α → Value} {es : List (κ × α)} (h : MapAt w b kk mv es) (he : w'.heap[b]? = w.heap[b]?) : MapAt w' b kk mv es := by
  obtain ⟨⟨arr, c, h1, h2⟩, h3⟩ := h
  exact ⟨⟨arr, c, by rw [he]; exact h1, h2⟩, h3⟩
end
structure PlG (w v : World) (b1 b2 b3 : Nat) (sg : Sl) (kn : Option Nat) (ys : List S_api_Node) (Ds : List (List Nat)) (ns : List Nd) : Prop where
  ext : Ext w v
  r : Blk v b1 24 [.slice none 0 0]
  g : Blk v b2 24 (S_api_Graph.cells ⟨sg⟩)
  nd : OwnNd w.heap.size v sg kn ys ns Ds
  b3v : b3 < v.heap.size
  ge : w.heap.size ≤ b1 ∧ w.heap.size ≤ b2 ∧ w.heap.size ≤ b3 ∧ b1 ≠ b2 ∧ b1 ≠ b3 ∧ b2 ≠ b3
  kn_ : kn ≠ some b1 ∧ kn ≠ some b2 ∧ kn ≠ some b3
  kD : ∀ D ∈ Ds, b1 ∉ D ∧ b2 ∉ D ∧ b3 ∉ D
section
variable {w v v' : World} {b1 b2 b3 : Nat} {sg : Sl} {kn : Option Nat} {ys : List S_api_Node} {Ds : List (List Nat)} {ns : List Nd}
theorem PlG.up (h : PlG w v b1 b2 b3 sg kn ys Ds ns) (x : Ext v v') : PlG w v' b1 b2 b3 sg kn ys Ds ns :=
  ⟨h.ext.trans x, h.r.ext x, h.g.ext x, h.nd.ext ndP_ext x, Nat.lt_of_lt_of_le h.b3v x.1, h.ge, h.kn_, h.kD⟩
/-- a write elsewhere -/
theorem PlG.box {B : Nat} (h : PlG w v b1 b2 b3 sg kn ys Ds ns) (x : XtB B v v') (hw : w.heap.size ≤ B) (hB : B ≠ b1 ∧ B ≠ b2) (hk : kn ≠ some B) (hD : ∀ D ∈ Ds, B ∉ D) : PlG w v' b1 b2 b3 sg kn ys Ds ns :=
  ⟨h.ext.xtb x hw, h.r.xtb x (Ne.symm hB.1), h.g.xtb x (Ne.symm hB.2), h.nd.xtb ndP_xtb x hk hD, Nat.lt_of_lt_of_le h.b3v x.1, h.ge, h.kn_, h.kD⟩
theorem PlG.addNode {y : S_api_Node} {m : Nd} {d : Option Nat} {src : Value} {z : Array Value} {K : World → Prop} (h : PlG w v b1 b2 b3 sg kn ys Ds ns) (hs : srcAt v src 10 1 (S_api_Node.cells y)) (hz : z.size = 10) (hlen : ns.length ≤ 4194304) (hy : ndP v y m d.toList)
    (hd : ∀ b, d = some b → w.heap.size ≤ b ∧ b ≠ b1 ∧ b ≠ b2 ∧ b ≠ b3 ∧ kn ≠ some b ∧ ∀ D ∈ Ds, b ∉ D)
    (hK : ∀ v2 r kn', PlG w v2 b1 b2 b3 r (some kn') (ys ++ [y]) (Ds ++ [d.toList]) (ns ++ [m]) → v.heap.size ≤ v2.heap.size → (∀ X, X < v.heap.size → X ≠ b2 → kn ≠ some X → v2.heap[X]? = v.heap[X]?) → (kn = some kn' ∨ v.heap.size ≤ kn') → K v2) :
    app v 43 10 120 z sg.p sg.n sg.c src fun r v1 => st v1 (Addr.add ⟨b2, 0, none⟩ 0) [Sl.v r] K := by
  obtain ⟨_, d', e', hd', he', hDD, _⟩ := id hy
  refine h.nd.app ndP_xtb (fun _ => rfl) (by decide) hs (S_api_Node.one y) hz (by omega) (by omega) h.ext.1 hy (fun b hb => ?_) fun r v1 kn' B hB hk hX hO hn => ?_
  · have hlt : b < v.heap.size := by
      rw [hDD] at hb
      rcases List.mem_append.1 hb with hb | hb
      · cases d' with
        | none => simp at hb
        | some q => simp at hb; subst hb; exact hd'.lt _ rfl
      · cases e' with
        | none => simp at hb
        | some q => simp at hb; subst hb; exact he'.lt _ rfl
    cases d with
    | none => simp at hb
    | some q =>
      simp at hb
      subst hb
      have := hd b rfl
      exact ⟨this.2.2.2.2.1, this.1, hlt, this.2.2.2.2.2⟩
  · have hw := h.ext.1
    have l1 := h.r.lt; have l2 := h.g.lt; have l3 := h.b3v
    have nB : B ≠ b1 ∧ B ≠ b2 ∧ B ≠ b3 ∧ w.heap.size ≤ B := by
      rcases hB with e | e
      · exact ⟨fun e2 => h.kn_.1 (by rw [e, e2]), fun e2 => h.kn_.2.1 (by rw [e, e2]), fun e2 => h.kn_.2.2 (by rw [e, e2]), h.nd.bk B e⟩
      · omega
    have nk : kn' ≠ b1 ∧ kn' ≠ b2 ∧ kn' ≠ b3 := by
      rcases hk with e | e
      · exact ⟨fun e2 => h.kn_.1 (by rw [e, e2]), fun e2 => h.kn_.2.1 (by rw [e, e2]), fun e2 => h.kn_.2.2 (by rw [e, e2])⟩
      · omega
    have nD : ∀ D ∈ Ds ++ [d.toList], b1 ∉ D ∧ b2 ∉ D ∧ b3 ∉ D := by
      intro D hD
      rcases List.mem_append.1 hD with hD | hD
      · exact h.kD D hD
      · rw [List.mem_singleton.1 hD]
        cases d with
        | none => simp
        | some q => have := hd q rfl; simp; exact ⟨Ne.symm this.2.1, Ne.symm this.2.2.1, Ne.symm this.2.2.2.1⟩
    refine st_i0 (cs' := S_api_Graph.cells ⟨r⟩) (h.g.xtb hX (Ne.symm nB.2.1)) rfl rfl fun v2 hB2 hX2 hz2 => hK v2 r kn' ⟨(h.ext.xtb hX nB.2.2.2).xtb hX2 h.ge.2.1, (h.r.xtb hX (Ne.symm nB.1)).xtb hX2 h.ge.2.2.2.1, hB2, hO.xtb ndP_xtb hX2 (fun e => nk.2.1 (Option.some.inj e)) (fun D hD => (nD D hD).2.1), by have := hX.1; omega, h.ge, ⟨fun e => nk.1 (Option.some.inj e), fun e => nk.2.1 (Option.some.inj e), fun e => nk.2.2 (Option.some.inj e)⟩, nD⟩ (by have := hX.1; omega) (fun X hX3 hXb hXk => ?_) hk
    have hXB : X ≠ B := by
      rcases hB with e | e
      · intro e2; exact hXk (by rw [e, e2])
      · omega
    rw [hX2.2 X (by have := hX.1; omega) hXb, hX.2 X hX3 hXB]
theorem PlG.addEnt {kk p : Nat} {y : S_api_Node} {m : Nd} {en : S_api_Ent} {src : Value} {z : Array Value} {K : Sl → World → Prop} (h : PlG w v b1 b2 b3 sg (some kk) ys Ds ns) (hy : ys[p]? = some y) (hm : ns[p]? = some m)
    (hb : m.ents.length ≤ 16777216) (hs : srcAt v src 2 1 (S_api_Ent.cells en)) (hz : z.size = 2)
    (hK : ∀ r v1, Own v1 sg kk 43 10 (ys.flatMap S_api_Node.cells) → (∀ J : World → Prop, (∀ v2 ys' Ds', PlG w v2 b1 b2 b3 sg (some kk) ys' Ds' (ns.set p (withEnt en m)) → (∀ X, X < v.heap.size → X ≠ kk → (∀ D ∈ Ds, X ∉ D) → v2.heap[X]? = v.heap[X]?) → v.heap.size ≤ v2.heap.size → (∀ D ∈ Ds', ∀ b ∈ D, (∃ D0 ∈ Ds, b ∈ D0) ∨ v.heap.size ≤ b) → J v2) → st v1 (Addr.add ⟨kk, p * 10, none⟩ 9) [Sl.v r] J) → K r v1) :
    app v 66 2 24 z y.Ents.p y.Ents.n y.Ents.c src K := by
  refine Ytmmkhlalhalomaa.addEnt h.nd hy hm hb hs hz h.ext.1 fun r v1 B hB hBk hBw hX hO hfin => hK r v1 hO fun J hJ => ?_
  have nB : B ≠ b1 ∧ B ≠ b2 ∧ B ≠ b3 := by
    have l1 := h.r.lt; have l2 := h.g.lt; have l3 := h.b3v
    rcases hB with ⟨D, hD, hm⟩ | e
    · have := h.kD D (List.mem_of_getElem? hD)
      exact ⟨fun e => this.1 (e ▸ hm), fun e => this.2.1 (e ▸ hm), fun e => this.2.2 (e ▸ hm)⟩
    · omega
  rw [add_loc]
  refine Own_stF (y' := { y with Ents := r }) hO (fun _ => rfl) hy (Nat.le_refl 10) rfl fun v2 hO2 hX2 hz2 => ?_
  obtain ⟨Ds', hN', hD'⟩ := hfin v2 hO2 hX2
  have hkn := h.kn_
  have hn1 : kk ≠ b1 := fun e => hkn.1 (by rw [e])
  have hn2 : kk ≠ b2 := fun e => hkn.2.1 (by rw [e])
  have l1 := h.r.lt; have l2 := h.g.lt; have l3 := h.b3v
  refine hJ v2 _ Ds' ⟨(h.ext.xtb hX hBw).xtb hX2 (h.nd.bk kk rfl), (h.r.xtb hX (Ne.symm nB.1)).xtb hX2 (Ne.symm hn1), (h.g.xtb hX (Ne.symm nB.2.1)).xtb hX2 (Ne.symm hn2), hN', by have := hX.1; omega, h.ge, hkn, fun D hD => ?_⟩ (fun X hXv hXk hXD => ?_) (by have := hX.1; omega) hD'
  · refine ⟨fun hm => ?_, fun hm => ?_, fun hm => ?_⟩
    all_goals
      rcases hD' D hD _ hm with ⟨D0, hD0, hm0⟩ | hge
      · first
        | exact (h.kD D0 hD0).1 hm0
        | exact (h.kD D0 hD0).2.1 hm0
        | exact (h.kD D0 hD0).2.2 hm0
      · omega
  · have hXB : X ≠ B := by
      rcases hB with ⟨D, hD, hm⟩ | e
      · intro e2; exact hXD D (List.mem_of_getElem? hD) (e2 ▸ hm)
      · omega
    rw [hX2.2 X (by have := hX.1; omega) hXk, hX.2 X hXv hXB]
end
end Go.Proofs.Ytmmkhlalhalomaa
