import Derived.Test.YtmmkhlalhalomaaGrC3
set_option linter.unusedVariables false
set_option linter.unusedSimpArgs false
set_option maxRecDepth 100000
namespace Go.Proofs.Ytmmkhlalhalomaa
open Go Go.Low
/-- a node's content -/
structure Nd where
  id : Int
  kind : Int
  mode : Int
  uid : Int
  gid : Int
  mtime : S_api_Time
  target : ByteArray
  data : List UInt8
  ents : List S_api_Ent
def Nd.hd (m : Nd) (d e : Sl) : S_api_Node := ⟨m.id, m.kind, m.mode, m.uid, m.gid, m.mtime, d, m.target, e⟩
structure NodeAt (w : World) (x : S_api_Node) (m : Nd) : Prop where
  hd : x = m.hd x.Data x.Ents
  data : Bytes w x.Data m.data
  ents : Row w x.Ents 2 S_api_Ent.cells m.ents
theorem NodeAt.ext {w w' : World} {x : S_api_Node} {m : Nd} (h : NodeAt w x m) (e : Ext w w') : NodeAt w' x m := ⟨h.hd, h.data.ext e, h.ents.ext e⟩
structure GraphX (w : World) (s : Sl) (xs : List S_api_Node) (ms : List Nd) : Prop where
  row : Row w s 10 S_api_Node.cells xs
  len : xs.length = ms.length
  at_ : ∀ (i : Nat) x m, xs[i]? = some x → ms[i]? = some m → NodeAt w x m
theorem GraphX.ext {w w' : World} {s : Sl} {xs : List S_api_Node} {ms : List Nd} (h : GraphX w s xs ms) (e : Ext w w') : GraphX w' s xs ms := ⟨h.row.ext e, h.len, fun i x m hx hm => (h.at_ i x m hx hm).ext e⟩
theorem one_ents (xs : List S_api_Ent) : ∀ v ∈ xs.flatMap S_api_Ent.cells, v.oneCell' = true := by
  intro v hv
  obtain ⟨x, _, hx⟩ := List.mem_flatMap.1 hv
  exact S_api_Ent.one x v hx
theorem C_CopyNode {w : World} {x : S_api_Node} {m : Nd} {K : S_api_Node → World → Prop} (h : NodeAt w x m) (hb : m.data.length ≤ 140737488355328) (he : m.ents.length * 24 ≤ 140737488355328)
    (k : ∀ y w' d e, Ext w w' → w.heap.size ≤ d → w.heap.size ≤ e → y = m.hd y.Data y.Ents → Own w' y.Data d 5 1 (m.data.flatMap u8) → Own w' y.Ents e 66 2 (m.ents.flatMap S_api_Ent.cells) → K y w') : cl1 Try.prog 15 [S_api_Node.v x] w S_api_Node.v K := by
  refine T_valiseref00_CopyNode x (al_i fun hB1 hE1 => al_i fun hB2 hE2 => ?_)
  replace hB1 := hB1.ext hE2
  have hE := hE1.trans hE2
  generalize hw2 : (w.alloc _).alloc _ = w2 at hB1 hB2 hE
  have hs1 : w.heap.size < w2.heap.size := hB1.lt
  have hs2 := hB2.lt
  rw [show (w.alloc (.cells (S_api_Node.cells x).toArray 43)).heap.size = w.heap.size + 1 by simp] at hB2 hs2 ⊢
  refine ldL_at hB1.all ⟨x.Data, rfl, C_CopyBytes (h.data.ext hE) hb fun s1 w3 k1 hE3 hk1 ho1 => ?_⟩
  refine st_i (o := 7) (cs' := S_api_Node.cells { x with Data := s1 }) (hB1.ext hE3) rfl rfl fun w4 hB1 hX4 hz4 => ?_
  have hB2 := (hB2.ext hE3).xtb hX4 (by omega)
  replace ho1 := ho1.xtb hX4 (by omega)
  have hE4 : Ext w w4 := (hE.trans hE3).xtb hX4 (Nat.le_refl _)
  refine al_i fun hB5 hE5 => ?_
  have ho5 : Own (w4.alloc (.cells ([] : List Value).toArray 66)) ⟨some ⟨w4.heap.size, 0, none⟩, 0, 0⟩ w4.heap.size 66 2 [] := Own.new
  have hs4 : w2.heap.size ≤ w4.heap.size := by have := hE3.1; omega
  have hk4 := ho1.lt
  refine ldL_at (hB1.ext hE5).all ⟨x.Ents, rfl, ho5.app (h.ents.ext (hE4.trans hE5)).src (length_flat h.ents.len) (one_ents _) rfl (by simpa using he) (by simp; omega) fun s2 w6 k2 hk2 hX6 ho2 _ => ?_⟩
  have hB1 := (hB1.ext hE5).xtb hX6 (by omega)
  have hB2 := (hB2.ext hE5).xtb hX6 (by omega)
  replace ho1 := (ho1.ext hE5).xtb hX6 (by omega)
  have hE6 : Ext w w6 := (hE4.trans hE5).xtb hX6 (by have := hE4.1; omega)
  have hk2' : w4.heap.size ≤ k2 := by
    rcases hk2 with ⟨rfl, _⟩ | ⟨hk, _⟩
    · exact Nat.le_refl _
    · rw [← hk]; simp
  refine st_i (o := 9) (cs' := S_api_Node.cells { x with Data := s1, Ents := s2 }) hB1 rfl rfl fun w7 hB1 hX7 hz7 => ?_
  have hB2 := hB2.xtb hX7 (by omega)
  replace ho1 := ho1.xtb hX7 (by omega)
  replace ho2 := ho2.xtb hX7 (by omega)
  have hE7 : Ext w w7 := hE6.xtb hX7 (Nat.le_refl _)
  refine ldT_all (x := ({ x with Data := s1, Ents := s2 } : S_api_Node)) hB1.all ?_
  refine st_i0 (cs' := S_api_Node.cells { x with Data := s1, Ents := s2 }) hB2 rfl rfl fun w8 hB2 hX8 hz8 => ?_
  replace ho1 := ho1.xtb hX8 (by omega)
  replace ho2 := ho2.xtb hX8 (by omega)
  have hE8 : Ext w w8 := hE7.xtb hX8 (by omega)
  refine ldT_all (x := ({ x with Data := s1, Ents := s2 } : S_api_Node)) hB2.all ?_
  rw [List.nil_append] at ho2
  refine k _ _ k1 k2 hE8 (by have := hE.1; omega) (by have := hE4.1; omega) ?_ ho1 ho2
  have := h.hd
  rw [this]
  rfl
/-- a graph in blocks of its own, all from 'base' on -/
structure OwnGraph (base : Nat) (v : World) (s : Sl) (k : Nat) (ys : List S_api_Node) (ms : List Nd) (ds es : List Nat) : Prop where
  row : Own v s k 43 10 (ys.flatMap S_api_Node.cells)
  ly : ys.length = ms.length
  ld : ds.length = ms.length
  le : es.length = ms.length
  nd : ∀ (i : Nat) y m d e, ys[i]? = some y → ms[i]? = some m → ds[i]? = some d → es[i]? = some e → y = m.hd y.Data y.Ents ∧ Own v y.Data d 5 1 (m.data.flatMap u8) ∧ Own v y.Ents e 66 2 (m.ents.flatMap S_api_Ent.cells)
  inc : ds.Pairwise (· < ·)
  dk : ∀ d ∈ ds, d ≠ k ∧ base ≤ d ∧ d < v.heap.size
  ek : ∀ e ∈ es, e ≠ k ∧ base ≤ e ∧ e < v.heap.size
  bk : base ≤ k
theorem get_snoc {α : Type} {xs : List α} {x y : α} {i : Nat} (h : (xs ++ [x])[i]? = some y) : xs[i]? = some y ∨ i = xs.length ∧ y = x := by
  rcases Nat.lt_trichotomy i xs.length with hi | hi | hi
  · rw [List.getElem?_append_left hi] at h; exact .inl h
  · subst hi; simp at h; exact .inr ⟨rfl, h.symm⟩
  · rw [List.getElem?_append_right (by omega)] at h
    rw [List.getElem?_eq_none (by simp; omega)] at h
    cases h
theorem some_lt {α : Type} {xs : List α} {y : α} {i : Nat} (h : xs[i]? = some y) : i < xs.length := (List.getElem?_eq_some_iff.1 h).1
theorem OwnGraph.xtb {base B k : Nat} {v v' : World} {s : Sl} {ys : List S_api_Node} {ms : List Nd} {ds es : List Nat} (h : OwnGraph base v s k ys ms ds es) (hx : XtB B v v') (hB : B ≠ k) (hd : B ∉ ds) (he : B ∉ es) : OwnGraph base v' s k ys ms ds es :=
  ⟨h.row.xtb hx (Ne.symm hB), h.ly, h.ld, h.le, fun i y m d e h1 h2 h3 h4 => by
    obtain ⟨a, b, c⟩ := h.nd i y m d e h1 h2 h3 h4
    exact ⟨a, b.xtb hx fun e => hd (e ▸ List.mem_of_getElem? h3), c.xtb hx fun e => he (e ▸ List.mem_of_getElem? h4)⟩, h.inc, fun d hd => ⟨(h.dk d hd).1, (h.dk d hd).2.1, Nat.lt_of_lt_of_le (h.dk d hd).2.2 hx.1⟩, fun e he => ⟨(h.ek e he).1, (h.ek e he).2.1, Nat.lt_of_lt_of_le (h.ek e he).2.2 hx.1⟩, h.bk⟩
theorem OwnGraph.ext {base k : Nat} {v v' : World} {s : Sl} {ys : List S_api_Node} {ms : List Nd} {ds es : List Nat} (h : OwnGraph base v s k ys ms ds es) (hx : Ext v v') : OwnGraph base v' s k ys ms ds es :=
  ⟨h.row.ext hx, h.ly, h.ld, h.le, fun i y m d e h1 h2 h3 h4 => by
    obtain ⟨a, b, c⟩ := h.nd i y m d e h1 h2 h3 h4
    exact ⟨a, b.ext hx, c.ext hx⟩, h.inc, fun d hd => ⟨(h.dk d hd).1, (h.dk d hd).2.1, Nat.lt_of_lt_of_le (h.dk d hd).2.2 hx.1⟩, fun e he => ⟨(h.ek e he).1, (h.ek e he).2.1, Nat.lt_of_lt_of_le (h.ek e he).2.2 hx.1⟩, h.bk⟩
theorem OwnGraph.snoc {base k k' d e : Nat} {v v' : World} {s s' : Sl} {ys : List S_api_Node} {ms : List Nd} {ds es : List Nat} {y : S_api_Node} {m : Nd} (h : OwnGraph base v s k ys ms ds es) (hx : XtB k v v') (hk : k' = k ∨ v.heap.size ≤ k')
    (hr : Own v' s' k' 43 10 ((ys ++ [y]).flatMap S_api_Node.cells)) (hy : y = m.hd y.Data y.Ents) (hd : Own v y.Data d 5 1 (m.data.flatMap u8)) (he : Own v y.Ents e 66 2 (m.ents.flatMap S_api_Ent.cells))
    (hdk : d ≠ k ∧ base ≤ d) (hek : e ≠ k ∧ base ≤ e) (hlt : ∀ d' ∈ ds, d' < d) : OwnGraph base v' s' k' (ys ++ [y]) (ms ++ [m]) (ds ++ [d]) (es ++ [e]) := by
  have hdlt := hd.lt
  have helt := he.lt
  have hsz := hx.1
  refine ⟨hr, by simp [h.ly], by simp [h.ld], by simp [h.le], fun i y1 m1 d1 e1 h1 h2 h3 h4 => ?_, ?_, ?_, ?_, ?_⟩
  · have hly := h.ly; have hld := h.ld; have hle := h.le
    rcases get_snoc h1 with h1 | ⟨h1, rfl⟩
    · have hi := some_lt h1
      rw [List.getElem?_append_left (by omega)] at h2 h3 h4
      obtain ⟨a, b, c⟩ := h.nd i y1 m1 d1 e1 h1 h2 h3 h4
      exact ⟨a, b.xtb hx (h.dk d1 (List.mem_of_getElem? h3)).1, c.xtb hx (h.ek e1 (List.mem_of_getElem? h4)).1⟩
    · rw [List.getElem?_append_right (by omega), show i - ms.length = 0 by omega] at h2
      rw [List.getElem?_append_right (by omega), show i - ds.length = 0 by omega] at h3
      rw [List.getElem?_append_right (by omega), show i - es.length = 0 by omega] at h4
      cases h2; cases h3; cases h4
      exact ⟨hy, hd.xtb hx hdk.1, he.xtb hx hek.1⟩
  · rw [List.pairwise_append]
    exact ⟨h.inc, List.pairwise_singleton _ _, fun a ha b hb => by rw [List.mem_singleton.1 hb]; exact hlt a ha⟩
  · intro d1 h1
    rcases List.mem_append.1 h1 with h1 | h1
    · have := h.dk d1 h1
      rcases hk with rfl | hk
      · exact ⟨this.1, this.2.1, by omega⟩
      · exact ⟨by omega, this.2.1, by omega⟩
    · rw [List.mem_singleton.1 h1]
      rcases hk with rfl | hk
      · exact ⟨hdk.1, hdk.2, by omega⟩
      · exact ⟨by omega, hdk.2, by omega⟩
  · intro d1 h1
    rcases List.mem_append.1 h1 with h1 | h1
    · have := h.ek d1 h1
      rcases hk with rfl | hk
      · exact ⟨this.1, this.2.1, by omega⟩
      · exact ⟨by omega, this.2.1, by omega⟩
    · rw [List.mem_singleton.1 h1]
      rcases hk with rfl | hk
      · exact ⟨hek.1, hek.2, by omega⟩
      · exact ⟨by omega, hek.2, by omega⟩
  · have := h.bk
    have := h.row.lt
    rcases hk with rfl | hk
    · exact h.bk
    · omega
theorem OwnGraph.low {base base' k : Nat} {v : World} {s : Sl} {ys : List S_api_Node} {ms : List Nd} {ds es : List Nat} (h : OwnGraph base v s k ys ms ds es) (hb : base' ≤ base) : OwnGraph base' v s k ys ms ds es :=
  ⟨h.row, h.ly, h.ld, h.le, h.nd, h.inc, fun d hd => ⟨(h.dk d hd).1, Nat.le_trans hb (h.dk d hd).2.1, (h.dk d hd).2.2⟩, fun d hd => ⟨(h.ek d hd).1, Nat.le_trans hb (h.ek d hd).2.1, (h.ek d hd).2.2⟩, Nat.le_trans hb h.bk⟩
theorem OwnGraph.graphX {base k : Nat} {v : World} {s : Sl} {ys : List S_api_Node} {ms : List Nd} {ds es : List Nat} (h : OwnGraph base v s k ys ms ds es) : GraphX v s ys ms :=
  ⟨h.row.row (fun _ => rfl) (by decide), h.ly, fun i x m hx hm => by
    have hi := some_lt hm
    obtain ⟨d, hd⟩ : ∃ d, ds[i]? = some d := ⟨_, List.getElem?_eq_getElem (by have := h.ld; omega)⟩
    obtain ⟨e, he⟩ : ∃ e, es[i]? = some e := ⟨_, List.getElem?_eq_getElem (by have := h.le; omega)⟩
    obtain ⟨a, b, c⟩ := h.nd i x m d e hx hm hd he
    exact ⟨a, b.row (fun _ => rfl) (by decide), c.row (fun _ => rfl) (by decide)⟩⟩
theorem one_nodes (xs : List S_api_Node) : ∀ v ∈ xs.flatMap S_api_Node.cells, v.oneCell' = true := by
  intro v hv
  obtain ⟨x, _, hx⟩ := List.mem_flatMap.1 hv
  exact S_api_Node.one x v hx
/-- a literal of one struct, read as an append's source -/
theorem src_lit {w : World} {e sz n : Nat} {cs : List Value} (hl : cs.length = n * sz) (hn : n < 9223372036854775808) : srcAt (w.alloc (.cells cs.toArray e)) (Sl.v ⟨some ⟨w.heap.size, 0, none⟩, n, n⟩) sz n cs := by
  refine ⟨rfl, hl, ?_, ?_⟩
  · intro h; cases h
  · intro b hb; cases hb; exact Blk.new.all
theorem size_al (w : World) (o : Obj) : (w.alloc o).heap.size = w.heap.size + 1 := by simp
/-- sizes that every append bears -/
structure Small (ms : List Nd) : Prop where
  len : ms.length ≤ 16777216
  data : ∀ m ∈ ms, m.data.length ≤ 16777216
  ents : ∀ m ∈ ms, m.ents.length ≤ 16777216
theorem C_CopyGraph {w : World} {g : S_api_Graph} {xs : List S_api_Node} {ms : List Nd} {K : S_api_Graph → World → Prop} (h : GraphX w g.Nodes xs ms) (hs : Small ms)
    (k : ∀ s w' b ys ds es, Ext w w' → OwnGraph w.heap.size w' s b ys ms ds es → K ⟨s⟩ w') : cl1 Try.prog 5 [S_api_Graph.v g] w S_api_Graph.v K := by
  refine T_valiseref00_CopyGraph g (al_i fun hB1 hE1 => al_i fun hB2 hE2 => al_i fun hB3 hE3 => ?_)
  have hO3 : Own (((w.alloc (.cells (S_api_Graph.cells g).toArray 24)).alloc (.cells #[.slice none 0 0] 24)).alloc (.cells ([] : List Value).toArray 43)) ⟨some ⟨((w.alloc (.cells (S_api_Graph.cells g).toArray 24)).alloc (.cells #[.slice none 0 0] 24)).heap.size, 0, none⟩, 0, 0⟩ _ 43 10 [] := Own.new
  replace hB1 := (hB1.ext hE2).ext hE3
  replace hB2 := hB2.ext hE3
  have hE := (hE1.trans hE2).trans hE3
  simp only [size_al] at hB2 hO3 ⊢
  refine ⟨fun s i v => ∃ j : Nat, i = j ∧ j ≤ ms.length ∧ Ext w v ∧ Blk v w.heap.size 24 (S_api_Graph.cells g) ∧ Blk v (w.heap.size + 1) 24 [.slice none 0 0] ∧ ∃ b ys ds es, w.heap.size + 2 ≤ b ∧ s.n = j ∧ OwnGraph (w.heap.size + 2) v s b ys (ms.take j) ds es,
    fun _ i _ => (ms.length - i).toNat, ⟨0, rfl, by omega, hE, hB1, hB2, w.heap.size + 1 + 1, [], [], [], by omega, rfl, ⟨hO3, rfl, rfl, rfl, fun i y m d e h => by simp at h, List.Pairwise.nil, fun d h => by simp at h, fun d h => by simp at h, by omega⟩⟩, ?_⟩
  rintro s i v ⟨j, rfl, hj, hE, hB1, hB2, b, ys, ds, es, hb, hsn, hO⟩
  have hn := h.row.n
  have hl := h.len
  have hlen := hs.len
  refine ldL_at hB1.all ⟨g.Nodes, rfl, fun hlt => ?_, fun hge => ?_⟩
  · have hjm : j < ms.length := by omega
    obtain ⟨x, hx⟩ : ∃ x, xs[j]? = some x := ⟨_, List.getElem?_eq_getElem (by omega)⟩
    obtain ⟨m, hm⟩ : ∃ m, ms[j]? = some m := ⟨_, List.getElem?_eq_getElem hjm⟩
    have hmm := List.mem_of_getElem? hm
    refine ldL_at hB1.all ⟨g.Nodes, rfl, (h.row.ext hE).ix hx fun c hc => ldT_all hc ?_⟩
    refine C_CopyNode ((h.at_ j x m hx hm).ext hE) (by have := hs.data m hmm; omega) (by have := hs.ents m hmm; omega) fun y v1 d e hE1 hd he hy hod hoe => al_i fun hB4 hE4 => ?_
    have hE14 := hE1.trans hE4
    have hO' := hO.ext hE14
    have hbv := hO.row.lt
    refine hO'.row.app (m := 1) (src_lit rfl (by decide)) rfl (S_api_Node.one y) rfl (by omega) (by omega) fun s' v' b' hb' hX ho' hn' => ?_
    have hbb : b' = b ∨ (v1.alloc (.cells (S_api_Node.cells y).toArray 43)).heap.size ≤ b' := hb'.imp And.left fun h => Nat.le_of_eq h.1
    refine ⟨⟨j + 1, by rw [w64_id (by omega) (by omega)]; rfl, by omega, (hE.trans hE14).xtb hX (by omega), (hB1.ext hE14).xtb hX (by omega), (hB2.ext hE14).xtb hX (by omega), b', ys ++ [y], ds ++ [d], es ++ [e], ?_, by omega, ?_⟩, by dsimp only; rw [w64_id (by omega) (by omega)]; omega⟩
    · rcases hbb with rfl | hbb
      · exact hb
      · have := hE14.1; omega
    · rw [take_snoc hm]
      have hv := hE.1
      refine hO'.snoc hX hbb (by rw [List.flatMap_append, List.flatMap_singleton]; exact ho') hy (hod.ext hE4) (hoe.ext hE4) ⟨by omega, by omega⟩ ⟨by omega, by omega⟩ fun d' hd' => by have := (hO.dk d' hd').2.2; omega
  · have : ms.take j = ms := List.take_of_length_le (by omega)
    rw [this] at hO
    refine st_i0 (cs' := S_api_Graph.cells ⟨s⟩) hB2 rfl rfl fun v' hB2 hX hz => ldT_all (x := (⟨s⟩ : S_api_Graph)) hB2.all ?_
    exact k s v' b ys ds es (hE.xtb hX (by omega)) ((hO.xtb hX (by omega) (fun hm => by have := (hO.dk _ hm); omega) (fun hm => by have := (hO.ek _ hm); omega)).low (by omega))
end Go.Proofs.Ytmmkhlalhalomaa
