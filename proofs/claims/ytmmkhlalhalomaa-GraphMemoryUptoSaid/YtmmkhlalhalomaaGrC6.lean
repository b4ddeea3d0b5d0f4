import Derived.Test.YtmmkhlalhalomaaGrM0
set_option linter.unusedVariables false
set_option linter.unusedSimpArgs false
set_option maxRecDepth 100000
namespace Go.Proofs.Ytmmkhlalhalomaa
open Go Go.Low
/-- texts whose lengths can be counted -/
structure Fair (ms : List Nd) : Prop where
  target : ∀ m ∈ ms, m.target.size < 4611686018427387904
  name : ∀ m ∈ ms, ∀ e ∈ m.ents, e.Name.size < 4611686018427387904
def encv : Option Nat → Int
  | some j => j
  | none => -1
def enc (p : Par) (n : Nat) : List Int := (List.range n).map fun k => encv (p k)
theorem enc_len (p : Par) (n : Nat) : (enc p n).length = n := by simp [enc]
theorem enc_get {p : Par} {n k : Nat} (h : k < n) : (enc p n)[k]? = some (encv (p k)) := by simp [enc, h]
theorem enc_set {p : Par} {n k i : Nat} : (enc p n).set k (i : Int) = enc (fun x => if x = k then some i else p x) n := by
  apply List.ext_getElem?
  intro j
  by_cases hj : j < n
  · by_cases e : j = k
    · subst e
      rw [enc_get hj, List.getElem?_set_self (by rw [enc_len]; exact hj)]
      simp [encv]
    · rw [List.getElem?_set_ne (Ne.symm e), enc_get hj, enc_get hj]
      simp [e]
  · rw [List.getElem?_eq_none (by rw [List.length_set, enc_len]; omega), List.getElem?_eq_none (by rw [enc_len]; omega)]
theorem set_i64 (xs : List Int) (j : Nat) (y : Int) : (xs.flatMap i64c).set j (.int .i64 y) = (xs.set j y).flatMap i64c := by
  rw [flat_i64, flat_i64, List.map_set]
theorem len_i64 (xs : List Int) : (xs.flatMap i64c).length = xs.length := by rw [flat_i64, List.length_map]
theorem get_i64 {xs : List Int} {j : Nat} {y : Int} (h : xs[j]? = some y) : (xs.flatMap i64c)[j]? = some (.int .i64 y) := by rw [flat_i64, List.getElem?_map, h]; rfl
theorem entSum_le {ms : List Nd} (h : ∀ m ∈ ms, m.ents.length ≤ 16777216) : entSum ms ≤ ms.length * 16777216 := by
  induction ms with
  | nil => simp [entSum]
  | cons m r ih =>
    have h1 := h m (by simp)
    have h2 := ih fun x hx => h x (by simp [hx])
    simp only [entSum, List.map_cons, List.sum_cons, List.length_cons] at h2 ⊢
    omega
theorem OkNodes.snoc {ms : List Nd} {m : Nd} (h : OkNodes ms) (h1 : okNd m = true ∧ 1 ≤ m.id ∧ m.id ≤ 1099511627776) (h2 : ∀ i m', ms.length = i + 1 → ms[i]? = some m' → m'.id < m.id) : OkNodes (ms ++ [m]) := by
  refine ⟨fun i m' hm' => ?_, fun i m1 m2 h3 h4 => ?_⟩
  · rcases get_snoc hm' with hm' | ⟨_, rfl⟩
    · exact h.ok i m' hm'
    · exact h1
  · rcases get_snoc h4 with h4 | ⟨hi, rfl⟩
    · have := some_lt h4
      rw [List.getElem?_append_left (by omega)] at h3
      exact h.step i _ _ h3 h4
    · rw [List.getElem?_append_left (by omega)] at h3
      exact h2 i m1 hi.symm h3
def tab (f : Nat → Int) (n : Nat) : List Int := (List.range n).map f
theorem tab_len (f : Nat → Int) (n : Nat) : (tab f n).length = n := by simp [tab]
theorem tab_get {f : Nat → Int} {n k : Nat} (h : k < n) : (tab f n)[k]? = some (f k) := by simp [tab, h]
theorem tab_ext {f g : Nat → Int} {n : Nat} (h : ∀ k, k < n → f k = g k) : tab f n = tab g n := List.map_congr_left fun k hk => h k (List.mem_range.1 hk)
theorem tab_set {f : Nat → Int} {n j : Nat} {y : Int} : (tab f n).set j y = tab (fun k => if k = j then y else f k) n := by
  apply List.ext_getElem?
  intro k
  by_cases hk : k < n
  · by_cases e : k = j
    · subst e
      rw [tab_get hk, List.getElem?_set_self (by rw [tab_len]; exact hk)]
      simp
    · rw [List.getElem?_set_ne (Ne.symm e), tab_get hk, tab_get hk]
      simp [e]
  · rw [List.getElem?_eq_none (by rw [List.length_set, tab_len]; omega), List.getElem?_eq_none (by rw [tab_len]; omega)]
theorem ixS' {w : World} {s : Sl} {k e j m : Nat} {cs : List Value} {K : Addr → Prop} (hm : s.n = m) (h : Own w s k e 1 cs) (hj : j < cs.length) (kk : K ⟨k, j, none⟩) : ix s.p m 1 (j : Int) K := hm ▸ h.ixS hj kk
theorem good_pos {s : ByteArray} (h : good s = true) : (slt s ⟨#[]⟩ || decide (s = ⟨#[]⟩)) = false := by
  have hs : 1 ≤ s.size := by
    simp only [good, Bool.and_eq_true, decide_eq_true_eq] at h
    exact h.2.1.1
  rw [Bool.or_eq_false_iff]
  constructor
  · simp only [slt]
    cases hd : s.data.toList with
    | nil => rfl
    | cons c r => rfl
  · exact decide_eq_false fun e => by rw [e] at hs; exact absurd hs (by decide)
theorem C_Check {w : World} {g : S_api_Graph} {xs : List S_api_Node} {ms : List Nd} {K : Int → World → Prop} (h : GraphX w g.Nodes xs ms) (hs : Small ms) (hf : Fair ms)
    (k0 : ∀ w', Ext w w' → OkGraph ms → K 0 w') (k1 : ∀ w', Ext w w' → ¬ OkGraph ms → K 140 w') : cl1 Try.prog 31 [S_api_Graph.v g] w (Value.int .i64) K := by
  have hn := h.n
  refine T_valiseref14_Check g (al_i fun hB hE => ldL_at hB.all ⟨g.Nodes, rfl, fun h1 => k1 _ hE (fun ho => by have := ho.len; omega), fun h1 => ?_⟩)
  refine ⟨fun _ s4 s5 v => ∃ j : Nat, s5 = j ∧ j ≤ ms.length ∧ s4 = entSum (ms.take j) ∧ Ext w v ∧ Blk v w.heap.size 24 (S_api_Graph.cells g) ∧ OkNodes (ms.take j), fun _ _ s5 _ => (ms.length - s5).toNat,
    ⟨0, rfl, by omega, rfl, hE, hB, ⟨fun i m hm => by simp at hm, fun i m m' hm => by simp at hm⟩⟩, ?_⟩
  rintro _ s4 s5 v ⟨j, rfl, hj, rfl, hE, hB, hok⟩
  refine ldL_at hB.all ⟨g.Nodes, rfl, fun hlt => ldL_at hB.all ⟨g.Nodes, rfl, ?_⟩, fun hge => ?_⟩
  · obtain ⟨x, m, hx, hm, hxm⟩ := h.node (j := j) (by omega)
    have hid := hxm.id
    have hmm := List.mem_of_getElem? hm
    have bad : ∀ {v'}, Ext w v' → ¬ (okNd m = true ∧ (1 ≤ m.id ∧ m.id ≤ 1099511627776) ∧ ∀ i m', j = i + 1 → ms[i]? = some m' → m'.id < m.id) → K 140 v' := fun hE hn => k1 _ hE fun ho =>
      hn ⟨(ho.nodes.ok j m hm).1, (ho.nodes.ok j m hm).2, fun i m' hi hm' => ho.nodes.step i m' m hm' (hi ▸ hm)⟩
    refine (h.ext hE).row.ix hx fun c hc => ldT_all hc (al_i fun hB2 hE2 => ?_)
    refine ⟨fun v' => Ext v v' ∧ Blk v' v.heap.size 43 (S_api_Node.cells x) ∧ (okNd m = true ∧ (1 ≤ m.id ∧ m.id ≤ 1099511627776) ∧ ∀ i m', j = i + 1 → ms[i]? = some m' → m'.id < m.id), ?_, dr_i ?_⟩
    · rintro v' ⟨hE', hB2', hP⟩
      have hsum : entSum (ms.take (j + 1)) = entSum (ms.take j) + x.Ents.n := by rw [take_snoc hm, entSum_snoc, hxm.ents.n]
      have hle := entSum_le (ms := ms.take (j + 1)) fun y hy => hs.ents y (List.mem_of_mem_take hy)
      rw [List.length_take] at hle
      have hmin : min (j + 1) ms.length ≤ 4096 := by omega
      have hle2 : entSum (ms.take (j + 1)) ≤ 4096 * 16777216 := Nat.le_trans hle (Nat.mul_le_mul_right _ hmin)
      refine ldL_at hB2'.all ⟨x.Ents, rfl, ⟨⟨j + 1, by rw [w64_id (by omega) (by omega)]; rfl, by omega, by rw [w64_id (by omega) (by omega), hsum]; rfl, hE.trans hE', hB.ext hE', ?_⟩, by dsimp only; rw [w64_id (x := (j : Int) + 1) (by omega) (by omega)]; omega⟩⟩
      rw [take_snoc hm]
      refine hok.snoc ⟨hP.1, hP.2.1⟩ fun i m' hi hm' => ?_
      rw [List.length_take] at hi
      have hij : j = i + 1 := by omega
      rw [List.getElem?_take_of_lt (by omega)] at hm'
      exact hP.2.2 i m' hij hm'
    · have hE2' : Ext v (v.alloc (.cells (S_api_Node.cells x).toArray 43)).drew := hE2.drew
      have hB2' : Blk (v.alloc (.cells (S_api_Node.cells x).toArray 43)).drew v.heap.size 43 (S_api_Node.cells x) := hB2
      have hB' := hB.ext hE2'
      generalize (v.alloc (.cells (S_api_Node.cells x).toArray 43)).drew = v2 at hE2' hB2' hB' ⊢
      have hE3 := hE.trans hE2'
      have fin : (∀ i m', j = i + 1 → ms[i]? = some m' → m'.id < m.id) → (1 ≤ m.id ∧ m.id ≤ 1099511627776) → cl1 Try.prog 39 [S_api_Node.v x] v2 Value.bool fun y w => ((!y) = true → K 140 w) ∧ ((!y) = false → (fun v' => Ext v v' ∧ Blk v' v.heap.size 43 (S_api_Node.cells x) ∧ (okNd m = true ∧ (1 ≤ m.id ∧ m.id ≤ 1099511627776) ∧ ∀ i m', j = i + 1 → ms[i]? = some m' → m'.id < m.id)) w) := fun h3 h4 => by
        refine C_plain (by have := hf.target m hmm; have : x.Target = m.target := (by rw [hxm.hd]; rfl); rw [this]; omega) fun v3 hE4 => ⟨fun h5 => bad (hE3.trans hE4) fun hP => ?_, fun h5 => ⟨hE2'.trans hE4, hB2'.ext hE4, ?_, h4, h3⟩⟩
        · rw [hxm.ok, hP.1] at h5; cases h5
        · rw [hxm.ok] at h5; simpa using h5
      refine ldN_at hB2'.all ⟨x.Id, rfl, fun h2 => bad hE3 (by omega), fun h2 => ldN_at hB2'.all ⟨x.Id, rfl, fun h3 => bad hE3 (by omega), fun h3 => ⟨fun h4 => ?_, fun h4 => ?_⟩⟩⟩
      · refine ldN_at hB2'.all ⟨x.Id, rfl, ldL_at hB'.all ⟨g.Nodes, rfl, ?_⟩⟩
        obtain ⟨i, rfl⟩ : ∃ i, j = i + 1 := ⟨j - 1, by omega⟩
        obtain ⟨x', m', hx', hm', hxm'⟩ := h.node (j := i) (by omega)
        have hid' := hxm'.id
        rw [show w64 (((i + 1 : Nat) : Int) - 1) = (i : Int) by rw [w64_id (by omega) (by omega)]; omega]
        refine (h.ext hE3).row.ix hx' fun c' hc' => ldN_at hc' ⟨x'.Id, rfl, fun h5 => bad hE3 fun hP => ?_, fun h5 => ldT_all hB2'.all (fin (fun i1 m1 hi1 hm1 => ?_) (by omega))⟩
        · have := hP.2.2 i m' rfl hm'; omega
        · have : i1 = i := by omega
          subst this
          rw [hm'] at hm1; cases hm1; omega
      · exact ldT_all hB2'.all (fin (fun i1 m1 hi1 hm1 => by omega) (by omega))
  · have htk : ms.take j = ms := List.take_of_length_le (by omega)
    rw [htk] at hok
    rw [htk]
    refine ⟨fun h2 => k1 _ hE fun ho => by have := ho.sum; omega, fun h2 => ldL_at hB.all ⟨g.Nodes, rfl, ?_⟩⟩
    rw [hn]
    refine ⟨by omega, by omega, by omega, ?_⟩
    have hO : Own (v.alloc (.cells (madeCells #[.int .i64 0] (((ms.length : Nat) : Int).toNat * 1)) 3)) ⟨some ⟨v.heap.size, 0, none⟩, ((ms.length : Nat) : Int).toNat, ((ms.length : Nat) : Int).toNat⟩ v.heap.size 3 1 ((List.replicate ((ms.length : Nat) : Int).toNat (0 : Int)).flatMap i64c) := Own.made (made_i64 _) (by omega)
    have hE2 : Ext v (v.alloc (.cells (madeCells #[.int .i64 0] (((ms.length : Nat) : Int).toNat * 1)) 3)) := (Ext.refl v).alloc _
    have hE' := hE.trans hE2
    have hkb : w.heap.size + 1 ≤ v.heap.size := hB.lt
    replace hB := hB.ext hE2
    generalize v.alloc (.cells (madeCells #[.int .i64 0] (((ms.length : Nat) : Int).toNat * 1)) 3) = v2 at hO hE' hB ⊢
    rw [Int.toNat_natCast] at hO ⊢
    generalize (⟨some ⟨v.heap.size, 0, none⟩, ms.length, ms.length⟩ : Sl) = r at hO ⊢
    generalize hkk : v.heap.size = kb at hO hkb
    clear hE2 hE htk
    have hrn : r.n = ms.length := by have := hO.n; rw [len_i64, List.length_replicate] at this; omega
    have hO : Own v2 r kb 3 1 ((tab (fun _ => 0) ms.length).flatMap i64c) := by
      rwa [show List.replicate ms.length (0 : Int) = tab (fun _ => 0) ms.length by rw [tab, List.map_const', List.length_range]] at hO
    refine ⟨fun i v => ∃ j : Nat, i = j ∧ j ≤ ms.length ∧ Ext w v ∧ Blk v w.heap.size 24 (S_api_Graph.cells g) ∧ Own v r kb 3 1 ((tab (fun k => if k < j then -1 else 0) ms.length).flatMap i64c), fun i _ => (ms.length - i).toNat,
      ⟨0, rfl, by omega, hE', hB, by rwa [tab_ext (g := fun _ => 0) fun k _ => if_neg (by omega)]⟩, ?_⟩
    rintro i v3 ⟨j3, rfl, hj3, hE, hB, hO⟩
    rw [hrn]
    refine ⟨fun hlt => ?_, fun hge => ?_⟩
    · have hl : j3 < ((tab (fun k => if k < j3 then -1 else 0) ms.length).flatMap i64c).length := by rw [len_i64, tab_len]; omega
      refine ixS' hrn hO hl (hO.stS (v := .int .i64 (-1)) hl fun v4 hO4 hX hz => ⟨⟨j3 + 1, by rw [w64_id (by omega) (by omega)]; rfl, by omega, hE.xtb hX (by omega), hB.xtb hX (by omega), ?_⟩, by dsimp only; rw [w64_id (by omega) (by omega)]; omega⟩)
      rw [set_i64, tab_set] at hO4
      have e4 : tab (fun k => if k = j3 then -1 else if k < j3 then -1 else 0) ms.length = tab (fun k => if k < j3 + 1 then -1 else 0) ms.length := tab_ext fun k _ => by
        by_cases e : k = j3
        · subst e; simp
        · by_cases h3 : k < j3
          · simp [e, h3, Nat.lt_succ_of_lt h3]
          · simp only [if_neg e, if_neg h3, if_neg (show ¬ k < j3 + 1 by omega)]
      rw [e4] at hO4
      exact hO4
    have hO : Own v3 r kb 3 1 ((tab (fun k => encv ((fun _ => none : Par) k)) ms.length).flatMap i64c) := by
      rwa [tab_ext (g := fun _ => -1) fun k hk => if_pos (by omega)] at hO
    have hj3' : j3 = ms.length := by omega
    clear hge hj3 hj3'
    -- the entries
    have hlt0 : ∀ k j : Nat, (fun _ => none : Par) k = some j → j < ms.length := fun k j h => by cases h
    refine ⟨fun _ i v => ∃ (j : Nat) (p : Par), i = j ∧ j ≤ ms.length ∧ Ext w v ∧ Blk v w.heap.size 24 (S_api_Graph.cells g) ∧ Own v r kb 3 1 ((tab (fun k => encv (p k)) ms.length).flatMap i64c) ∧ (∀ k j, p k = some j → j < ms.length) ∧ nodesGo ms (ms.drop j) j p = nodesGo ms ms 0 (fun _ => none), fun _ i _ => (ms.length - i).toNat,
      ⟨0, fun _ => none, rfl, by omega, hE, hB, hO, hlt0, rfl⟩, ?_⟩
    rintro _ i v4 ⟨j, p, rfl, hj, hE, hB, hO, hlp, hgo⟩
    refine ldL_at hB.all ⟨g.Nodes, rfl, fun hlt => ?_, fun hge => ?_⟩
    · obtain ⟨x, m, hx, hm, hxm⟩ := h.node (j := j) (by omega)
      have hmm := List.mem_of_getElem? hm
      have hjm := some_lt hm
      have hents := hs.ents m hmm
      have hdrop : ms.drop j = m :: ms.drop (j + 1) := by
        rw [List.drop_eq_getElem_cons hjm]
        congr 1
        rw [List.getElem?_eq_getElem hjm] at hm
        exact Option.some.inj hm
      rw [hdrop, nodesGo] at hgo
      refine ⟨fun _ i v => ∃ (l : Nat) (p : Par), i = l ∧ l ≤ m.ents.length ∧ Ext w v ∧ Blk v w.heap.size 24 (S_api_Graph.cells g) ∧ Own v r kb 3 1 ((tab (fun k => encv (p k)) ms.length).flatMap i64c) ∧ (∀ k j, p k = some j → j < ms.length) ∧
          (entsGo ms j (m.ents.drop l) (match l with | 0 => ⟨#[]⟩ | q + 1 => (m.ents[q]?.map S_api_Ent.Name).getD ⟨#[]⟩) p).bind (nodesGo ms (ms.drop (j + 1)) (j + 1)) = nodesGo ms ms 0 (fun _ => none), fun _ i _ => (m.ents.length - i).toNat,
        ⟨0, p, rfl, by omega, hE, hB, hO, hlp, hgo⟩, ?_⟩
      rintro _ i v5 ⟨l, p, rfl, hl, hE, hB, hO, hlp, hgo⟩
      refine ldL_at hB.all ⟨g.Nodes, rfl, (h.ext hE).row.ix hx fun c hc => ldL_at hc ⟨x.Ents, rfl, fun hlt2 => ?_, fun hge2 => ?_⟩⟩
      · have hl2 : l < m.ents.length := by have := hxm.ents.n; omega
        obtain ⟨e, he⟩ : ∃ e, m.ents[l]? = some e := ⟨_, List.getElem?_eq_getElem hl2⟩
        have hem := List.mem_of_getElem? he
        have hdrop2 : m.ents.drop l = e :: m.ents.drop (l + 1) := by
          rw [List.drop_eq_getElem_cons hl2]
          congr 1
          rw [List.getElem?_eq_getElem hl2] at he
          exact Option.some.inj he
        rw [hdrop2, entsGo] at hgo
        generalize hnm : (match l with | 0 => (⟨#[]⟩ : ByteArray) | q + 1 => (m.ents[q]?.map S_api_Ent.Name).getD ⟨#[]⟩) = nm at hgo
        have failN : ∀ {v'}, Ext w v' → nodesGo ms ms 0 (fun _ => none) = none → K 140 v' := fun hE hn => k1 _ hE fun ho => by
          obtain ⟨p', hp', _⟩ := ho.par
          rw [hn] at hp'
          cases hp'
        refine ⟨fun v' => ∃ p' : Par, Ext w v' ∧ Blk v' w.heap.size 24 (S_api_Graph.cells g) ∧ Own v' r kb 3 1 ((tab (fun k => encv (p' k)) ms.length).flatMap i64c) ∧ (∀ k j, p' k = some j → j < ms.length) ∧ (entsGo ms j (m.ents.drop (l + 1)) e.Name p').bind (nodesGo ms (ms.drop (j + 1)) (j + 1)) = nodesGo ms ms 0 (fun _ => none), ?_, ?_⟩
        · rintro v' ⟨p', hE, hB, hO, hlp, hgo⟩
          refine ⟨⟨l + 1, p', by rw [w64_id (by omega) (by omega)]; rfl, by omega, hE, hB, hO, hlp, ?_⟩, by dsimp only; rw [w64_id (by omega) (by omega)]; omega⟩
          show (entsGo ms j (m.ents.drop (l + 1)) ((m.ents[l]?.map S_api_Ent.Name).getD ⟨#[]⟩) p').bind _ = _
          rw [he]
          exact hgo
        · refine ldL_at hB.all ⟨g.Nodes, rfl, (h.ext hE).row.ix hx fun c hc => ldL_at hc ⟨x.Ents, rfl, (hxm.ents.ext hE).ix he fun c2 hc2 => ldT_all hc2 (al_i fun hB5 hE5 => ?_)⟩⟩
          have hkb5 := hO.lt
          replace hB := hB.ext hE5
          replace hO := hO.ext hE5
          replace hE := hE.trans hE5
          refine ldT_all (x := g) hB.all (ldN_at hB5.all ⟨e.Id, rfl, C_At (h.ext hE) hok.rising (by omega) fun v6 hE6 => ?_⟩)
          replace hB := hB.ext hE6
          replace hO := hO.ext hE6
          replace hE := hE.trans hE6
          replace hB5 := hB5.ext hE6
          have hkb6 : kb ≠ v5.heap.size := by omega
          refine ⟨fun v' => Ext w v' ∧ Blk v' w.heap.size 24 (S_api_Graph.cells g) ∧ Own v' r kb 3 1 ((tab (fun k => encv (p k)) ms.length).flatMap i64c) ∧ (∃ kk, pos ms e.Id = some kk) ∧ (good e.Name && !(slt e.Name nm || decide (e.Name = nm))) = true, ?_, dr2_i ⟨fun hneg => failN hE.drew ?_, fun hpos => ?_⟩⟩
          · rintro v' ⟨hE, hB, hO, ⟨kk, hkk2⟩, hcond⟩
            obtain ⟨mk, hmk, hmid⟩ := pos_get hkk2
            obtain ⟨xk, mk', hxk, hmk', hxmk⟩ := h.node (j := kk) (some_lt hmk)
            rw [hmk] at hmk'
            cases hmk'
            have hkl := some_lt hmk
            have hy : posI ms e.Id = (kk : Int) := by rw [posI, hkk2]
            rw [hkk2] at hgo
            simp only [hcond, if_true, hmk, Option.map_some, Option.some.injEq] at hgo
            rw [hy]
            have hlk : kk < ((tab (fun k => encv (p k)) ms.length).flatMap i64c).length := by rw [len_i64, tab_len]; exact hkl
            refine ldL_at hB.all ⟨g.Nodes, rfl, (h.ext hE).row.ix hxk fun c hc => ldN_at hc ⟨xk.Kind, rfl, fun h2 => ?_, fun h2 => ?_⟩⟩
            · rw [hxmk.kind] at h2
              rw [if_pos h2] at hgo
              refine ixS' hrn hO hlk ⟨_, hO.cellS (get_i64 (tab_get hkl)), fun h3 => failN hE ?_, fun h3 => ?_⟩
              · rw [if_pos (by cases hpk : p kk with
                  | none => rw [hpk] at h3; exact absurd h3 (by decide)
                  | some _ => rfl)] at hgo
                exact hgo.symm
              · have hpk : p kk = none := by
                  cases hpk : p kk with
                  | none => rfl
                  | some z => rw [hpk] at h3; exact absurd (show (0 : Int) ≤ encv (some z) from by simp only [encv]; omega) h3
                rw [hpk] at hgo
                refine ixS' hrn hO hlk (hO.stS (v := .int .i64 (j : Int)) hlk fun v7 hO7 hX hz => ⟨fun x => if x = kk then some j else p x, hE.xtb hX (by omega), hB.xtb hX (by omega), ?_, fun k j' hk => ?_, hgo⟩)
                · rw [set_i64, tab_set] at hO7
                  have e4 : tab (fun k => if k = kk then (j : Int) else encv (p k)) ms.length = tab (fun k => encv (if k = kk then some j else p k)) ms.length := tab_ext fun k _ => by
                    by_cases e : k = kk
                    · rw [if_pos e, if_pos e]; rfl
                    · rw [if_neg e, if_neg e]
                  rw [e4] at hO7
                  exact hO7
                · dsimp only at hk
                  split at hk
                  · cases hk; exact hjm
                  · exact hlp k j' hk
            · rw [hxmk.kind] at h2
              rw [if_neg h2] at hgo
              exact ⟨p, hE, hB, hO, hlp, hgo⟩
          · have : pos ms e.Id = none := by
              cases hp : pos ms e.Id with
              | none => rfl
              | some kk => rw [posI, hp] at hneg; exact absurd hneg (by simp only; omega)
            rw [this] at hgo
            exact hgo.symm
          · obtain ⟨kk, hkk2⟩ : ∃ kk, pos ms e.Id = some kk := by
              cases hp : pos ms e.Id with
              | none => rw [posI, hp] at hpos; exact absurd (by decide) hpos
              | some kk => exact ⟨kk, rfl⟩
            have hEd : Ext w v6.drew := hE.drew
            have hBd : Blk v6.drew w.heap.size 24 (S_api_Graph.cells g) := hB
            have hOd : Own v6.drew r kb 3 1 ((tab (fun k => encv (p k)) ms.length).flatMap i64c) := hO.ext (Ext.refl v6).drew
            have hB5d : Blk v6.drew v5.heap.size 66 (S_api_Ent.cells e) := hB5
            generalize v6.drew = v7 at hEd hBd hOd hB5d ⊢
            refine ldS_at hB5d.all ⟨e.Name, rfl, C_refGood (by have := hf.name m hmm e hem; omega) ⟨Ext.refl _, fun hg => failN hEd ?_, fun hg => ⟨fun hl0 => ?_, fun hl0 => ?_⟩⟩⟩
            · rw [hkk2] at hgo
              simp only [Bool.not_eq_true'] at hg
              simp only [hg, Bool.false_and, Bool.false_eq_true, if_false] at hgo
              exact hgo.symm
            · simp only [Bool.not_eq_false'] at hg
              obtain ⟨q, rfl⟩ : ∃ q, l = q + 1 := ⟨l - 1, by omega⟩
              obtain ⟨eq, heq⟩ : ∃ e, m.ents[q]? = some e := ⟨_, List.getElem?_eq_getElem (by omega)⟩
              have hnm2 : nm = eq.Name := by rw [← hnm]; show (m.ents[q]?.map S_api_Ent.Name).getD ⟨#[]⟩ = _; rw [heq]; rfl
              rw [show w64 (((q + 1 : Nat) : Int) - 1) = (q : Int) by rw [w64_id (by omega) (by omega)]; omega]
              refine ldS_at hB5d.all ⟨e.Name, rfl, ldL_at hBd.all ⟨g.Nodes, rfl, (h.ext hEd).row.ix hx fun c hc => ldL_at hc ⟨x.Ents, rfl, (hxm.ents.ext hEd).ix heq fun c2 hc2 => ldS_at hc2 ⟨eq.Name, rfl, fun hbad => failN hEd ?_, fun hfine => ⟨hEd, hBd, hOd, ⟨kk, hkk2⟩, ?_⟩⟩⟩⟩⟩
              · rw [hkk2] at hgo
                rw [← hnm2] at hbad
                simp only [hg, hbad, Bool.not_true, Bool.and_false, Bool.false_eq_true, if_false] at hgo
                exact hgo.symm
              · rw [← hnm2] at hfine
                rw [hg, hfine]; rfl
            · simp only [Bool.not_eq_false'] at hg
              have : l = 0 := by omega
              subst this
              have hnm2 : nm = ⟨#[]⟩ := hnm.symm
              exact ⟨hEd, hBd, hOd, ⟨kk, hkk2⟩, by rw [hg, hnm2, good_pos hg]; rfl⟩
      · have hen := hxm.ents.n
        rw [List.drop_eq_nil_of_le (by omega)] at hgo
        exact ⟨⟨j + 1, p, by rw [w64_id (by omega) (by omega)]; rfl, by omega, hE, hB, hO, hlp, hgo⟩, by dsimp only; rw [w64_id (by omega) (by omega)]; omega⟩
    · rw [List.drop_eq_nil_of_le (by omega)] at hgo
      have hgo' : nodesGo ms ms 0 (fun _ => none) = some p := hgo.symm
      clear hge
      have fail : ∀ i, i < ms.length → ¬ Ends p i → K 140 v4 := fun i hi hne => k1 _ hE fun ho => by
        obtain ⟨p', hp', he⟩ := ho.par
        rw [hgo'] at hp'
        cases hp'
        exact hne (he i hi)
      have hget : ∀ {k : Nat}, k < ms.length → v4.cell? ⟨kb, k, none⟩ = some (.int .i64 (encv (p k))) := fun hk => hO.cellS (get_i64 (tab_get hk))
      have hl : ∀ {k : Nat}, k < ms.length → k < ((tab (fun k => encv (p k)) ms.length).flatMap i64c).length := fun hk => by rw [len_i64, tab_len]; exact hk
      refine ⟨fun _ i v => v = v4 ∧ ∃ j : Nat, i = j ∧ j ≤ ms.length ∧ ∀ k, k < j → Ends p k, fun _ i _ => (ms.length - i).toNat, ⟨rfl, 0, rfl, by omega, fun k hk => absurd hk (by omega)⟩, ?_⟩
      rintro _ i v ⟨rfl, j, rfl, hj, hen⟩
      refine ⟨fun hlt => ?_, fun hge => k0 _ hE ⟨by omega, hok, by omega, p, hgo', fun i hi => hen i (by omega)⟩⟩
      refine ixS' hrn hO (hl (by omega)) ⟨_, hget (by omega), ?_⟩
      refine ⟨fun _ a st v' => v' = v ∧ ∃ t : Nat, st = t ∧ t ≤ ms.length + 1 ∧ a = encv (it p (t + 1) j), fun _ _ st _ => (ms.length + 2 - st).toNat, ⟨rfl, 0, rfl, by omega, by rw [it_succ]; rfl⟩, ?_⟩
      rintro _ a st v' ⟨rfl, t, rfl, ht, rfl⟩
      cases hat : it p (t + 1) j with
      | none =>
        refine ⟨fun h => absurd h (by decide), fun _ => ⟨⟨rfl, j + 1, by rw [w64_id (by omega) (by omega)]; rfl, by omega, fun k hk => ?_⟩, by dsimp only; rw [w64_id (by omega) (by omega)]; omega⟩⟩
        by_cases e : k = j
        · subst e; exact ⟨_, hat⟩
        · exact hen k (by omega)
      | some at' =>
        have hlt' : at' < ms.length := by
          rw [it_succ] at hat
          cases hq : it p t j with
          | none => rw [hq] at hat; cases hat
          | some z => rw [hq] at hat; exact hlp z at' hat
        refine ⟨fun _ => ⟨fun e => fail j (by omega) ?_, fun hne => ⟨fun hbig => fail j (by omega) ?_, fun hsm => ?_⟩⟩, fun h => absurd (show (0 : Int) ≤ encv (some at') from by simp only [encv]; omega) h⟩
        · simp only [encv] at e
          have : at' = j := by omega
          subst this
          exact cycle_not (by omega) hat
        · intro hen'
          have := it_none (hen'.within hlp (by omega)) (show ms.length ≤ t + 1 by omega)
          rw [hat] at this
          cases this
        · refine ixS' (j := at') hrn hO (hl hlt') ⟨_, hget hlt', ⟨rfl, t + 1, by rw [w64_id (by omega) (by omega)]; rfl, by omega, ?_⟩, by dsimp only; rw [w64_id (by omega) (by omega)]; omega⟩
          rw [it_succ, hat]; rfl
end Go.Proofs.Ytmmkhlalhalomaa
