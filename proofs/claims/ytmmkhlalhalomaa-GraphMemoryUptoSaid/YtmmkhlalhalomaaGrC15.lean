import Derived.Test.YtmmkhlalhalomaaGrC14
set_option linter.unusedVariables false
set_option linter.unusedSimpArgs false
set_option maxRecDepth 100000
namespace Go.Proofs.Ytmmkhlalhalomaa
open Go Go.Low
theorem fst_set {σ : TS} {k : Nat} {m : Nd} {path : ByteArray} (h : σ.fst k = E0) : (σ.next k m path).fst = fun x => if x = k then path else σ.fst x := by
  rw [next_fst, if_pos h]
theorem fst_old {σ : TS} {k : Nat} {m : Nd} {path : ByteArray} (h : σ.fst k ≠ E0) : (σ.next k m path).fst = σ.fst := by
  rw [next_fst, if_neg h]
theorem kids_len {ms : List Nd} {top : Bool} {path : ByteArray} {es : List S_api_Ent} : (kids ms top path es).length = es.length := by simp [kids]
theorem kids_drop {ms : List Nd} {top : Bool} {path : ByteArray} {es : List S_api_Ent} {j : Nat} {e : S_api_Ent} (h : es[j]? = some e) : (kids ms top path es).drop j = kid ms top path e :: (kids ms top path es).drop (j + 1) := by
  have hj : j < (kids ms top path es).length := by rw [kids_len]; exact some_lt h
  rw [List.drop_eq_getElem_cons hj]
  congr 1
  have : (kids ms top path es)[j]? = some (kid ms top path e) := by simp [kids, h]
  rw [List.getElem?_eq_getElem hj] at this
  exact Option.some.inj this
set_option maxHeartbeats 1000000 in
theorem C_refTree {w : World} {g : S_api_Graph} {xs : List S_api_Node} {ms : List Nd} {root : Int} {K : Sl → Int → World → Prop} (h : GraphX w g.Nodes xs ms) (hs : Small ms) (hf : Fair ms)
    (k0 : ∀ e w', Ext w w' → TreeR ms root none e → K ⟨none, 0, 0⟩ e w')
    (k1 : ∀ ls s w' ko ys Ds, Ext w w' → TreeR ms root (some ls) 0 → OwnL w.heap.size w' s ko ys ls Ds → ls.length ≤ 4194304 → K s 0 w') :
    cl2 Try.prog 7 [S_api_Graph.v g, .int .i64 root] w Sl.v (Value.int .i64) K := by
  refine T_valiseref14_Tree g root (al_i fun hB hE => ldT_all (x := g) hB.all (C_refBegin (h.ext hE) hs hf fun oo e w1 hE1 hbeg => ⟨fun he => ?_, fun he => ?_⟩))
  rotate_left
  · cases hbeg with
    | fine ho hp hm hd => exact absurd rfl he
    | graph ho => exact k0 _ _ (hE.trans hE1) (.bad (.graph ho))
    | node ho hp => exact k0 _ _ (hE.trans hE1) (.bad (.node ho hp))
    | dir ho hp hm hd => exact k0 _ _ (hE.trans hE1) (.bad (.dir ho hp hm hd))
  cases hbeg with
  | graph ho => cases he
  | node ho hp => cases he
  | dir ho hp hm hd => cases he
  | @fine ho k0' m0 hp hm0 hd0 =>
  have hbeg : Beg ms root (some k0') 0 := .fine ho hp hm0 hd0
  replace hB := hB.ext hE1
  have hE2 := hE.trans hE1
  have hb1 : w.heap.size < w1.heap.size := hB.lt
  clear hE hE1
  have hlen := ho.len
  have hgn := h.n
  refine al_i fun hB5 hE5 => ldL_at (i := 0) (hB.ext hE5).all ⟨g.Nodes, rfl, ⟨by omega, by rw [hgn]; omega, by rw [hgn]; omega, ?_⟩⟩
  rw [hgn, Int.toNat_natCast]
  have hO5 : OwnL w.heap.size (w1.alloc (.cells ([] : List Value).toArray 40)) ⟨some ⟨w1.heap.size, 0, none⟩, 0, 0⟩ (some w1.heap.size) [] [] [] := OwnR.empty (by omega)
  have hz5 : (w1.alloc (.cells ([] : List Value).toArray 40)).heap.size = w1.heap.size + 1 := by simp
  replace hB := hB.ext hE5
  replace hE5 := hE2.trans hE5
  generalize w1.alloc (.cells ([] : List Value).toArray 40) = w5 at hE5 hO5 hz5 hB ⊢
  have hF6 := Own.made (w := w5) (e := 9) (sz := 1) (n := ms.length) (made_str ms.length) (by omega)
  have hE6 : Ext w5 (w5.alloc (.cells (madeCells #[.string ⟨#[]⟩] (ms.length * 1)) 9)) := (Ext.refl w5).alloc _
  have hz6 : (w5.alloc (.cells (madeCells #[.string ⟨#[]⟩] (ms.length * 1)) 9)).heap.size = w5.heap.size + 1 := by simp
  replace hB := hB.ext hE6
  replace hO5 := hO5.ext lnP_ext hE6
  replace hE6 := hE5.trans hE6
  rw [hz5] at hF6 ⊢
  generalize w5.alloc (.cells (madeCells #[.string ⟨#[]⟩] (ms.length * 1)) 9) = w6 at hE6 hO5 hz6 hB hF6 ⊢
  refine al_i fun hB8 hE8 => ?_
  have hS8 : Own (w6.alloc (.cells (S_valiseref14_step.cells ⟨(k0' : Int), Dot⟩).toArray 62)) ⟨some ⟨w6.heap.size, 0, none⟩, 1, 1⟩ w6.heap.size 62 2 (S_valiseref14_step.cells ⟨(k0' : Int), Dot⟩) := Own.lit rfl (by decide)
  have hR8 : RSt w _ ms g w.heap.size (w1.heap.size + 1) _ _ w1.heap.size [] [] _ w6.heap.size [(k0', Dot)] TS.nil :=
    ⟨hE6.trans hE8, hB.ext hE8, hF6.ext hE8, hO5.ext lnP_ext hE8, by simpa [stepC] using hS8, ⟨by omega, by omega, by omega⟩, ⟨by omega, by omega, by omega, by omega, by omega, by omega⟩, fun D hD => by cases hD⟩
  refine ⟨fun _ _ o st sum v => ∃ ko ys Ds ks its σ, RSt w v ms g w.heap.size (w1.heap.size + 1) ⟨some ⟨w1.heap.size + 1, 0, none⟩, ms.length, ms.length⟩ o ko ys Ds st ks its σ ∧ sum = (σ.sum : Int) ∧ σ.sum ≤ 4194304 ∧ σ.lines.length ≤ σ.sum ∧ its.length ≤ 1 + σ.lines.length * 8192 ∧ (∀ it ∈ its, it.1 < ms.length ∧ 1 ≤ it.2.size ∧ it.2.size ≤ 5000000 ∧ (σ.lines = [] → it.2 = Dot)) ∧ ∀ r, Run ms its σ r → Run ms [(k0', Dot)] TS.nil r,
    fun _ _ _ _ sum _ => (4194305 - sum).toNat, ⟨_, _, _, _, _, _, hR8, rfl, by simp [TS.nil], by simp [TS.nil], by simp, fun it hit => ?_, fun r hr => hr⟩, ?_⟩
  · rw [List.mem_singleton.1 hit]
    exact ⟨some_lt hm0, (by decide : 1 ≤ Dot.size), (by decide : Dot.size ≤ 5000000), fun _ => rfl⟩
  clear hR8 hS8 hB8 hE8 hF6 hO5 hB hE6 hE5
  generalize hb1' : w.heap.size = b1
  generalize hkf' : w1.heap.size + 1 = kf
  rintro _ _ o st sum v ⟨ko, ys, Ds, ks, its, σ, hR, rfl, hsum, hcnt, hits, hall, hrun⟩
  have hstn : st.n = its.length := by
    have := (hR.stk.row (fun _ => rfl) (by decide)).n
    rw [List.length_reverse] at this
    exact this
  refine ⟨fun hpos => ?_, fun hno => ?_⟩
  rotate_left
  · have : its = [] := List.eq_nil_of_length_eq_zero (by omega)
    subst this
    exact k1 _ _ _ _ _ _ hR.ext (.fine hbeg (hrun _ .nil)) hR.out (by omega)
  cases its with
  | nil => simp only [List.length_nil] at hstn; omega
  | cons it rest =>
  obtain ⟨k, path⟩ := it
  obtain ⟨hk, hp1, hp2, hdot⟩ := hall (k, path) (by simp)
  simp only at hk hp1 hp2 hdot
  obtain ⟨x, m, hx, hm, hxm⟩ := h.node hk
  have hmm := List.mem_of_getElem? hm
  have hml := ents_le ho hmm
  simp only [List.length_cons] at hstn hits
  have hw1 : w64 ((st.n : Int) - 1) = (rest.length : Int) := by rw [w64_id (by omega) (by omega)]; omega
  rw [hw1]
  have hrow : Row v st 2 stepC ((k, path) :: rest).reverse := hR.stk.row (fun _ => rfl) (by decide)
  refine hrow.ix (i := rest.length) (x := (k, path)) (by simp) fun c hc => ldT_all (x := (⟨(k : Int), path⟩ : S_valiseref14_step)) hc (al_i fun hBs hEs => ⟨by decide, by omega, by have := hR.stk.nc; omega, by omega, ?_⟩)
  rw [show (0 : Int).toNat = 0 from rfl, cutAt_zero, Int.toNat_natCast, Int.toNat_natCast, Nat.sub_zero, Nat.sub_zero]
  have hR2 : RSt w v ms g b1 kf ⟨some ⟨kf, 0, none⟩, ms.length, ms.length⟩ o ko ys Ds ⟨st.p, rest.length, st.c⟩ ks rest σ := by
    have hstk := hR.stk
    rw [List.reverse_cons, List.flatMap_append] at hstk
    exact ⟨hR.ext, hR.bg, hR.fst, hR.out, Own_cut hstk (by rw [length_flat (f := stepC) (sz := 2) (fun _ _ => rfl), List.length_reverse]) (by omega), hR.ge, hR.ne, hR.kD⟩
  have hls := hR2.lt
  have hR3 := hR2.up hEs
  clear hR2 hrow hc hR
  generalize hbs : v.heap.size = bs at hBs hls ⊢
  generalize v.alloc _ = v3 at hBs hEs hR3 ⊢
  have hbsl : bs < v3.heap.size := hBs.lt
  refine ldL_at (i := 0) hR3.bg.all ⟨g.Nodes, rfl, ldN_at (i := 0) hBs.all ⟨(k : Int), rfl, (h.row.ext hR3.ext).ix hx fun c hc => ldT_all (x := x) hc (al_i fun hBn hEn => ldS_at (i := 1) (hBs.ext hEn).all ⟨path, rfl, ?_⟩)⟩⟩
  have hw2 : w64 ((σ.sum : Int) + path.size) = ((σ.sum + path.size : Nat) : Int) := by rw [w64_id (by omega) (by omega)]; omega
  rw [hw2]
  refine ⟨fun hbig => k0 _ _ (hR3.ext.trans hEn) (.big hbeg (hrun _ (.big (by omega)))), fun hsm => dr_i ?_⟩
  have hR4 := (hR3.up hEn).up (Ext.refl _).drew
  have hBs4 : Blk (v3.alloc (.cells (S_api_Node.cells x).toArray 43)).drew bs 62 (S_valiseref14_step.cells ⟨(k : Int), path⟩) := hBs.ext hEn.drew
  have hBn4 : Blk (v3.alloc (.cells (S_api_Node.cells x).toArray 43)).drew v3.heap.size 43 (S_api_Node.cells x) := hBn
  generalize hbn : v3.heap.size = bn at hBn4 hbsl ⊢
  generalize (v3.alloc (.cells (S_api_Node.cells x).toArray 43)).drew = v4 at hR4 hBs4 hBn4 ⊢
  clear hBn hEn hBs hEs hR3 hc
  have hbn4 : bn < v4.heap.size := hBn4.lt
  refine ldS_at (i := 1) hBs4.all ⟨path, rfl, ldN_at (i := 1) hBn4.all ⟨x.Kind, rfl, ldN_at (i := 2) hBn4.all ⟨x.Mode, rfl, ldN_at (i := 3) hBn4.all ⟨x.Uid, rfl, ldN_at (i := 4) hBn4.all ⟨x.Gid, rfl, ldT_at (i := 5) hBn4.all x.Mtime rfl (ldN_at (i := 0) hBs4.all ⟨(k : Int), rfl, ?_⟩)⟩⟩⟩⟩⟩
  have hfk : (((List.range ms.length).map σ.fst).flatMap strC)[k]? = some (.string (σ.fst k)) := by rw [flat_str]; simp [hk]
  have hfl : k < (((List.range ms.length).map σ.fst).flatMap strC).length := some_lt hfk
  refine hR4.fst.ixS hfl ⟨σ.fst k, hR4.fst.cellS hfk, ?_⟩
  generalize hpeer : σ.fst k = peer
  refine al_i fun hB5 hE5 => ?_
  have hR5 := hR4.up hE5
  have hBs5 := hBs4.ext hE5
  have hBn5 := hBn4.ext hE5
  generalize hbl : v4.heap.size = bl at hB5 hbn4 ⊢
  generalize v4.alloc _ = v5 at hB5 hR5 hBs5 hBn5 ⊢
  clear hE5 hR4 hBs4 hBn4
  have hls' : RLt bl b1 kf ko ks Ds := ⟨by have := hls.b1; omega, by have := hls.kf; omega, by have := hls.ko; omega, by have := hls.ks; omega, fun D hD b hb => by have := hls.D D hD b hb; omega⟩
  refine st_i0 (cs' := S_api_Line.cells ⟨path, x.Kind, x.Mode, x.Uid, x.Gid, x.Mtime, ⟨none, 0, 0⟩, E0, peer⟩) hB5 rfl rfl fun v6 hB6 hX6 hz6 => ?_
  have hR6 := hR5.box hX6 hls'
  have hBs6 := hBs5.xtb hX6 (by omega)
  have hBn6 := hBn5.xtb hX6 (by omega)
  clear hR5 hBs5 hBn5 hX6 hB5 hz6
  refine ⟨fun v' => ∃ y D, RSt w v' ms g b1 kf ⟨some ⟨kf, 0, none⟩, ms.length, ms.length⟩ o ko ys Ds ⟨st.p, rest.length, st.c⟩ ks rest { σ with fst := (σ.next k m path).fst } ∧ Blk v' bs 62 (S_valiseref14_step.cells ⟨(k : Int), path⟩) ∧ Blk v' bn 43 (S_api_Node.cells x) ∧ Blk v' bl 40 (S_api_Line.cells y) ∧ lnP v' y (emitLn m path peer) D ∧ ∀ b ∈ D, bl < b ∧ b < v'.heap.size, ?_, ?_⟩
  rotate_left
  · refine ldS_at (i := 9) hB6.all ⟨peer, rfl, fun hpn => ldN_at (i := 0) hBs6.all ⟨(k : Int), rfl, ldS_at (i := 1) hBs6.all ⟨path, rfl, hR6.fst.ixS hfl (hR6.fst.stS hfl fun v7 hF7 hX7 hz7 => ?_)⟩⟩, fun hpn => ?_⟩
    · rw [range_set] at hF7
      have hne := hR6.ne
      have hR7 : RSt w v7 ms g b1 kf ⟨some ⟨kf, 0, none⟩, ms.length, ms.length⟩ o ko ys Ds ⟨st.p, rest.length, st.c⟩ ks rest { σ with fst := (σ.next k m path).fst } :=
        ⟨hR6.ext.xtb hX7 hR6.ge.2.1, hR6.bg.xtb hX7 (by omega), by rw [fst_set (by rw [hpeer]; exact hpn)]; exact hF7, hR6.out.xtb lnP_xtb hX7 (fun e => by cases e; omega) (fun D hD => (hR6.kD D hD).2.1), hR6.stk.xtb hX7 (by omega), hR6.ge, hne, hR6.kD⟩
      have hkf := hls'.kf
      have hkf' := hls.kf
      have hBs7 := hBs6.xtb hX7 (by omega)
      have hBn7 := hBn6.xtb hX7 (by omega)
      have hB7 := hB6.xtb hX7 (by omega)
      clear hR6 hBs6 hBn6 hB6 hX7 hF7
      have hbl7 := hB7.lt
      refine ldL_at (i := 7) hBn7.all ⟨x.Data, rfl, C_CopyBytes (hxm.data.ext hR7.ext) (by have := hs.data m hmm; omega) fun d v8 dk hE8 hdk hO8 => ?_⟩
      have hR8 := hR7.up hE8
      refine st_i (o := 7) (cs' := S_api_Line.cells ⟨path, x.Kind, x.Mode, x.Uid, x.Gid, x.Mtime, d, E0, peer⟩) (hB7.ext hE8) rfl rfl fun v9 hB9 hX9 hz9 => ?_
      have hR9 := hR8.box hX9 hls'
      have hO9 := hO8.xtb hX9 (by omega)
      have hBs9 := (hBs7.ext hE8).xtb hX9 (by omega)
      have hBn9 := (hBn7.ext hE8).xtb hX9 (by omega)
      refine ldS_at (i := 8) hBn9.all ⟨x.Target, rfl, st_i (o := 8) (cs' := S_api_Line.cells ⟨path, x.Kind, x.Mode, x.Uid, x.Gid, x.Mtime, d, x.Target, peer⟩) hB9 rfl rfl fun v10 hB10 hX10 hz10 => ?_⟩
      have hO10 := hO9.xtb hX10 (by omega)
      refine ⟨_, [dk], hR9.box hX10 hls', hBs9.xtb hX10 (by omega), hBn9.xtb hX10 (by omega), hB10, ⟨?_, some dk, ?_, rfl⟩, fun b hb => ?_⟩
      · rw [hxm.hd, emitLn, if_pos hpn, hpn]; rfl
      · rw [emitLn, if_pos hpn]; exact hO10
      · rw [List.mem_singleton.1 hb]; exact ⟨by omega, hO10.lt⟩
    · refine ⟨_, [], ⟨hR6.ext, hR6.bg, ?_, hR6.out, hR6.stk, hR6.ge, hR6.ne, hR6.kD⟩, hBs6, hBn6, hB6, ⟨?_, none, ⟨rfl, ?_⟩, rfl⟩, fun b hb => by simp at hb⟩
      · rw [fst_old (by rw [hpeer]; exact hpn)]; exact hR6.fst
      · rw [hxm.hd, emitLn, if_neg hpn]; rfl
      · rw [emitLn, if_neg hpn]; rfl
  rintro v7 ⟨y, D, hR7, hBs7, hBn7, hB7, hy7, hD7⟩
  have hon : o.n = σ.lines.length := hR7.out.n (fun _ => rfl) (by decide)
  refine ldT_all (x := y) hB7.all (al_i fun hB8 hE8 => ?_)
  have hR8 := hR7.up hE8
  have hBs8 := hBs7.ext hE8
  have hBn8 := hBn7.ext hE8
  have hy8 := lnP_ext _ _ _ _ _ hE8 hy7
  have hbl7 := hB7.lt
  have hz8 : v7.heap.size < (v7.alloc (.cells (S_api_Line.cells y).toArray 40)).heap.size := by simp
  have hsrc := src_lit (w := v7) (e := 40) (sz := 10) (n := 1) (cs := S_api_Line.cells y) rfl (by decide)
  generalize v7.alloc _ = v8 at hR8 hBs8 hBn8 hy8 hz8 hsrc ⊢
  have hw0 := hR8.ext.1
  refine hR8.out.app lnP_xtb (fun _ => rfl) (by decide) hsrc (S_api_Line.one y) rfl (by show (σ.lines.length + 1) * 120 ≤ _; omega) (by show σ.lines.length + 1 < _; omega) hw0 hy8 (fun b hb => ?_) fun o' v9 ko' B hB9 hk9 hX9 hO9 hn9 => ?_
  · have := hD7 b hb
    have := hls'.ko
    have := hls'.b1
    have := hR7.ge
    exact ⟨fun e => by cases e; omega, by omega, by omega, fun D' hD' hb' => by have := hls'.D D' hD' b hb'; omega⟩
  have hne := hR7.ne
  have hge := hR7.ge
  have l1 := hls.b1
  have l2 := hls.kf
  have l3 := hls.ko
  have l4 := hls.ks
  have n1 : B ≠ b1 ∧ B ≠ kf ∧ B ≠ ks ∧ B ≠ bs ∧ B ≠ bn ∧ w.heap.size ≤ B := by
    rcases hB9 with e | e
    · cases e; have := hR7.out.bk ko rfl; omega
    · omega
  have n2 : ko' ≠ b1 ∧ ko' ≠ kf ∧ ko' ≠ ks ∧ ko' ≠ bs ∧ ko' ≠ bn ∧ ko' < v9.heap.size := by
    have := hO9.lt.1 ko' rfl
    rcases hk9 with e | e
    · cases e; omega
    · omega
  have n3 : ∀ D' ∈ Ds ++ [D], b1 ∉ D' ∧ kf ∉ D' ∧ ks ∉ D' := by
    intro D' hD'
    rcases List.mem_append.1 hD' with h | h
    · exact hR7.kD D' h
    · rw [List.mem_singleton.1 h]
      exact ⟨fun h => by have := hD7 _ h; omega, fun h => by have := hD7 _ h; omega, fun h => by have := hD7 _ h; omega⟩
  have n4 : ∀ D' ∈ Ds ++ [D], ∀ b ∈ D', b < v9.heap.size := hO9.lt.2
  rw [← hpeer] at hO9
  have hR9 : RSt w v9 ms g b1 kf ⟨some ⟨kf, 0, none⟩, ms.length, ms.length⟩ o' ko' (ys ++ [y]) (Ds ++ [D]) ⟨st.p, rest.length, st.c⟩ ks rest (σ.next k m path) :=
    ⟨hR8.ext.xtb hX9 n1.2.2.2.2.2, hR8.bg.xtb hX9 (by omega), hR8.fst.xtb hX9 (by omega), hO9, hR8.stk.xtb hX9 (by omega), hge, by omega, n3⟩
  have hBs9 := hBs8.xtb hX9 (by omega)
  have hBn9 := hBn8.xtb hX9 (by omega)
  clear hR7 hR8 hBs7 hBs8 hBn7 hBn8 hB7 hB8 hE8 hy7 hy8 hX9 hO9 hsrc hB9 hk9 n1
  have htl : (σ.next k m path).lines.length = σ.lines.length + 1 := by simp [TS.next]
  have hts : (σ.next k m path).sum = σ.sum + path.size := rfl
  have hen := hxm.ents.n
  refine ldL_at (i := 9) hBn9.all ⟨x.Ents, rfl, ?_⟩
  rw [hen]
  refine ⟨fun stj i v' => ∃ (j ksj : Nat), i = (j : Int) - 1 ∧ j ≤ m.ents.length ∧ RSt w v' ms g b1 kf ⟨some ⟨kf, 0, none⟩, ms.length, ms.length⟩ o' ko' (ys ++ [y]) (Ds ++ [D]) stj ksj ((kids ms σ.lines.isEmpty path m.ents).drop j ++ rest) (σ.next k m path) ∧ Blk v' bs 62 (S_valiseref14_step.cells ⟨(k : Int), path⟩) ∧ Blk v' bn 43 (S_api_Node.cells x) ∧ ksj ≠ bs ∧ ksj ≠ bn ∧ v9.heap.size ≤ v'.heap.size, fun _ i _ => (i + 1).toNat,
    ⟨m.ents.length, ks, by rw [w64_id (by omega) (by omega)], by omega, by rw [List.drop_eq_nil_of_le (by rw [kids_len]; omega)]; exact hR9, hBs9, hBn9, by omega, by omega, by omega⟩, ?_⟩
  clear hR9 hBs9 hBn9
  rintro stj i v10 ⟨j, ksj, rfl, hj, hR, hBs, hBn, hk1, hk2, hv9⟩
  refine ⟨fun hpos => ?_, fun hneg => ?_⟩
  · obtain ⟨q, rfl⟩ : ∃ q, j = q + 1 := ⟨j - 1, by omega⟩
    have hq : ((q + 1 : Nat) : Int) - 1 = (q : Int) := by omega
    rw [hq]
    obtain ⟨e, he⟩ : ∃ e, m.ents[q]? = some e := ⟨_, List.getElem?_eq_getElem (by omega)⟩
    obtain ⟨⟨kk, hkk⟩, hgood⟩ := ho.ent hmm (List.mem_of_getElem? he)
    obtain ⟨mk, hmk, hmid⟩ := pos_get hkk
    have hgs := good_size hgood
    have hkp : kid ms σ.lines.isEmpty path e = (kk, kidPath σ.lines.isEmpty path e.Name) := by simp [kid, posN, hkk]
    refine ldL_at (i := 9) hBn.all ⟨x.Ents, rfl, (hxm.ents.ext hR.ext).ix he fun c hc => ldS_at (i := 0) hc ⟨e.Name, rfl, ?_⟩⟩
    refine ⟨fun p v' => p = kidPath σ.lines.isEmpty path e.Name ∧ v' = v10, ?_, ?_⟩
    · rintro p v' ⟨rfl, rfl⟩
      have hRd := hR.up (Ext.refl v').drew
      have hBsd : Blk v'.drew bs 62 (S_valiseref14_step.cells ⟨(k : Int), path⟩) := hBs
      have hBnd : Blk v'.drew bn 43 (S_api_Node.cells x) := hBn
      have hvd : v'.heap.size = v'.drew.heap.size := rfl
      rw [hvd] at hv9
      refine dr_i ?_
      clear hR hBs hBn hvd hc
      generalize v'.drew = v11 at hRd hBsd hBnd hv9 ⊢
      refine ldT_all (x := g) hRd.bg.all (ldL_at (i := 9) hBnd.all ⟨x.Ents, rfl, (hxm.ents.ext hRd.ext).ix he fun c hc => ldN_at (i := 1) hc ⟨e.Id, rfl, C_At (h.ext hRd.ext) ho.nodes.rising (by omega) fun v12 hE12 => ?_⟩⟩)
      have hpI : posI ms e.Id = (kk : Int) := by rw [posI, hkk]
      rw [hpI]
      have hR12 := hRd.up hE12
      have hBs12 := hBsd.ext hE12
      have hBn12 := hBnd.ext hE12
      have hv12 := hE12.1
      clear hRd hBsd hBnd hE12 hc
      refine al_i fun hB13 hE13 => ?_
      have hR13 := hR12.up hE13
      have hsn : stj.n = ((kids ms σ.lines.isEmpty path m.ents).drop (q + 1) ++ rest).length := by
        have := (hR13.stk.row (f := stepC) (fun _ => rfl) (by decide)).n
        rw [List.length_reverse] at this
        exact this
      have hsl : ((kids ms σ.lines.isEmpty path m.ents).drop (q + 1) ++ rest).length ≤ 8192 + rest.length := by
        rw [List.length_append, List.length_drop, kids_len]; omega
      refine hR13.stk.app (m := 1) (src_lit rfl (by decide)) rfl (S_valiseref14_step.one _) rfl (by omega) (by omega) fun st2 v14 ks2 hk2' hX14 hO14 hn14 => ?_
      have h13 : (v12.alloc (.cells (S_valiseref14_step.cells ⟨(kk : Int), kidPath σ.lines.isEmpty path e.Name⟩).toArray 62)).heap.size = v12.heap.size + 1 := by simp
      have hne2 := hR12.ne
      have hge2 := hR12.ge
      have hkD2 := hR12.kD
      have n5 : ks2 ≠ b1 ∧ ks2 ≠ kf ∧ ks2 ≠ ko' ∧ ks2 ≠ bs ∧ ks2 ≠ bn ∧ w.heap.size ≤ ks2 := by
        have := hR12.ext.1
        rcases hk2' with ⟨e, _⟩ | ⟨e, _⟩
        · omega
        · have := hBs12.lt; have := hBn12.lt; omega
      have n6 : ∀ D' ∈ Ds ++ [D], b1 ∉ D' ∧ kf ∉ D' ∧ ks2 ∉ D' := fun D' hD' => ⟨(hkD2 D' hD').1, (hkD2 D' hD').2.1, by
        rcases hk2' with ⟨e, _⟩ | ⟨e, _⟩
        · rw [e]; exact (hkD2 D' hD').2.2
        · intro hm; have := n4 D' hD' ks2 hm; omega⟩
      refine ⟨⟨q, ks2, by rw [w64_id (by omega) (by omega)], by omega, ⟨hR13.ext.xtb hX14 hge2.2.2, hR13.bg.xtb hX14 (by omega), hR13.fst.xtb hX14 (by omega), hR13.out.xtb lnP_xtb hX14 (fun e => by cases e; omega) (fun D' hD' => (hkD2 D' hD').2.2), ?_, ⟨hge2.1, hge2.2.1, n5.2.2.2.2.2⟩, by omega, n6⟩, (hBs12.ext hE13).xtb hX14 (by omega), (hBn12.ext hE13).xtb hX14 (by omega), by omega, by omega, by have := hX14.1; omega⟩, by dsimp only; rw [w64_id (by omega) (by omega)]; omega⟩
      rw [kids_drop he, hkp, List.cons_append, List.reverse_cons, List.flatMap_append, List.flatMap_singleton]
      exact hO14
    · have hbig : path.size + 1 + e.Name.size < 9223372036854775808 := by omega
      refine ldS_at (i := 1) hBs.all ⟨path, rfl, fun hdt => ⟨fun hmore => ldS_at (i := 1) hBs.all ⟨path, rfl, by show path.size + 1 < _; omega, by simp only [ByteArray.size_append]; exact hbig, ?_, rfl⟩, fun hno => ⟨?_, rfl⟩⟩, fun hnd => ldS_at (i := 1) hBs.all ⟨path, rfl, by show path.size + 1 < _; omega, by simp only [ByteArray.size_append]; exact hbig, ?_, rfl⟩⟩
      · have : σ.lines.isEmpty = false := by
          cases hq : σ.lines with
          | nil => rw [hq] at hn9; simp at hn9; omega
          | cons a b => rfl
        unfold kidPath
        rw [this]
        rfl
      · have : σ.lines.isEmpty = true := by
          cases hq : σ.lines with
          | nil => rfl
          | cons a b => rw [hq] at hn9; simp at hn9; omega
        unfold kidPath
        rw [this]
        rfl
      · have : σ.lines.isEmpty = false := by
          cases hq : σ.lines with
          | nil => exact absurd (hdot hq) hnd
          | cons a b => rfl
        unfold kidPath
        rw [this]
        rfl
  · have hj0 : j = 0 := by omega
    subst hj0
    rw [List.drop_zero] at hR
    refine ⟨⟨ko', _, _, ksj, _, σ.next k m path, hR, by rw [hts], by omega, by omega, ?_, fun it hit => ?_, fun r hr => hrun r (.go hm (by omega) hr)⟩, by dsimp only; omega⟩
    · rw [htl, List.length_append, kids_len]; omega
    · have hnn : (σ.next k m path).lines ≠ [] := fun e => by rw [e] at htl; simp at htl
      rcases List.mem_append.1 hit with hit | hit
      · obtain ⟨e, he, rfl⟩ := List.mem_map.1 hit
        obtain ⟨⟨kk, hkk⟩, hgood⟩ := ho.ent hmm he
        obtain ⟨mk, hmk, hmid⟩ := pos_get hkk
        have hgs := good_size hgood
        refine ⟨?_, ?_, ?_, fun e => absurd e hnn⟩
        · simp only [kid, posN, hkk, Option.getD_some]; exact some_lt hmk
        · simp only [kid, kidPath]; split
          · omega
          · simp only [ByteArray.size_append]; omega
        · simp only [kid, kidPath]; split
          · omega
          · simp only [ByteArray.size_append]
            have : Sla.size = 1 := rfl
            omega
      · have := hall it (List.mem_cons_of_mem _ hit)
        exact ⟨this.1, this.2.1, this.2.2.1, fun e => absurd e hnn⟩
end Go.Proofs.Ytmmkhlalhalomaa
