import Derived.Test.YtmmkhlalhalomaaGrM3
set_option linter.unusedVariables false
set_option linter.unusedSimpArgs false
set_option maxRecDepth 100000
namespace Go.Proofs.Ytmmkhlalhalomaa
open Go Go.Low
structure Lst (wb w : World) (ms : List Nd) (kb kl kf : Nat) (o : Sl) (ko : Option Nat) (ys : List S_api_Line) (Ds : List (List Nat)) (fs : List (Int × S_graph_where)) (σ : TS) (sum : Nat) : Prop where
  ext : Ext wb w
  lis : Blk w kl 58 (S_graph_lister.cells ⟨some kb, o, some kf, (sum : Int)⟩)
  fm : MapAt w kf kInt S_graph_where.v fs
  fget : ∀ (k : Nat) m, ms[k]? = some m → ((aget fs m.id).getD ⟨E0⟩).path_ = σ.fst k
  out : OwnL wb.heap.size w o ko ys σ.lines Ds
  kl_ : wb.heap.size ≤ kl
  kf_ : wb.heap.size ≤ kf
  klf : kl ≠ kf
  ko_ : ko ≠ some kl ∧ ko ≠ some kf
  kD : ∀ D ∈ Ds, kl ∉ D ∧ kf ∉ D
section
variable {wb w w' : World} {ms : List Nd} {kb kl kf sum B : Nat} {o : Sl} {ko : Option Nat} {ys : List S_api_Line} {Ds : List (List Nat)} {fs : List (Int × S_graph_where)} {σ : TS}
theorem Lst.up (h : Lst wb w ms kb kl kf o ko ys Ds fs σ sum) (x : Ext w w') : Lst wb w' ms kb kl kf o ko ys Ds fs σ sum :=
  ⟨h.ext.trans x, h.lis.ext x, h.fm.ext x, h.fget, h.out.ext lnP_ext x, h.kl_, h.kf_, h.klf, h.ko_, h.kD⟩
/-- a write to a box that was laid behind all this -/
theorem Lst.box (h : Lst wb w ms kb kl kf o ko ys Ds fs σ sum) (x : XtB B w w') (h1 : wb.heap.size ≤ B) (h2 : kl < B) (h3 : kf < B) (h4 : ∀ b, ko = some b → b < B) (h5 : ∀ D ∈ Ds, ∀ b ∈ D, b < B) : Lst wb w' ms kb kl kf o ko ys Ds fs σ sum :=
  ⟨h.ext.xtb x h1, h.lis.xtb x (by omega), h.fm.xtb x (by omega), h.fget, h.out.xtb lnP_xtb x (fun e => by have := h4 B e; omega) (fun D hD hb => by have := h5 D hD B hb; omega), h.kl_, h.kf_, h.klf, h.ko_, h.kD⟩
end
theorem next_fst {σ : TS} {k : Nat} {m : Nd} {path : ByteArray} : (σ.next k m path).fst = if σ.fst k = E0 then (fun x => if x = k then path else σ.fst x) else σ.fst := rfl
theorem entAt {ms : List Nd} {m : Nd} {j : Nat} {e : S_api_Ent} {top : Bool} {path : ByteArray} (he : m.ents[j]? = some e) : (kids ms top path m.ents).take (j + 1) = (kids ms top path m.ents).take j ++ [kid ms top path e] := take_snoc (by simp [kids, he])
theorem rest_none {ms : List Nd} {m : Nd} {j : Nat} {e : S_api_Ent} {top : Bool} {path : ByteArray} {σ σj : TS} (he : m.ents[j]? = some e) (h1 : Run ms ((kids ms top path m.ents).take j) σ (some σj)) (h2 : Run ms [kid ms top path e] σj none) : Run ms (kids ms top path m.ents) σ none := by
  have h3 : Run ms ((kids ms top path m.ents).take (j + 1)) σ none := by
    rw [entAt he]; exact h1.append h2
  have h4 := h3.append_none (ys := (kids ms top path m.ents).drop (j + 1))
  rwa [List.take_append_drop] at h4
set_option maxHeartbeats 1000000 in
theorem C_add {wb : World} {s : Sl} {xs : List S_api_Node} {ms : List Nd} {kb : Nat} {bys : List (Int × Option Addr)} {b0 : Addr} (hG : GraphX wb s xs ms) (hok : OkGraph ms) (hs : Small ms) (hby : ByAt wb kb s ms bys) (hb0 : s.p = some b0) :
    ∀ (n : Nat) {w : World} {kl kf : Nat} {o : Sl} {ko : Option Nat} {ys : List S_api_Line} {Ds : List (List Nat)} {fs : List (Int × S_graph_where)} {σ : TS} {k : Nat} {m : Nd} {path : ByteArray} {K : Bool → World → Prop}, 4194305 - σ.sum ≤ n → Lst wb w ms kb kl kf o ko ys Ds fs σ σ.sum → σ.lines.length ≤ σ.sum → σ.sum ≤ 4194304 → ms[k]? = some m → 1 ≤ path.size → path.size ≤ 5000000 →
    (∀ w', Ext wb w' → Run ms [(k, path)] σ none → K false w') →
    (∀ w' o' ko' ys' Ds' fs' σ', Lst wb w' ms kb kl kf o' ko' ys' Ds' fs' σ' σ'.sum → σ'.lines.length ≤ σ'.sum → σ'.sum ≤ 4194304 → Run ms [(k, path)] σ (some σ') → K true w') →
    cl1 Try.prog 17 [.pointer (some ⟨kl, 0, none⟩), .pointer (some (b0.add (k * 10))), .string path] w Value.bool K := by
  intro n
  induction n with
  | zero => intro w kl kf o ko ys Ds fs σ k m path K hn hL hcnt hsum; omega
  | succ n ih =>
  intro w kl kf o ko ys Ds fs σ k m path K hn hL hcnt hsum hm hp1 hp2 k0 k1
  obtain ⟨x, m', hx, hm', hxm⟩ := hG.node (some_lt hm)
  rw [hm] at hm'
  cases hm'
  obtain ⟨b0', hb0', hc0⟩ := hG.cellsAt hx
  rw [hb0] at hb0'
  cases hb0'
  have hmm := List.mem_of_getElem? hm
  refine T_graph_lister_add _ _ path (nn_i (ldN_at (i := 3) hL.lis.all ⟨σ.sum, rfl, nn_i ?_⟩))
  have hw : w64 ((σ.sum : Int) + path.size) = ((σ.sum + path.size : Nat) : Int) := by rw [w64_id (by omega) (by omega)]; omega
  rw [hw]
  refine st_i (o := 3) (cs' := S_graph_lister.cells ⟨some kb, o, some kf, ((σ.sum + path.size : Nat) : Int)⟩) hL.lis rfl rfl fun w1 hB1 hX1 hz1 => nn_i (ldN_at (i := 3) hB1.all ⟨((σ.sum + path.size : Nat) : Int), rfl, fun hbig => k0 _ (hL.ext.xtb hX1 hL.kl_) (.big (by omega)), fun hsm => dr_i ?_⟩)
  have hL1 : Lst wb w1 ms kb kl kf o ko ys Ds fs σ (σ.sum + path.size) :=
    ⟨hL.ext.xtb hX1 hL.kl_, hB1, hL.fm.xtb hX1 (Ne.symm hL.klf), hL.fget, hL.out.xtb lnP_xtb hX1 hL.ko_.1 (fun D hD => (hL.kD D hD).1), hL.kl_, hL.kf_, hL.klf, hL.ko_, hL.kD⟩
  have hL2 := hL1.up (Ext.refl w1).drew
  generalize w1.drew = w2 at hL2 ⊢
  clear hL1 hX1 hB1 hz1 hL
  have hc := hL2.ext.cells hc0
  refine nn_i (nn_i (nn_i (nn_i (nn_i (nn_i (nn_i (ldN_at (i := 1) hc ⟨x.Kind, rfl, ldN_at (i := 2) hc ⟨x.Mode, rfl, ldN_at (i := 3) hc ⟨x.Uid, rfl, ldN_at (i := 4) hc ⟨x.Gid, rfl, ldT_at (i := 5) hc x.Mtime rfl (ldM_at (i := 2) hL2.lis.all ⟨some kf, rfl, ldN_at (i := 0) hc ⟨x.Id, rfl, lk_i (kk := kInt) hL2.fm ?_⟩⟩)⟩⟩⟩⟩)))))))
  have hpe : ((aget fs x.Id).getD ⟨E0⟩).path_ = σ.fst k := by rw [hxm.id]; exact hL2.fget k m hm
  rw [hpe]
  generalize hpeer : σ.fst k = peer
  refine al_i fun hB3 hE3 => ?_
  have hL3 := hL2.up hE3
  generalize hbl : w2.heap.size = bl at hB3 ⊢
  have q1 : kl < bl := by rw [← hbl]; exact hL2.lis.lt
  have q2 : kf < bl := by rw [← hbl]; exact hL2.fm.lt
  have q3 : ∀ b, ko = some b → b < bl := by rw [← hbl]; exact hL2.out.lt.1
  have q4 : ∀ D ∈ Ds, ∀ b ∈ D, b < bl := by rw [← hbl]; exact hL2.out.lt.2
  have q5 : wb.heap.size ≤ bl := by rw [← hbl]; exact hL2.ext.1
  generalize w2.alloc _ = w3 at hB3 hE3 hL3 ⊢
  refine st_i0 (cs' := S_api_Line.cells ⟨path, x.Kind, x.Mode, x.Uid, x.Gid, x.Mtime, ⟨none, 0, 0⟩, E0, peer⟩) hB3 rfl rfl fun w4 hB4 hX4 hz4 => ?_
  have hL4 := hL3.box hX4 q5 q1 q2 q3 q4
  clear hL3 hX4 hz4 hB3 hE3 hL2 hc
  refine ⟨fun v => ∃ y D fs', Lst wb v ms kb kl kf o ko ys Ds fs' { σ with fst := (σ.next k m path).fst } (σ.sum + path.size) ∧ Blk v bl 40 (S_api_Line.cells y) ∧ lnP v y (emitLn m path peer) D ∧ ∀ b ∈ D, bl < b ∧ b < v.heap.size, ?_, ?_⟩
  · rintro v ⟨y, D, fs', hL, hB, hy, hD⟩
    have hlen : o.n = σ.lines.length := hL.out.n (fun _ => rfl) (by decide)
    have hbv := hB.lt
    refine nn_i (ldL_at (i := 1) hL.lis.all ⟨o, rfl, dr_i ?_⟩)
    have hL5 := hL.up (Ext.refl v).drew
    have hB5 : Blk v.drew bl 40 (S_api_Line.cells y) := hB
    have hy5 := lnP_ext _ _ _ _ _ (Ext.refl v).drew hy
    generalize hvd : v.drew = v5 at hL5 hB5 hy5
    have hvs : v5.heap.size = v.heap.size := by rw [← hvd]; rfl
    refine nn_i (ldL_at (i := 1) hL5.lis.all ⟨o, rfl, ldT_all (x := y) hB5.all (al_i fun hB6 hE6 => ?_)⟩)
    have hL6 := hL5.up hE6
    have hz6 : v5.heap.size < (v5.alloc (.cells (S_api_Line.cells y).toArray 40)).heap.size := by simp
    have hy6 := lnP_ext _ _ _ _ _ hE6 hy5
    refine hL6.out.app lnP_xtb (fun _ => rfl) (by decide) (src_lit rfl (by decide)) (S_api_Line.one y) rfl (by show (σ.lines.length + 1) * 120 ≤ _; omega) (by show σ.lines.length + 1 < _; omega) (by have := hL6.ext.1; omega) hy6 (fun b hb => ?_) fun o' w7 ko' B hB7 hk7 hX7 hO7 hn7 => ?_
    · have := hD b hb
      exact ⟨fun e => by have := q3 b e; omega, by omega, by omega, fun D' hD' hb' => by have := q4 D' hD' b hb'; omega⟩
    have n1 : B ≠ kl ∧ B ≠ kf ∧ wb.heap.size ≤ B := by
      rcases hB7 with e | e
      · exact ⟨fun h => hL.ko_.1 (by rw [e, h]), fun h => hL.ko_.2 (by rw [e, h]), hL.out.bk B e⟩
      · have := hL6.ext.1; exact ⟨by omega, by omega, by omega⟩
    have n2 : ko' ≠ kl ∧ ko' ≠ kf := by
      rcases hk7 with e | e
      · exact ⟨fun h => hL.ko_.1 (by rw [e, h]), fun h => hL.ko_.2 (by rw [e, h])⟩
      · exact ⟨by omega, by omega⟩
    have n3 : ∀ D' ∈ Ds ++ [D], kl ∉ D' ∧ kf ∉ D' := by
      intro D' hD'
      rcases List.mem_append.1 hD' with h | h
      · exact hL.kD D' h
      · rw [List.mem_singleton.1 h]
        exact ⟨fun h => by have := hD _ h; omega, fun h => by have := hD _ h; omega⟩
    refine nn_i (st_i (o := 1) (cs' := S_graph_lister.cells ⟨some kb, o', some kf, ((σ.sum + path.size : Nat) : Int)⟩) (hL6.lis.xtb hX7 (Ne.symm n1.1)) rfl rfl fun w8 hB8 hX8 hz8 => ?_)
    have hL8 : Lst wb w8 ms kb kl kf o' (some ko') (ys ++ [y]) (Ds ++ [D]) fs' (σ.next k m path) (σ.next k m path).sum :=
      ⟨(hL6.ext.xtb hX7 n1.2.2).xtb hX8 hL.kl_, hB8, (hL6.fm.xtb hX7 (Ne.symm n1.2.1)).xtb hX8 (Ne.symm hL.klf), hL.fget, by
        have := hO7.xtb lnP_xtb hX8 (by intro h; cases h; exact n2.1 rfl) (fun D' hD' => (n3 D' hD').1)
        rw [← hpeer] at this
        exact this, hL.kl_, hL.kf_, hL.klf, ⟨by intro h; cases h; exact n2.1 rfl, by intro h; cases h; exact n2.2 rfl⟩, n3⟩
    have hc8 := hL8.ext.cells hc0
    have hs8 : (σ.next k m path).sum = σ.sum + path.size := rfl
    have hcnt8 : (σ.next k m path).lines.length ≤ (σ.next k m path).sum := by
      simp only [TS.next, List.length_append, List.length_singleton]; omega
    have hen := hxm.ents.n
    clear hB hB5 hB6 hX7 hX8 hB8 hz8 hE6 hL5 hL6 hy5 hy6 hO7 hL
    refine nn_i (ldL_at (i := 9) hc8 ⟨x.Ents, rfl, ?_⟩)
    have htop : (decide ((o.n : Int) = 0)) = σ.lines.isEmpty := by
      rw [hlen]
      cases σ.lines with
      | nil => rfl
      | cons a b => exact decide_eq_false (by simp only [List.length_cons]; omega)
    refine ⟨fun _ i v => ∃ (j : Nat) (oj : Sl) (koj : Option Nat) (ysj : List S_api_Line) (Dsj : List (List Nat)) (fsj : List (Int × S_graph_where)) (σj : TS), i = j ∧ j ≤ m.ents.length ∧ Lst wb v ms kb kl kf oj koj ysj Dsj fsj σj σj.sum ∧ σj.lines.length ≤ σj.sum ∧ σj.sum ≤ 4194304 ∧ Run ms ((kids ms σ.lines.isEmpty path m.ents).take j) (σ.next k m path) (some σj), fun _ i _ => (m.ents.length - i).toNat,
      ⟨0, _, _, _, _, _, _, rfl, by omega, hL8, hcnt8, by rw [hs8]; omega, .nil⟩, ?_⟩
    rintro _ i v9 ⟨j, oj, koj, ysj, Dsj, fsj, σj, rfl, hj, hLj, hcj, hsj, hRj⟩
    have hge := hRj.sum_le (by rw [hs8]; omega)
    have hEl := hs.ents m hmm
    refine ⟨fun hlt => ?_, fun hge' => ?_⟩
    · obtain ⟨e, he⟩ : ∃ e, m.ents[j]? = some e := ⟨_, List.getElem?_eq_getElem (by omega)⟩
      obtain ⟨⟨kk, hkk⟩, hgood⟩ := hok.ent hmm (List.mem_of_getElem? he)
      obtain ⟨mk, hmk, hmid⟩ := pos_get hkk
      have hgs := good_size hgood
      refine (hxm.ents.ext hLj.ext).ix he fun c hc => ldT_all (x := e) hc (al_i fun hBe hEe => ?_)
      have hLe := hLj.up hEe
      generalize v9.alloc _ = v10 at hBe hEe hLe ⊢
      refine ldS_at (i := 0) hBe.all ⟨e.Name, rfl, ⟨fun q v' => q = kidPath σ.lines.isEmpty path e.Name ∧ v' = v10, ?_, fun h0 => ⟨?_, rfl⟩, fun h0 => ⟨by show path.size + 1 < _; omega, ldS_at (i := 0) hBe.all ⟨e.Name, rfl, ?_, ?_, rfl⟩⟩⟩⟩
      · rintro q v' ⟨rfl, rfl⟩
        have hLd := hLe.up (Ext.refl v').drew
        have hBd : Blk v'.drew v9.heap.size 66 (S_api_Ent.cells e) := hBe
        refine dr_i (nn_i (ldM_at (i := 0) hLd.lis.all ⟨some kb, rfl, ldN_at (i := 1) hBd.all ⟨e.Id, rfl, lk_i (kk := kInt) (hby.ext hLd.ext).map ?_⟩⟩))
        rw [hby.get, hkk, hb0]
        have hkp : kid ms σ.lines.isEmpty path e = (kk, kidPath σ.lines.isEmpty path e.Name) := by simp [kid, posN, hkk]
        refine ih (σ := σj) (k := kk) (m := mk) (by omega) hLd hcj hsj hmk ?_ ?_ (fun w' hE' hR' => ⟨fun _ => k0 w' hE' ?_, fun hn => by cases hn⟩) (fun w' o2 ko2 ys2 Ds2 fs2 σ2 hL2 hc2 hs2 hR2 => ⟨fun hn => (by cases hn), fun _ => ⟨⟨j + 1, o2, ko2, ys2, Ds2, fs2, σ2, by rw [w64_id (by omega) (by omega)]; rfl, by omega, hL2, hc2, hs2, ?_⟩, by dsimp only; rw [w64_id (by omega) (by omega)]; omega⟩⟩)
        · unfold kidPath; split
          · omega
          · simp only [ByteArray.size_append]; omega
        · unfold kidPath; split
          · omega
          · simp only [ByteArray.size_append]
            have : Sla.size = 1 := rfl
            omega
        · refine .go hm (by omega) ?_
          rw [List.append_nil]
          rw [← hkp] at hR'
          exact rest_none he hRj hR'
        · rw [entAt he, hkp]
          exact hRj.append hR2
      · unfold kidPath
        rw [← htop, if_pos (by simpa using h0)]
      · simp only [ByteArray.size_append]
        show path.size + 1 + e.Name.size < _
        omega
      · unfold kidPath
        rw [← htop, if_neg (by simpa using h0)]
    · rw [List.take_of_length_le (by simp [kids]; omega)] at hRj
      exact k1 _ _ _ _ _ _ _ hLj hcj hsj (.go hm (by omega) (by rw [List.append_nil]; exact hRj))
  · refine ldS_at (i := 9) hB4.all ⟨peer, rfl, fun hpn => dr_i ?_, fun hpn => ?_⟩
    · have hL5 := hL4.up (Ext.refl w4).drew
      have hB5 : Blk w4.drew bl 40 (S_api_Line.cells ⟨path, x.Kind, x.Mode, x.Uid, x.Gid, x.Mtime, ⟨none, 0, 0⟩, E0, peer⟩) := hB4
      generalize w4.drew = w5 at hL5 hB5
      have hc5 := hL5.ext.cells hc0
      refine nn_i (nn_i (ldM_at (i := 2) hL5.lis.all ⟨some kf, rfl, ldN_at (i := 0) hc5 ⟨x.Id, rfl, mu_i (kk := kInt) (y := (⟨path⟩ : S_graph_where)) hL5.fm fun w6 hM6 hX6 hz6 => ?_⟩⟩))
      have hL6 : Lst wb w6 ms kb kl kf o ko ys Ds (aput fs x.Id ⟨path⟩) { σ with fst := (σ.next k m path).fst } (σ.sum + path.size) :=
        ⟨hL5.ext.xtb hX6 hL5.kf_, hL5.lis.xtb hX6 hL5.klf, hM6, fun k' m' hm' => by
          rw [next_fst, hpeer, if_pos hpn, aget_put, hxm.id]
          by_cases e : m'.id = m.id
          · have e1 := pos_some hok.nodes.rising hm' e
            have e2 := pos_some hok.nodes.rising hm rfl
            rw [e1] at e2
            cases e2
            simp [e]
          · have hne : k' ≠ k := fun e2 => by subst e2; rw [hm] at hm'; cases hm'; exact e rfl
            simp only [if_neg e, if_neg hne]
            exact hL5.fget k' m' hm', hL5.out.xtb lnP_xtb hX6 hL5.ko_.2 (fun D hD => (hL5.kD D hD).2), hL5.kl_, hL5.kf_, hL5.klf, hL5.ko_, hL5.kD⟩
      have hB6 := hB5.xtb hX6 (by omega)
      have hc6 := hL6.ext.cells hc0
      have hz5 := hX6.1
      clear hL5 hB5 hX6 hM6 hc5
      refine nn_i (ldL_at (i := 7) hc6 ⟨x.Data, rfl, C_Clone (hxm.data.ext hL6.ext) (by have := hs.data m hmm; omega) fun d w7 dk hE7 hdk hO7 => ?_⟩)
      have hL7 := hL6.up hE7
      have hbl6 := hB6.lt
      refine st_i (o := 7) (cs' := S_api_Line.cells ⟨path, x.Kind, x.Mode, x.Uid, x.Gid, x.Mtime, d, E0, peer⟩) (hB6.ext hE7) rfl rfl fun w8 hB8 hX8 hz8 => ?_
      have hL8 := hL7.box hX8 q5 q1 q2 q3 q4
      have hO8 := hO7.xtb hX8 (fun e => by have := hdk _ e; omega)
      have hc8 := hL8.ext.cells hc0
      refine nn_i (ldS_at (i := 8) hc8 ⟨x.Target, rfl, st_i (o := 8) (cs' := S_api_Line.cells ⟨path, x.Kind, x.Mode, x.Uid, x.Gid, x.Mtime, d, x.Target, peer⟩) hB8 rfl rfl fun w9 hB9 hX9 hz9 => ?_⟩)
      have hL9 := hL8.box hX9 q5 q1 q2 q3 q4
      have hO9 := hO8.xtb hX9 (fun e => by have := hdk _ e; omega)
      refine ⟨_, dk.toList, _, hL9, hB9, ⟨?_, dk, ?_, rfl⟩, fun b hb => ?_⟩
      · rw [hxm.hd, emitLn, if_pos hpn, hpn]; rfl
      · rw [emitLn, if_pos hpn]; exact hO9
      · cases dk with
        | none => simp at hb
        | some z =>
          simp at hb
          subst hb
          have := hdk b rfl
          exact ⟨by omega, hO9.lt b rfl⟩
    · refine ⟨_, [], fs, ⟨hL4.ext, hL4.lis, hL4.fm, ?_, hL4.out, hL4.kl_, hL4.kf_, hL4.klf, hL4.ko_, hL4.kD⟩, hB4, ⟨?_, none, ⟨rfl, ?_⟩, rfl⟩, fun b hb => by simp at hb⟩
      · intro k' m' hm'
        rw [next_fst, hpeer, if_neg hpn]
        exact hL4.fget k' m' hm'
      · rw [hxm.hd, emitLn, if_neg hpn]; rfl
      · rw [emitLn, if_neg hpn]; rfl
end Go.Proofs.Ytmmkhlalhalomaa
