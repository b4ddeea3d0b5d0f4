import Derived.Test.YtmmkhlalhalomaaGrC15
set_option linter.unusedVariables false
set_option linter.unusedSimpArgs false
set_option maxRecDepth 100000
namespace Go.Proofs.Ytmmkhlalhalomaa
open Go Go.Low
theorem time_refl (t : S_api_Time) : S_api_Time.same t t = true := by simp [S_api_Time.same]
theorem time_eq {t t' : S_api_Time} (h : S_api_Time.same t t' = true) : t = t' := by
  simp only [S_api_Time.same, Bool.and_eq_true, decide_eq_true_eq] at h
  cases t; cases t'
  obtain ⟨rfl, rfl, _⟩ := h
  rfl
theorem ln_eq {l l' : Ln} (h1 : l.path = l'.path) (h2 : l.kind = l'.kind) (h3 : l.mode = l'.mode) (h4 : l.uid = l'.uid) (h5 : l.gid = l'.gid) (h6 : l.mtime = l'.mtime) (h7 : l.data = l'.data) (h8 : l.target = l'.target) (h9 : l.peer = l'.peer) : l = l' := by
  cases l; cases l'
  simp only at *
  subst h1; subst h2; subst h3; subst h4; subst h5; subst h6; subst h7; subst h8; subst h9
  rfl
theorem C_SameLine {w : World} {x x' : S_api_Line} {l l' : Ln} {K : Bool → World → Prop} (h : LineAt w x l) (h' : LineAt w x' l') (k1 : ∀ w', Ext w w' → l = l' → K true w') (k0 : ∀ w', Ext w w' → l ≠ l' → K false w') :
    cl1 Try.prog 21 [S_api_Line.v x, S_api_Line.v x'] w Value.bool K := by
  obtain ⟨d, rfl⟩ : ∃ d, x = l.hd d := ⟨_, h.hd⟩
  obtain ⟨d', rfl⟩ : ∃ d, x' = l'.hd d := ⟨_, h'.hd⟩
  have hd : Bytes w d l.data := h.data
  have hd' : Bytes w d' l'.data := h'.data
  refine T_valiseref00_SameLine _ _ (al_i fun hB1 hE1 => al_i fun hB2 hE2 => ?_)
  replace hB1 := hB1.ext hE2
  have hE := hE1.trans hE2
  generalize (w.alloc _).alloc _ = w2 at hB1 hB2 hE ⊢
  have bad : l ≠ l' → K false w2 := k0 _ hE
  refine ldS_at (i := 0) hB1.all ⟨l.path, rfl, ldS_at (i := 0) hB2.all ⟨l'.path, rfl, fun e1 => ?_, fun hne => bad fun e => hne (by rw [e])⟩⟩
  refine ldN_at (i := 1) hB1.all ⟨l.kind, rfl, ldN_at (i := 1) hB2.all ⟨l'.kind, rfl, fun e2 => ?_, fun hne => bad fun e => hne (by rw [e])⟩⟩
  refine ldN_at (i := 2) hB1.all ⟨l.mode, rfl, ldN_at (i := 2) hB2.all ⟨l'.mode, rfl, fun e3 => ?_, fun hne => bad fun e => hne (by rw [e])⟩⟩
  refine ldN_at (i := 3) hB1.all ⟨l.uid, rfl, ldN_at (i := 3) hB2.all ⟨l'.uid, rfl, fun e4 => ?_, fun hne => bad fun e => hne (by rw [e])⟩⟩
  refine ldN_at (i := 4) hB1.all ⟨l.gid, rfl, ldN_at (i := 4) hB2.all ⟨l'.gid, rfl, fun e5 => ?_, fun hne => bad fun e => hne (by rw [e])⟩⟩
  refine ldT_at (i := 5) hB1.all l.mtime rfl (ldT_at (i := 5) hB2.all l'.mtime rfl ⟨fun e6 => ?_, fun hne => bad fun e => by rw [e, time_refl] at hne; cases hne⟩)
  refine ldS_at (i := 8) hB1.all ⟨l.target, rfl, ldS_at (i := 8) hB2.all ⟨l'.target, rfl, fun e7 => ?_, fun hne => bad fun e => hne (by rw [e])⟩⟩
  refine ldS_at (i := 9) hB1.all ⟨l.peer, rfl, ldS_at (i := 9) hB2.all ⟨l'.peer, rfl, fun e8 => ?_, fun hne => bad fun e => hne (by rw [e])⟩⟩
  refine ldL_at (i := 7) hB1.all ⟨d, rfl, ldL_at (i := 7) hB2.all ⟨d', rfl, C_SameBytes (hd.ext hE) (hd'.ext hE) fun w3 hE3 => ?_⟩⟩
  cases hq : l.data == l'.data with
  | true => exact k1 _ (hE.trans hE3) (ln_eq e1 e2 e3 e4 e5 (time_eq e6) (by simpa using hq) e7 e8)
  | false => exact k0 _ (hE.trans hE3) fun e => by rw [e] at hq; simp at hq
theorem C_sameLine {w : World} {x x' : S_api_Line} {l l' : Ln} {K : Bool → World → Prop} (h : LineAt w x l) (h' : LineAt w x' l') (k1 : ∀ w', Ext w w' → l = l' → K true w') (k0 : ∀ w', Ext w w' → l ≠ l' → K false w') :
    cl1 Try.prog 25 [S_api_Line.v x, S_api_Line.v x'] w Value.bool K := by
  obtain ⟨d, rfl⟩ : ∃ d, x = l.hd d := ⟨_, h.hd⟩
  obtain ⟨d', rfl⟩ : ∃ d, x' = l'.hd d := ⟨_, h'.hd⟩
  have hd : Bytes w d l.data := h.data
  have hd' : Bytes w d' l'.data := h'.data
  refine T_graph_sameLine _ _ (al_i fun hB1 hE1 => al_i fun hB2 hE2 => ?_)
  replace hB1 := hB1.ext hE2
  have hE := hE1.trans hE2
  generalize (w.alloc _).alloc _ = w2 at hB1 hB2 hE ⊢
  have bad : l ≠ l' → K false w2 := k0 _ hE
  refine ldS_at (i := 0) hB1.all ⟨l.path, rfl, ldS_at (i := 0) hB2.all ⟨l'.path, rfl, fun e1 => ?_, fun hne => bad fun e => hne (by rw [e])⟩⟩
  refine ldN_at (i := 1) hB1.all ⟨l.kind, rfl, ldN_at (i := 1) hB2.all ⟨l'.kind, rfl, fun e2 => ?_, fun hne => bad fun e => hne (by rw [e])⟩⟩
  refine ldN_at (i := 2) hB1.all ⟨l.mode, rfl, ldN_at (i := 2) hB2.all ⟨l'.mode, rfl, fun e3 => ?_, fun hne => bad fun e => hne (by rw [e])⟩⟩
  refine ldN_at (i := 3) hB1.all ⟨l.uid, rfl, ldN_at (i := 3) hB2.all ⟨l'.uid, rfl, fun e4 => ?_, fun hne => bad fun e => hne (by rw [e])⟩⟩
  refine ldN_at (i := 4) hB1.all ⟨l.gid, rfl, ldN_at (i := 4) hB2.all ⟨l'.gid, rfl, fun e5 => ?_, fun hne => bad fun e => hne (by rw [e])⟩⟩
  refine ldT_at (i := 5) hB1.all l.mtime rfl (ldT_at (i := 5) hB2.all l'.mtime rfl ⟨fun e6 => ?_, fun hne => bad fun e => by rw [e, time_refl] at hne; cases hne⟩)
  refine ldS_at (i := 8) hB1.all ⟨l.target, rfl, ldS_at (i := 8) hB2.all ⟨l'.target, rfl, fun e7 => ?_, fun hne => bad fun e => hne (by rw [e])⟩⟩
  refine ldS_at (i := 9) hB1.all ⟨l.peer, rfl, ldS_at (i := 9) hB2.all ⟨l'.peer, rfl, fun e8 => ?_, fun hne => bad fun e => hne (by rw [e])⟩⟩
  refine ldL_at (i := 7) hB1.all ⟨d, rfl, ldL_at (i := 7) hB2.all ⟨d', rfl, C_EqualBytes (hd.ext hE) (hd'.ext hE) fun w3 hE3 => ?_⟩⟩
  cases hq : l.data == l'.data with
  | true => exact k1 _ (hE.trans hE3) (ln_eq e1 e2 e3 e4 e5 (time_eq e6) (by simpa using hq) e7 e8)
  | false => exact k0 _ (hE.trans hE3) fun e => by rw [e] at hq; simp at hq
theorem take_eq_of {α : Type} {xs ys : List α} (hl : xs.length = ys.length) {j : Nat} (h : xs.take j = ys.take j) (hj : xs.length ≤ j) : xs = ys := by
  rw [List.take_of_length_le hj, List.take_of_length_le (by omega)] at h
  exact h
theorem ne_at {α : Type} {xs ys : List α} {j : Nat} {x y : α} (hx : xs[j]? = some x) (hy : ys[j]? = some y) (h : x ≠ y) : xs ≠ ys := fun e => by
  subst e; rw [hx] at hy; cases hy; exact h rfl
theorem C_SameLines {w : World} {s s' : Sl} {xs xs' : List S_api_Line} {ls ls' : List Ln} {K : Bool → World → Prop} (h : LinesX w s xs ls) (h' : LinesX w s' xs' ls') (k1 : ∀ w', Ext w w' → ls = ls' → K true w') (k0 : ∀ w', Ext w w' → ls ≠ ls' → K false w') :
    cl1 Try.prog 8 [Sl.v s, Sl.v s'] w Value.bool K := by
  have hn := h.n; have hn' := h'.n
  have h63 := h.row.n63
  refine T_valiseref00_SameLines s s' ⟨fun he => ?_, fun hne => k0 w (Ext.refl w) fun e => hne (by rw [hn, hn', e])⟩
  have hl : ls.length = ls'.length := by omega
  refine ⟨fun _ i v => ∃ j : Nat, i = j ∧ j ≤ ls.length ∧ Ext w v ∧ ls.take j = ls'.take j, fun _ i _ => (ls.length - i).toNat, ⟨0, rfl, by omega, Ext.refl w, rfl⟩, ?_⟩
  rintro _ i v ⟨j, rfl, hj, hE, ht⟩
  refine ⟨fun hlt => dr_i ?_, fun hge => k1 _ hE (take_eq_of hl ht (by omega))⟩
  have hEd : Ext w v.drew := hE.drew
  obtain ⟨x, l, hx, hlj, hxl⟩ := (h.ext hEd).node (j := j) (by omega)
  obtain ⟨x', l', hx', hlj', hxl'⟩ := (h'.ext hEd).node (j := j) (by omega)
  refine (h.ext hEd).row.ix hx fun c hc => (h'.ext hEd).row.ix hx' fun c' hc' => ldT_all (x := x) hc (ldT_all (x := x') hc' (C_SameLine hxl hxl' (fun w' hE' e => ⟨fun hn => (by cases hn), fun _ => ⟨⟨j + 1, by rw [w64_id (by omega) (by omega)]; rfl, by omega, hEd.trans hE', ?_⟩, by dsimp only; rw [w64_id (by omega) (by omega)]; omega⟩⟩) fun w' hE' e => ⟨fun _ => k0 _ (hEd.trans hE') (ne_at hlj hlj' e), fun hn => by cases hn⟩))
  rw [take_snoc hlj, take_snoc hlj', ht, e]
theorem C_EqualLines {w : World} {s s' : Sl} {xs xs' : List S_api_Line} {ls ls' : List Ln} {K : Bool → World → Prop} (h : LinesX w s xs ls) (h' : LinesX w s' xs' ls') (k1 : ∀ w', Ext w w' → ls = ls' → K true w') (k0 : ∀ w', Ext w w' → ls ≠ ls' → K false w') :
    cl1 Try.prog 24 [Sl.v s, Sl.v s', (.func (.func 25) #[] #[])] w Value.bool K := by
  have hn := h.n; have hn' := h'.n
  have h63 := h.row.n63
  refine T_slices_EqualFunc_Line_Line_Line_Line s s' _ ⟨fun he => ?_, fun hne => k0 w (Ext.refl w) fun e => hne (by rw [hn, hn', e])⟩
  have hl : ls.length = ls'.length := by omega
  refine ⟨fun _ i v => ∃ j : Nat, i = j ∧ j ≤ ls.length ∧ Ext w v ∧ ls.take j = ls'.take j, fun _ i _ => (ls.length - i).toNat, ⟨0, rfl, by omega, Ext.refl w, rfl⟩, ?_⟩
  rintro _ i v ⟨j, rfl, hj, hE, ht⟩
  refine ⟨fun hlt => ?_, fun hge => k1 _ hE (take_eq_of hl ht (by omega))⟩
  obtain ⟨x, l, hx, hlj, hxl⟩ := (h.ext hE).node (j := j) (by omega)
  obtain ⟨x', l', hx', hlj', hxl'⟩ := (h'.ext hE).node (j := j) (by omega)
  refine (h.ext hE).row.ix hx fun c hc => ldT_all (x := x) hc (al_i fun hB1 hE1 => st_i0 (cs' := S_api_Line.cells x) hB1 rfl rfl fun v2 hB2 hX2 hz2 => ?_)
  have hE2 : Ext w v2 := (hE.trans hE1).xtb hX2 hE.1
  refine (h'.ext hE2).row.ix hx' fun c' hc' => ldT_all (x := x') hc' (al_i fun hB3 hE3 => ldT_all (x := x) (hB2.ext hE3).all (ldT_all (x := x') hB3.all ?_))
  have hE23 := hE2.trans hE3
  have hz1 := hE1.1
  have hEv : Ext v v2 := (Ext.refl v).trans hE1 |>.xtb hX2 (Nat.le_refl _)
  refine ⟨25, rfl, by kernel_rfl, C_sameLine ((hxl.ext hEv).ext hE3) ((hxl'.ext hEv).ext hE3) (fun w' hE' e => ⟨fun hn => (by cases hn), fun _ => ⟨⟨j + 1, by rw [w64_id (by omega) (by omega)]; rfl, by omega, hE23.trans hE', ?_⟩, by dsimp only; rw [w64_id (by omega) (by omega)]; omega⟩⟩) fun w' hE' e => ⟨fun _ => k0 _ (hE23.trans hE') (ne_at hlj hlj' e), fun hn => by cases hn⟩⟩
  rw [take_snoc hlj, take_snoc hlj', ht, e]
end Go.Proofs.Ytmmkhlalhalomaa
