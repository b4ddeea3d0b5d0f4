import Derived.Test.YtmmkhlalhalomaaGrC0
import Derived.Test.YtmmkhlalhalomaaShelf
set_option linter.unusedVariables false
set_option linter.unusedSimpArgs false
set_option maxRecDepth 100000
namespace Go.Proofs.Ytmmkhlalhalomaa
open Go Go.Low
def validT (t : S_api_Time) : Bool := decide (0 ≤ t.Nano ∧ t.Nano < 1000000000 ∧ -1099511627777 ≤ t.Sec ∧ t.Sec ≤ 1099511627776 ∧ (t.Sec = -1099511627777 → 0 < t.Nano))
theorem C_stampValid {w : World} {t : S_api_Time} {K : Bool → World → Prop} (k : ∀ w', Ext w w' → K (validT t) w') : cl1 Try.prog 43 [S_api_Time.v t] w Value.bool K := by
  refine T_stamp_Valid t (al_i fun hB hE => ?_)
  have hk := k _ hE
  have hc := hB.all
  refine ldN_at hc ⟨_, rfl, ⟨fun h1 => ?_, fun h1 => ?_⟩⟩
  · rwa [show validT t = false from decide_eq_false (by omega)] at hk
  refine ldN_at hc ⟨_, rfl, ⟨fun h2 => ?_, fun h2 => ?_⟩⟩
  · rwa [show validT t = false from decide_eq_false (by omega)] at hk
  refine ldN_at hc ⟨_, rfl, ⟨fun h3 => ?_, fun h3 => ?_⟩⟩
  · refine ldN_at hc ⟨_, rfl, ?_⟩
    rwa [show validT t = decide ((0 : Int) < t.Nano) from decide_eq_decide.2 (by omega)] at hk
  refine ldN_at hc ⟨_, rfl, ⟨fun h4 => ?_, fun h4 => ?_⟩⟩
  · refine ldN_at hc ⟨_, rfl, ?_⟩
    rwa [show validT t = decide (t.Sec ≤ 1099511627776) from decide_eq_decide.2 (by omega)] at hk
  · rwa [show validT t = false from decide_eq_false (by omega)] at hk
theorem C_refValid {w : World} {t : S_api_Time} {K : Bool → World → Prop} (k : ∀ w', Ext w w' → K (validT t) w') : cl1 Try.prog 46 [S_api_Time.v t] w Value.bool K := by
  refine T_valiseref02_Valid t (al_i fun hB hE => ?_)
  have hk := k _ hE
  have hc := hB.all
  refine ldN_at hc ⟨_, rfl, ⟨fun h1 => ?_, fun h1 => ?_⟩⟩
  · rwa [show validT t = false from decide_eq_false (by omega)] at hk
  refine ldN_at hc ⟨_, rfl, ⟨fun h2 => ?_, fun h2 => ?_⟩⟩
  · rwa [show validT t = false from decide_eq_false (by omega)] at hk
  refine ldN_at hc ⟨_, rfl, ⟨fun h3 => ?_, fun h3 => ?_⟩⟩
  · rwa [show validT t = false from decide_eq_false (by omega)] at hk
  refine ldN_at hc ⟨_, rfl, ⟨fun h4 => ?_, fun h4 => ?_⟩⟩
  · rwa [show validT t = false from decide_eq_false (by omega)] at hk
  refine ldN_at hc ⟨_, rfl, ⟨fun h5 => ?_, fun h5 => ?_⟩⟩
  · refine ldN_at hc ⟨_, rfl, ?_⟩
    rwa [show validT t = !decide (t.Nano = 0) by rw [validT, ← decide_not]; exact decide_eq_decide.2 (by omega)] at hk
  · rwa [show validT t = true from decide_eq_true (by omega)] at hk
theorem C_within {w : World} {v lo hi : Int} {K : Bool → World → Prop} (k : K (decide (lo ≤ v ∧ v ≤ hi)) w) : cl1 Try.prog 42 [.int .i64 v, .int .i64 lo, .int .i64 hi] w Value.bool K := by
  refine T_graph_within v lo hi ⟨fun h => ?_, fun h => ?_⟩
  · rwa [show decide (lo ≤ v ∧ v ≤ hi) = decide (v ≤ hi) from decide_eq_decide.2 (by omega)] at k
  · rwa [show decide (lo ≤ v ∧ v ≤ hi) = false from decide_eq_false (by omega)] at k
theorem C_IndexByte {w : World} {s : ByteArray} {c : Int} {K : Int → World → Prop} (k : K (Lib.indexByte s.data.toList c.toNat.toUInt8) w) : cl1 Try.prog 47 [.string s, .int .u8 c] w (Value.int .i64) K :=
  (Any.strings_IndexByte Try.lays137 s c w).mono fun e w' h => by obtain ⟨rfl, rfl⟩ := h; exact ⟨_, rfl, k⟩
theorem C_Compare {w : World} {a b : ByteArray} {K : Int → World → Prop} (k : K (Lib.compareBytes a.data.toList b.data.toList) w) : cl1 Try.prog 29 [.string a, .string b] w (Value.int .i64) K :=
  (Any.strings_Compare Try.lays106 a b w).mono fun e w' h => by obtain ⟨rfl, rfl⟩ := h; exact ⟨_, rfl, k⟩
def okText (x : S_api_Node) : Bool := if x.Kind = 3 then decide (x.Target ≠ ⟨#[]⟩) && decide ((x.Target.size : Int) ≤ 4096) && !(x.Target.data.toList.contains 0) else decide (x.Target = ⟨#[]⟩)
def okNode (x : S_api_Node) : Bool := decide ((1 ≤ x.Kind ∧ x.Kind ≤ 3) ∧ (0 ≤ x.Mode ∧ x.Mode ≤ 4095) ∧ (0 ≤ x.Uid ∧ x.Uid ≤ 2147483647) ∧ (0 ≤ x.Gid ∧ x.Gid ≤ 2147483647) ∧ (x.Kind ≠ 1 → x.Data.n = 0) ∧ (x.Kind ≠ 2 → x.Ents.n = 0)) && (validT x.Mtime && okText x)
theorem C_text {w : World} {b : Addr} {x : S_api_Node} {K : Bool → World → Prop} (h : CellsAt w b 0 (S_api_Node.cells x)) (k : K (okText x) w) : cl1 Try.prog 44 [.pointer (some b)] w Value.bool K := by
  refine T_graph_text (some b) (nn_i (ldN_at h ⟨_, rfl, ⟨fun h1 => ?_, fun h1 => ?_⟩⟩))
  · refine nn_i (ldS_at h ⟨_, rfl, ⟨fun h2 => ?_, fun h2 => ?_⟩⟩)
    · rwa [show okText x = false by simp [okText, h1, h2]] at k
    refine nn_i (ldS_at h ⟨_, rfl, ⟨fun h3 => ?_, fun h3 => ?_⟩⟩)
    · refine nn_i (ldS_at h ⟨_, rfl, C_IndexByte ?_⟩)
      have e : (x.Target.data.toList.contains 0) = decide (0 ≤ Lib.indexByte x.Target.data.toList (0 : Int).toNat.toUInt8) := Lib.contains_iff_indexByte _ _
      rwa [show okText x = decide (Lib.indexByte x.Target.data.toList (0 : Int).toNat.toUInt8 < 0) by
        simp only [okText, h1, if_true, e, ← decide_not]
        simp [h2, h3]] at k
    · rwa [show okText x = false by simp [okText, h1, h3]] at k
  · refine nn_i (ldS_at h ⟨_, rfl, ?_⟩)
    rwa [show okText x = decide (x.Target = ⟨#[]⟩) by simp [okText, h1]] at k
theorem C_sound {w : World} {b : Addr} {x : S_api_Node} {K : Bool → World → Prop} (h : CellsAt w b 0 (S_api_Node.cells x)) (k : ∀ w', Ext w w' → K (okNode x) w') : cl1 Try.prog 36 [.pointer (some b)] w Value.bool K := by
  have hf : ∀ {p : Prop} [Decidable p], ¬ p → (p → okNode x = false) := fun h h' => absurd h' h
  refine T_graph_sound (some b) (nn_i (ldN_at h ⟨_, rfl, C_within ⟨fun h1 => ?_, fun h1 => ?_⟩⟩))
  · simp at h1
    rw [← show okNode x = false by simp only [okNode, Bool.and_eq_false_iff]; left; exact decide_eq_false (by omega)]
    exact k _ (Ext.refl w)
  simp at h1
  refine nn_i (ldN_at h ⟨_, rfl, C_within ⟨fun h2 => ?_, fun h2 => ?_⟩⟩)
  · simp at h2
    rw [← show okNode x = false by simp only [okNode, Bool.and_eq_false_iff]; left; exact decide_eq_false (by omega)]
    exact k _ (Ext.refl w)
  simp at h2
  refine nn_i (ldN_at h ⟨_, rfl, C_within ⟨fun h3 => ?_, fun h3 => ?_⟩⟩)
  · simp at h3
    rw [← show okNode x = false by simp only [okNode, Bool.and_eq_false_iff]; left; exact decide_eq_false (by omega)]
    exact k _ (Ext.refl w)
  simp at h3
  refine nn_i (ldN_at h ⟨_, rfl, C_within ⟨fun h4 => ?_, fun h4 => ?_⟩⟩)
  · simp at h4
    rw [← show okNode x = false by simp only [okNode, Bool.and_eq_false_iff]; left; exact decide_eq_false (by omega)]
    exact k _ (Ext.refl w)
  simp at h4
  refine ⟨fun w' => w' = w ∧ (x.Kind ≠ 1 → x.Data.n = 0) ∧ (x.Kind ≠ 2 → x.Ents.n = 0), ?_, ?_⟩
  · rintro w' ⟨rfl, h5, h6⟩
    have hA : okNode x = (validT x.Mtime && okText x) := by
      simp only [okNode]; rw [decide_eq_true (by omega)]; rfl
    refine nn_i (ldT_at h x.Mtime rfl (C_stampValid fun w1 hE => ⟨fun h7 => ?_, fun h7 => ?_⟩))
    · refine C_text (hE.cells h) ?_
      rw [← show okNode x = okText x by rw [hA, h7]; rfl]
      exact k _ hE
    · rw [← show okNode x = false by rw [hA, h7]; rfl]
      exact k _ hE
  · have bad : ¬ ((x.Kind ≠ 1 → x.Data.n = 0) ∧ (x.Kind ≠ 2 → x.Ents.n = 0)) → K false w := fun hn => by
      rw [← show okNode x = false by simp only [okNode, Bool.and_eq_false_iff]; left; exact decide_eq_false (by omega)]
      exact k _ (Ext.refl w)
    refine nn_i (ldN_at h ⟨_, rfl, ⟨fun h5 => ?_, fun h5 => ?_⟩⟩)
    · refine nn_i (ldN_at h ⟨_, rfl, ⟨fun h6 => ⟨rfl, by omega, by omega⟩, fun h6 => ?_⟩⟩)
      exact nn_i (ldL_at h ⟨_, rfl, ⟨fun h7 => bad (by omega), fun h7 => ⟨rfl, by omega, by omega⟩⟩⟩)
    · refine nn_i (ldL_at h ⟨_, rfl, ⟨fun h7 => bad (by omega), fun h7 => ?_⟩⟩)
      refine nn_i (ldN_at h ⟨_, rfl, ⟨fun h6 => ⟨rfl, by omega, by omega⟩, fun h6 => ?_⟩⟩)
      exact nn_i (ldL_at h ⟨_, rfl, ⟨fun h7 => bad (by omega), fun h7 => ⟨rfl, by omega, by omega⟩⟩⟩)
end Go.Proofs.Ytmmkhlalhalomaa
