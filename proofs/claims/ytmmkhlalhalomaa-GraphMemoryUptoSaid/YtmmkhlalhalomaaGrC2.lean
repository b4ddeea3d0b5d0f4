import Derived.Test.YtmmkhlalhalomaaGrC1
set_option linter.unusedVariables false
set_option linter.unusedSimpArgs false
set_option maxRecDepth 100000
namespace Go.Proofs.Ytmmkhlalhalomaa
open Go Go.Low
theorem has_byte {s : ByteArray} {c : UInt8} {i : Nat} (h : i < s.size) (e : s[i] = c) : s.data.toList.contains c = true := by
  rw [List.contains_iff_mem, ← e]
  have : s[i] = s.data[i]'h := rfl
  rw [this]
  simp
theorem no_byte {s : ByteArray} {c : UInt8} (h : ∀ i (hi : i < s.size), s[i] ≠ c) : s.data.toList.contains c = false := by
  rw [← Bool.not_eq_true, List.contains_iff_mem]
  intro hm
  obtain ⟨i, hi, he⟩ := List.getElem_of_mem hm
  simp at hi
  exact h i hi (by rw [← he]; rfl)
theorem sx_i {s : ByteArray} {j : Nat} {K : Int → Prop} (h : j < s.size) (k : K (s[j].toNat : Int)) : sx s (j : Int) K := ⟨by omega, by simpa using h, by simpa using k⟩
def good (s : ByteArray) : Bool := (!s.data.toList.contains 0 && !s.data.toList.contains 47) && decide ((1 ≤ s.size ∧ s.size ≤ 255) ∧ s ≠ ⟨#[46]⟩ ∧ s ≠ ⟨#[46, 46]⟩)
theorem u8_ne {x : UInt8} {n : Nat} (hn : n < 256) (h : ¬ ((x.toNat : Int) = (n : Int))) : x ≠ UInt8.ofNat n := fun e => h (by rw [e]; simp; omega)
theorem u8_eq {x : UInt8} {n : Nat} (hn : n < 256) (h : ((x.toNat : Int) = (n : Int))) : x = UInt8.ofNat n := UInt8.toNat_inj.1 (by simp; omega)
theorem C_refGood {w : World} {s : ByteArray} {K : Bool → World → Prop} (h63 : s.size < 9223372036854775807) (k : K (good s) w) : cl1 Try.prog 40 [.string s] w Value.bool K := by
  refine T_valiseref09_Good s ⟨fun _ i w' => w' = w ∧ ∃ j : Nat, i = j ∧ j ≤ s.size ∧ ∀ i (hi : i < s.size), i < j → s[i] ≠ 0 ∧ s[i] ≠ 47, fun _ i _ => (s.size - i).toNat, ⟨rfl, 0, rfl, by omega, fun i _ hi => absurd hi (by omega)⟩, ?_⟩
  rintro _ i w' ⟨rfl, j, rfl, hj, hs⟩
  refine ⟨fun hlt => ?_, fun hge => ?_⟩
  · have hj' : j < s.size := by omega
    refine sx_i hj' ⟨fun h0 => ?_, fun h0 => sx_i hj' ⟨fun h1 => ?_, fun h1 => ⟨⟨rfl, j + 1, by rw [w64_id (by omega) (by omega)]; rfl, by omega, fun i hi hij => ?_⟩, by dsimp only; rw [w64_id (by omega) (by omega)]; omega⟩⟩⟩
    · rwa [show good s = false by rw [good, has_byte (c := 0) hj' (u8_eq (n := 0) (by omega) h0)]; simp] at k
    · rwa [show good s = false by rw [good, has_byte (c := 47) hj' (u8_eq (n := 47) (by omega) h1)]; simp] at k
    · by_cases e : i = j
      · subst e; exact ⟨u8_ne (n := 0) (by omega) h0, u8_ne (n := 47) (by omega) h1⟩
      · exact hs i hi (by omega)
  · have e : good s = decide ((1 ≤ s.size ∧ s.size ≤ 255) ∧ s ≠ ⟨#[46]⟩ ∧ s ≠ ⟨#[46, 46]⟩) := by
      rw [good, no_byte fun i hi => (hs i hi (by omega)).1, no_byte fun i hi => (hs i hi (by omega)).2]; rfl
    rw [e] at k
    refine ⟨fun h1 => ⟨fun h2 => ⟨fun h3 => ?_, fun h3 => ?_⟩, fun h2 => ?_⟩, fun h1 => ?_⟩
    · rwa [decide_eq_false (by intro h; exact h.2.1 h3)] at k
    · rw [← decide_not]
      rwa [show decide ((1 ≤ s.size ∧ s.size ≤ 255) ∧ s ≠ ⟨#[46]⟩ ∧ s ≠ ⟨#[46, 46]⟩) = decide (¬ s = ⟨#[46, 46]⟩) from decide_eq_decide.2 ⟨fun h => h.2.2, fun h => ⟨⟨by omega, by omega⟩, h3, h⟩⟩] at k
    · rwa [decide_eq_false (by omega)] at k
    · rwa [decide_eq_false (by omega)] at k
theorem C_plain {w : World} {x : S_api_Node} {K : Bool → World → Prop} (h63 : x.Target.size < 9223372036854775807) (k : ∀ w', Ext w w' → K (okNode x) w') : cl1 Try.prog 39 [S_api_Node.v x] w Value.bool K := by
  refine T_valiseref14_plain x (al_i fun hB hE => ?_)
  have h := hB.all
  have hE0 := hE
  have bad : ∀ {w'}, Ext w w' → ¬ ((1 ≤ x.Kind ∧ x.Kind ≤ 3) ∧ (0 ≤ x.Mode ∧ x.Mode ≤ 4095) ∧ (0 ≤ x.Uid ∧ x.Uid ≤ 2147483647) ∧ (0 ≤ x.Gid ∧ x.Gid ≤ 2147483647) ∧ (x.Kind ≠ 1 → x.Data.n = 0) ∧ (x.Kind ≠ 2 → x.Ents.n = 0)) → K false w' := fun hE hn => by
    rw [← show okNode x = false by rw [okNode, decide_eq_false hn]; rfl]
    exact k _ hE
  refine ldN_at h ⟨_, rfl, ⟨fun h1 => bad hE (by omega), fun h1 => ?_⟩⟩
  refine ldN_at h ⟨_, rfl, ⟨fun h2 => bad hE (by omega), fun h2 => ?_⟩⟩
  refine ldN_at h ⟨_, rfl, ⟨fun h3 => bad hE (by omega), fun h3 => ?_⟩⟩
  refine ldN_at h ⟨_, rfl, ⟨fun h4 => bad hE (by omega), fun h4 => ?_⟩⟩
  refine ldN_at h ⟨_, rfl, ⟨fun h5 => bad hE (by omega), fun h5 => ?_⟩⟩
  refine ldN_at h ⟨_, rfl, ⟨fun h6 => bad hE (by omega), fun h6 => ?_⟩⟩
  refine ldN_at h ⟨_, rfl, ⟨fun h7 => bad hE (by omega), fun h7 => ?_⟩⟩
  refine ldN_at h ⟨_, rfl, ⟨fun h8 => bad hE (by omega), fun h8 => ?_⟩⟩
  refine ldT_at h x.Mtime rfl (C_refValid fun w1 hE1 => ?_)
  replace h := hE1.cells h
  replace hE := hE.trans hE1
  refine ⟨fun h9 => ?_, fun h9 => ?_⟩
  · rw [← show okNode x = false by simp at h9; simp [okNode, h9]]
    exact k _ hE
  simp at h9
  refine ⟨fun w' => w' = w1 ∧ (x.Kind ≠ 1 → x.Data.n = 0) ∧ (x.Kind ≠ 2 → x.Ents.n = 0), ?_, ?_⟩
  · rintro w' ⟨rfl, ha, hb⟩
    have hk := k _ hE
    have hA : okNode x = okText x := by simp only [okNode]; rw [decide_eq_true (by omega), h9]; rfl
    rw [hA] at hk
    refine ldN_at h ⟨_, rfl, ⟨fun h10 => ?_, fun h10 => ?_⟩⟩
    · refine ⟨fun _ i v => v = w' ∧ ∃ j : Nat, i = j ∧ j ≤ x.Target.size ∧ ∀ i (hi : i < x.Target.size), i < j → x.Target[i] ≠ 0, fun _ i _ => (x.Target.size - i).toNat, ⟨rfl, 0, rfl, by omega, fun i _ hi => absurd hi (by omega)⟩, ?_⟩
      rintro _ i v ⟨rfl, j, rfl, hj, hs⟩
      refine ldS_at h ⟨_, rfl, ⟨fun hlt => ?_, fun hge => ?_⟩⟩
      · have hj' : j < x.Target.size := by omega
        refine ldS_at h ⟨_, rfl, sx_i hj' ⟨fun h0 => ?_, fun h0 => ⟨⟨rfl, j + 1, by rw [w64_id (by omega) (by omega)]; rfl, by omega, fun i hi hij => ?_⟩, by dsimp only; rw [w64_id (by omega) (by omega)]; omega⟩⟩⟩
        · rwa [show okText x = false by rw [okText, if_pos h10, has_byte (c := 0) hj' (u8_eq (n := 0) (by omega) h0)]; simp] at hk
        · by_cases e : i = j
          · subst e; exact u8_ne (n := 0) (by omega) h0
          · exact hs i hi (by omega)
      · have hn := no_byte fun i hi => hs i hi (by omega)
        have hz : x.Target = ⟨#[]⟩ ↔ x.Target.size = 0 := ⟨fun e => by rw [e]; rfl, fun e => by
          have : x.Target.data = #[] := Array.eq_empty_of_size_eq_zero e
          rw [← this]⟩
        refine ldS_at h ⟨_, rfl, ⟨fun h11 => ldS_at h ⟨_, rfl, ?_⟩, fun h11 => ?_⟩⟩
        · rwa [show okText x = decide ((x.Target.size : Int) ≤ 4096) by
            rw [okText, if_pos h10, hn, decide_eq_true (show x.Target ≠ ⟨#[]⟩ by rw [Ne, hz]; omega)]; simp] at hk
        · rwa [show okText x = false by rw [okText, if_pos h10, decide_eq_false (show ¬ x.Target ≠ ⟨#[]⟩ by rw [Ne, hz]; omega)]; rfl] at hk
    · refine ldS_at h ⟨_, rfl, ?_⟩
      rwa [show okText x = decide (x.Target = ⟨#[]⟩) by rw [okText, if_neg h10]] at hk
  · refine ldN_at h ⟨_, rfl, ⟨fun h5 => ?_, fun h5 => ?_⟩⟩
    · refine ldN_at h ⟨_, rfl, ⟨fun h6 => ⟨rfl, by omega, by omega⟩, fun h6 => ?_⟩⟩
      exact (ldL_at h ⟨_, rfl, ⟨fun h7 => bad hE (by omega), fun h7 => ⟨rfl, by omega, by omega⟩⟩⟩)
    · refine (ldL_at h ⟨_, rfl, ⟨fun h7 => bad hE (by omega), fun h7 => ?_⟩⟩)
      refine (ldN_at h ⟨_, rfl, ⟨fun h6 => ⟨rfl, by omega, by omega⟩, fun h6 => ?_⟩⟩)
      exact (ldL_at h ⟨_, rfl, ⟨fun h7 => bad hE (by omega), fun h7 => ⟨rfl, by omega, by omega⟩⟩⟩)
end Go.Proofs.Ytmmkhlalhalomaa
