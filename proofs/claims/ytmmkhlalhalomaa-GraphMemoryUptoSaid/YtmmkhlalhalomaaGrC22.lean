import Derived.Test.YtmmkhlalhalomaaGrC21
set_option linter.unusedVariables false
set_option linter.unusedSimpArgs false
set_option maxRecDepth 100000
namespace Go.Proofs.Ytmmkhlalhalomaa
open Go Go.Low
theorem aget_snoc {κ α : Type} [DecidableEq κ] {es : List (κ × α)} {k x : κ} {v : α} : aget (es ++ [(k, v)]) x = (aget es x).or (if k = x then some v else none) := by
  induction es with
  | nil => simp only [List.nil_append, aget]; split <;> rfl
  | cons e r ih =>
    obtain ⟨k', u⟩ := e
    simp only [List.cons_append, aget]
    by_cases h : k' = x
    · simp [h]
    · simp only [if_neg h, ih]
theorem extract_all (s : ByteArray) : s.extract 0 s.size = s := by
  apply ByteArray.ext
  simp
def idf (st : PS) (i : Nat) : Int := ((st.ps.map (·.2))[i]?).getD 0
theorem PInv.len {ls : List Ln} {j : Nat} {st : PS} (h : PInv ls j st) (hj : j ≤ ls.length) : st.ps.length = j := by
  have := congrArg List.length h.keys
  simp only [List.length_map, List.length_take] at this
  omega
theorem PInv.at_ {ls : List Ln} {j q : Nat} {st : PS} {l : Ln} (h : PInv ls j st) (hj : j ≤ ls.length) (hq : q < j) (hl : ls[q]? = some l) : ∃ id, st.ps[q]? = some (l.path, id) ∧ idf st q = id ∧ 1 ≤ id ∧ id ≤ st.nodes.length := by
  have hlen := h.len hj
  obtain ⟨x, hx⟩ : ∃ x, st.ps[q]? = some x := ⟨_, List.getElem?_eq_getElem (by omega)⟩
  have hk : (st.ps.map (·.1))[q]? = some x.1 := by rw [List.getElem?_map, hx]; rfl
  rw [h.keys, List.getElem?_map, List.getElem?_take_of_lt hq, hl] at hk
  have e : l.path = x.1 := Option.some.inj hk
  refine ⟨x.2, by rw [hx, e], ?_, h.ids x (List.mem_of_getElem? hx)⟩
  rw [idf, List.getElem?_map, hx]; rfl
theorem idf_put {ls : List Ln} {j : Nat} {st : PS} {l : Ln} {id : Int} {ns : List Nd} {n : Nat} (hok : LnsOk ls) (h : PInv ls j st) (hl : ls[j]? = some l) : tab (fun i => if i = j then id else idf st i) n = tab (idf ⟨ns, aput st.ps l.path id⟩) n := by
  have hj := some_lt hl
  have hlen := h.len (by omega)
  have hfr : l.path ∉ st.ps.map (·.1) := by rw [h.keys]; exact hok.fresh hl
  refine tab_ext fun i hi => ?_
  show (if i = j then id else idf st i) = (((aput st.ps l.path id).map (·.2))[i]?).getD 0
  rw [aput_fresh hfr, List.map_append]
  by_cases e : i = j
  · subst e
    rw [if_pos rfl, List.getElem?_append_right (by rw [List.length_map]; omega), List.length_map, hlen]
    simp
  · rw [if_neg e, idf]
    by_cases hlt : i < j
    · rw [List.getElem?_append_left (by rw [List.length_map]; omega)]
    · rw [List.getElem?_eq_none (by rw [List.length_map]; omega), List.getElem?_eq_none (by simp; omega)]
theorem take_uniq {ls : List Ln} {j q : Nat} {st : PS} {l : Ln} (hok : LnsOk ls) (h : PInv ls j st) (hj : j ≤ ls.length) (hq : q < j) (hl : ls[q]? = some l) : aget (st.ps.take q) l.path = none := by
  refine aget_none_of fun hm => ?_
  rw [List.map_take, h.keys, ← List.map_take, List.take_take] at hm
  have := hok.fresh hl
  rw [Nat.min_eq_left (by omega)] at hm
  exact this hm
end Go.Proofs.Ytmmkhlalhalomaa
