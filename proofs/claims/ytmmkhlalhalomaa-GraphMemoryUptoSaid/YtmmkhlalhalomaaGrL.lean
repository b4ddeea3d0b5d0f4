/-
  PROVED HERE: 'Rows.GraphMemoryUptoSaid': for every graph and root that can be read, of bulk at most 1048576, the law valiselaw14.GraphMemory returns true, and its arguments read behind the call as they did before.
  Conditions: none but those of the given row itself.
-/
import Derived.Test.YtmmkhlalhalomaaLowO
import Derived.Test.YtmmkhlalhalomaaGrC29
set_option linter.unusedVariables false
set_option linter.unusedSimpArgs false
set_option maxRecDepth 100000
namespace Go.Proofs.Ytmmkhlalhalomaa
open Go Go.Low Go.ChangeShapes Go.WideShapes Go.ChangeAt Go.RowKit
theorem len10 {α : Type} {l : List α} (h : l.length = 10) : ∃ a b c d e f g i j k, l = [a, b, c, d, e, f, g, i, j, k] := by
  match l, h with
  | [a, b, c, d, e, f, g, i, j, k], _ => exact ⟨a, b, c, d, e, f, g, i, j, k, rfl⟩
theorem len9 {α : Type} {l : List α} (h : l.length = 9) : ∃ a b c d e f g i j, l = [a, b, c, d, e, f, g, i, j] := by
  match l, h with
  | [a, b, c, d, e, f, g, i, j], _ => exact ⟨a, b, c, d, e, f, g, i, j, rfl⟩
theorem len2 {α : Type} {l : List α} (h : l.length = 2) : ∃ a b, l = [a, b] := by
  match l, h with
  | [a, b], _ => exact ⟨a, b, rfl⟩
theorem len1 {α : Type} {l : List α} (h : l.length = 1) : ∃ a, l = [a] := by
  match l, h with
  | [a], _ => exact ⟨a, rfl⟩
theorem rowX_eq {α : Type} {w : World} {s : Sl} {sz : Nat} {f : α → List Value} {bs : List α} (h : RowX sz f (fun _ a b => a = b) w s bs) : Row w s sz f bs := by
  obtain ⟨xs, hr, hl, he⟩ := h
  have : xs = bs := by
    apply List.ext_getElem?
    intro i
    by_cases hi : i < xs.length
    · obtain ⟨a, ha⟩ : ∃ a, xs[i]? = some a := ⟨_, List.getElem?_eq_getElem hi⟩
      obtain ⟨b, hb⟩ : ∃ b, bs[i]? = some b := ⟨_, List.getElem?_eq_getElem (by omega)⟩
      rw [ha, hb, he i a b ha hb]
    · rw [List.getElem?_eq_none (by omega), List.getElem?_eq_none (by omega)]
  rw [← this]; exact hr
theorem cell1 {v u : Value} (h : [v] = [u]) : v = u := (List.cons.inj h).1
theorem op_Ent : Opens Try.prog 66 S_api_Ent.cells (fun _ (a b : S_api_Ent) => a = b) (fun e => e.Name.size + 1) := fun {H enc w n cs x} h => by
  obtain ⟨xs, m, hx, hl, hlen, hf⟩ := open_fields Try.underlying66 h
  rw [show Try.prog.cellsOf 66 = 2 by kernel_rfl] at hl
  obtain ⟨y0, y1, rfl⟩ := len2 hlen
  obtain ⟨c0, c1, rfl⟩ := len2 hl
  obtain ⟨s, _, e0, rfl, w0⟩ := op_str Try.underlying9 (hf 0 9 0 1 y0 rfl rfl (by kernel_rfl))
  obtain ⟨i, _, e1, ⟨rfl, _⟩, w1⟩ := op_int Try.underlying3 (hf 1 3 1 1 y1 rfl rfl (by kernel_rfl))
  refine ⟨⟨s, i⟩, ⟨s, i⟩, by rw [cell1 e0, cell1 e1]; rfl, rfl, ?_⟩
  rw [hx]
  simp only at w0 w1
  simp only [List.map_cons, List.map_nil, Rows.uptoBulk, Rows.uptoBulkAll]
  omega
theorem op_Time : Opens Try.prog 37 S_api_Time.cells (fun _ (a b : S_api_Time) => a = b) (fun _ => 1) := fun {H enc w n cs x} h => by
  obtain ⟨xs, m, hx, hl, hlen, hf⟩ := open_fields Try.underlying37 h
  rw [show Try.prog.cellsOf 37 = 2 by kernel_rfl] at hl
  obtain ⟨y0, y1, rfl⟩ := len2 hlen
  obtain ⟨c0, c1, rfl⟩ := len2 hl
  obtain ⟨s, _, e0, ⟨rfl, _⟩, w0⟩ := op_int Try.underlying3 (hf 0 3 0 1 y0 rfl rfl (by kernel_rfl))
  obtain ⟨i, _, e1, ⟨rfl, _⟩, w1⟩ := op_int Try.underlying3 (hf 1 3 1 1 y1 rfl rfl (by kernel_rfl))
  exact ⟨⟨s, i⟩, ⟨s, i⟩, by rw [cell1 e0, cell1 e1]; rfl, rfl, bulk_one _⟩
def ndWt (m : Nd) : Nat := m.target.size + m.data.length + (m.ents.map fun e => e.Name.size + 1).sum + 1
theorem sum_ones {α : Type} (l : List α) : (l.map fun _ => 1).sum = l.length := by
  induction l with
  | nil => rfl
  | cons a r ih => simp only [List.map_cons, List.sum_cons, ih, List.length_cons]; omega
theorem op_Node : Opens Try.prog 43 S_api_Node.cells NodeAt ndWt := fun {H enc w n cs x} h => by
  obtain ⟨xs, m, hx, hl, hlen, hf⟩ := open_fields Try.underlying43 h
  rw [show Try.prog.cellsOf 43 = 10 by kernel_rfl] at hl
  obtain ⟨y0, y1, y2, y3, y4, y5, y6, y7, y8, rfl⟩ := len9 hlen
  obtain ⟨c0, c1, c2, c3, c4, c5, c6, c7, c8, c9, rfl⟩ := len10 hl
  obtain ⟨id, _, e0, ⟨rfl, _⟩, w0⟩ := op_int Try.underlying3 (hf 0 3 0 1 y0 rfl rfl (by kernel_rfl))
  obtain ⟨kd, _, e1, ⟨rfl, _⟩, w1⟩ := op_int Try.underlying3 (hf 1 3 1 1 y1 rfl rfl (by kernel_rfl))
  obtain ⟨md, _, e2, ⟨rfl, _⟩, w2⟩ := op_int Try.underlying3 (hf 2 3 2 1 y2 rfl rfl (by kernel_rfl))
  obtain ⟨ui, _, e3, ⟨rfl, _⟩, w3⟩ := op_int Try.underlying3 (hf 3 3 3 1 y3 rfl rfl (by kernel_rfl))
  obtain ⟨gi, _, e4, ⟨rfl, _⟩, w4⟩ := op_int Try.underlying3 (hf 4 3 4 1 y4 rfl rfl (by kernel_rfl))
  obtain ⟨mt, _, e5, rfl, w5⟩ := op_Time (hf 5 37 5 2 y5 rfl rfl (by kernel_rfl))
  obtain ⟨ds, db, e6, hd, w6⟩ := op_slice (sz := 1) Try.underlying38 (by kernel_rfl) (fun _ => rfl) (op_u8 Try.underlying5) (hf 6 38 7 1 y6 rfl rfl (by kernel_rfl))
  obtain ⟨tg, _, e7, rfl, w7⟩ := op_str Try.underlying9 (hf 7 9 8 1 y7 rfl rfl (by kernel_rfl))
  obtain ⟨es, eb, e8, he, w8⟩ := op_slice (sz := 2) Try.underlying41 (by kernel_rfl) (fun _ => rfl) op_Ent (hf 8 41 9 1 y8 rfl rfl (by kernel_rfl))
  have ht := e5
  simp only [List.drop_succ_cons, List.drop_zero, List.take_succ_cons, List.take_zero, S_api_Time.cells, List.cons.injEq] at ht
  refine ⟨⟨id, kd, md, ui, gi, mt, ds, tg, es⟩, ⟨id, kd, md, ui, gi, mt, tg, db, eb⟩, ?_, ⟨rfl, rowX_eq hd, rowX_eq he⟩, ?_⟩
  · rw [cell1 e0, cell1 e1, cell1 e2, cell1 e3, cell1 e4, ht.1, ht.2.1, cell1 e6, cell1 e7, cell1 e8]; rfl
  · rw [hx]
    simp only [sum_ones] at w6 w7 w8
    simp only [List.map_cons, List.map_nil, Rows.uptoBulk, Rows.uptoBulkAll, ndWt]
    omega
theorem op_Graph : Opens Try.prog 24 S_api_Graph.cells (fun w (g : S_api_Graph) (ms : List Nd) => ∃ xs, GraphX w g.Nodes xs ms) (fun ms => (ms.map ndWt).sum) := fun {H enc w n cs x} h => by
  obtain ⟨xs, m, hx, hl, hlen, hf⟩ := open_fields Try.underlying24 h
  rw [show Try.prog.cellsOf 24 = 1 by kernel_rfl] at hl
  obtain ⟨y0, rfl⟩ := len1 hlen
  obtain ⟨c0, rfl⟩ := len1 hl
  obtain ⟨s, ms, e0, ⟨xs', hr, hl', hR⟩, w0⟩ := op_slice (sz := 10) Try.underlying22 (by kernel_rfl) (fun _ => rfl) op_Node (hf 0 22 0 1 y0 rfl rfl (by kernel_rfl))
  refine ⟨⟨s⟩, ms, by rw [cell1 e0]; rfl, ⟨xs', hr, hl', hR⟩, ?_⟩
  rw [hx]
  simp only at w0
  simp only [List.map_cons, List.map_nil, Rows.uptoBulk, Rows.uptoBulkAll]
  omega
theorem wt_len : ∀ ms : List Nd, ms.length ≤ (ms.map ndWt).sum
  | [] => by simp
  | m :: r => by
    have := wt_len r
    simp only [List.map_cons, List.sum_cons, List.length_cons, ndWt]; omega
theorem ents_wt : ∀ es : List S_api_Ent, es.length ≤ (es.map fun e => e.Name.size + 1).sum ∧ ∀ e ∈ es, e.Name.size ≤ (es.map fun e => e.Name.size + 1).sum
  | [] => ⟨by simp, fun e he => by cases he⟩
  | e :: r => by
    obtain ⟨h1, h2⟩ := ents_wt r
    simp only [List.map_cons, List.sum_cons, List.length_cons]
    refine ⟨by omega, fun e' he' => ?_⟩
    rcases List.mem_cons.1 he' with rfl | he'
    · omega
    · have := h2 e' he'; omega
theorem small_of {ms : List Nd} (h : (ms.map ndWt).sum ≤ 1048576) : Small ms ∧ Fair ms := by
  have hm : ∀ m ∈ ms, ndWt m ≤ 1048576 := fun m hm => Nat.le_trans (le_sum (List.mem_map.2 ⟨m, hm, rfl⟩)) h
  have hl := wt_len ms
  refine ⟨⟨by omega, fun m hm' => ?_, fun m hm' => ?_⟩, ⟨fun m hm' => ?_, fun m hm' e he => ?_⟩⟩
  · have := hm m hm'; unfold ndWt at this; omega
  · have := hm m hm'; have := (ents_wt m.ents).1; unfold ndWt at *; omega
  · have := hm m hm'; unfold ndWt at this; omega
  · have := hm m hm'; have := (ents_wt m.ents).2 e he; unfold ndWt at *; omega
namespace graphMemory
theorem own : ownKnob Try.prog.godebug = none := by kernel_rfl
theorem contract (H : Type) (enc : TypeId × Value → H) (W : World) (base : Nat) (args : Array Value) (ds gs : List (DataW H)) (before : List MemPlace)
    (hval : ∀ (j : Nat) t v, Try.f3.params[j]? = some t → args[j]? = some v → Value.okWide Try.prog W .any base t v)
    (hW : DataW.Whole enc Try.prog Try.f3.params.toList Rows.graphMemorySpec.vars false W args.toList ds gs before) (hk : Rows.uptoSmall H (ds ++ gs) = true) :
    Calls Try.prog 3 args W fun e W' => ∃ v, e = .returned v ∧ Rows.graphMemorySpec.post enc Try.prog Try.f3 false true false false W args v W' := by
  have hW' := hW
  have hlt := hW.lt
  obtain ⟨p, q, hA0, hV, rfl, hfz, hnd⟩ := hW
  have hA : DataW.TrodAll enc Try.prog W 0 (fun _ => true) true Try.f3.params.toList args.toList ds p := hA0
  have hA1 := hA0
  rw [Try.params3] at hA hval
  obtain ⟨v0, vs0, d0, ds0, p0, q0, hargs, rfl, rfl, h0, r0⟩ := trodAll_cons hA
  obtain ⟨v1, vs1, d1, ds1, p1, q1, rfl, rfl, rfl, h1, r1⟩ := trodAll_cons r0
  obtain ⟨rfl, rfl, rfl⟩ := trodAll_nil r1
  obtain rfl : args = #[v0, v1] := by cases args; simp_all
  obtain ⟨rfl, rfl⟩ := trodVars_none hV
  obtain ⟨root, rfl, rfl, rfl, _⟩ := open_int Try.underlying3 (hval 1 3 v1 rfl rfl) h1
  obtain ⟨cs, rfl, _⟩ := okWide_struct Try.underlying24 (hval 0 24 v0 rfl rfl)
  obtain ⟨n, hn⟩ := h0
  obtain ⟨g, ms, hcs, ⟨xs, hG⟩, hwt⟩ := op_Graph hn
  have hb : Rows.uptoBulkAll ([d0, .lit (.int .i64 root)] ++ []) ≤ 1048576 := of_decide_eq_true hk
  simp only [List.append_nil, Rows.uptoBulkAll, Rows.uptoBulk] at hb
  obtain ⟨hsm, hfa⟩ := small_of (ms := ms) (by simp only at hwt; omega)
  have hv0 : Value.agg cs = S_api_Graph.v g := by
    have : cs.toList = S_api_Graph.cells g := hcs
    simp only [S_api_Graph.v, ← this]
  rw [hv0] at hA1 hW' ⊢
  have hc := C_GraphMemory (root := root) (K := fun b W' => b = true ∧ Ext W W') hG hsm hfa fun w' hE => ⟨rfl, hE⟩
  refine Calls.mono hc ?_
  rintro e W' ⟨b, rfl, rfl, hE⟩
  have hold : ∀ x ∈ p0 ++ ([] ++ []), x.block < W.heap.size := fun x hx => hlt x (by simpa using hx)
  have hag := again_of_ext hE hA1 hold
  refine ⟨_, rfl, post_of_ext (pa := p0 ++ ([] ++ [])) (pv := []) hW' (fun _ _ _ => trodAll_cons_mk (shut_bool Try.underlying4 _) trodAll_mk0) (fun sp hsp => ?_) (fun _ _ => rfl) (by simp) hE (ok_one (by kernel_rfl) rfl (okWide_bool_mk Try.underlying4 _))⟩
  exact DataW.TrodAll.respare (kids_rows (P := Try.prog) (by kernel_rfl) (by kernel_rfl)) (fun t e hT hu => slices_full_of Try.prog (by kernel_rfl) t e hT hu) (by rw [Try.params3]; intro t ht; simp at ht; rcases ht with rfl | rfl <;> decide +kernel) hag (fun x hx => hsp x (by simpa using hx))
set_option maxRecDepth 100000 in
theorem lifted (os : Os) (started : os.Started) (H : Type) (enc : TypeId × Value → H) (F : Stop.Interp) :
    ReturnsInHanded {} Try.checked os 3 .any ((Rows.OpenSpec.upto Rows.graphMemorySpec).pre6 enc Try.prog Try.f3 Rows.graphMemoryUptoRow.domain false) (((Rows.OpenSpec.upto Rows.graphMemorySpec).at F).post enc Try.prog Try.f3 false true false false) := by
  refine returnsInHanded_of_cond (C := Try.checked) (s := Rows.OpenSpec.upto Rows.graphMemorySpec) (k := Rows.uptoSmall) rfl own started (by kernel_rfl) Try.func3
    (OpenSpec.witness (enc := enc) (C := Try.checked) (s := Rows.OpenSpec.upto Rows.graphMemorySpec) (k := Rows.uptoSmall) rfl false ⟨#[], #[.agg #[.slice none 0 0], .int .i64 0], []⟩ 8 (by kernel_rfl) (by kernel_rfl) (by kernel_rfl)
      (x := ([.agg [.nil], .lit (.int .i64 0)], [], [])) (by kernel_rfl) rfl (by kernel_rfl)) ?_
  intro W base args ds gs before hval hW _ hk _
  exact contract H enc W base args ds gs before hval hW hk
/-- THE STATEMENT -/
theorem proved : Rows.GraphMemoryUptoSaid :=
  OpenClaim.holds_of_cond 3 Try.f3 rfl rfl rfl rfl rfl rfl rfl ⟨rfl, rfl, rfl, rfl, rfl⟩ rfl rfl rfl rfl rfl (by kernel_rfl) Try.func3 (by kernel_rfl)
    (of_decide_eq_true (by kernel_rfl)) (by unfold Func.isWrapper; first | (rw [if_pos (by decide +kernel)]; kernel_rfl) | (rw [if_neg (by decide +kernel)]; exact ⟨rfl, rfl⟩))
    (fun os started H enc _ F => lifted os started H enc F)
#print axioms proved
end graphMemory
end Go.Proofs.Ytmmkhlalhalomaa
