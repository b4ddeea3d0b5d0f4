import Derived.Test.YtmmkhlalhalomaaLow
import Derived.Test.YtmmkhlalhalomaaWLast
import Derived.Laws.StructEq
set_option linter.unusedVariables false
set_option linter.unusedSectionVars false
set_option linter.unusedSimpArgs false
namespace Go.Low
open Go
open Go.Proofs.YtmmkhlalhalomaaW.PrintLast (wpAnyLast takeB anyB readyB take_ pure_ one_ last_ done_ wp_region_last)
/-! ## A region whose order is drawn: one walk, in an order that is checked -/
/-- what may be taken whatever the world; a load; something new; what comes alone -/
inductive Md where
  | pure | held | alc | ext | dir
structure Ext (w w' : World) : Prop where
  le : w.heap.size ≤ w'.heap.size
  eq : ∀ k, k < w.heap.size → w'.heap[k]? = w.heap[k]?
  os : w'.os = w.os
  out : w'.output = w.output
theorem Ext.refl (w : World) : Ext w w := ⟨Nat.le_refl _, fun _ _ => rfl, rfl, rfl⟩
theorem Ext.trans {w w' w'' : World} (h : Ext w w') (h' : Ext w' w'') : Ext w w'' :=
  ⟨Nat.le_trans h.1 h'.1, fun k hk => by rw [h'.2 k (Nat.lt_of_lt_of_le hk h.1), h.2 k hk], h'.os.trans h.os, h'.out.trans h.out⟩
theorem Ext.alloc {w w' : World} (h : Ext w w') (o : Obj) : Ext w (w'.alloc o) :=
  ⟨by simp; have := h.1; omega, fun k hk => by rw [heap_alloc, if_neg (by have := h.1; omega), h.2 k hk], h.os, h.out⟩
theorem Ext.cell {w w' : World} (h : Ext w w') {b : Addr} {v : Value} (hc : w.cell? b = some v) : w'.cell? b = some v := by
  have hlt := World.block_lt_of_cell? w b hc
  have := h.2 b.block hlt
  simpa [World.cell?, this] using hc
theorem Ext.cells {w w' : World} (h : Ext w w') {b : Addr} {cs : List Value} : ∀ {i : Nat}, CellsAt w b i cs → CellsAt w' b i cs := by
  induction cs with
  | nil => intro i _; trivial
  | cons c r ih => intro i hc; exact ⟨h.cell hc.1, ih hc.2⟩
theorem Ext.mes {w w' : World} (h : Ext w w') {td : TypeDesc} {m : Option Nat} {es : Array MapEntry} (hm : mes w td m es) : mes w' td m es := by
  obtain ⟨h1 | ⟨b, c, hb, hh⟩, h2⟩ := hm
  · exact ⟨.inl h1, h2⟩
  · exact ⟨.inr ⟨b, c, hb, by rw [h.2 b (Array.getElem?_eq_some_iff.1 hh).1, hh]⟩, h2⟩
section
variable {P : Program} {ops : Array Oper} {Q : Exit → Act → World → Prop} {a : Act} {w : World} {rest : List Oper} {n d s t ty : Nat} {l : Env} {pos : String} {af : Array Edge}
/-- the walk in the order that was chosen -/
def wpM (P : Program) (ops : Array Oper) (Q : Exit → Act → World → Prop) (S : World → Prop) : List Md → List Oper → Act → World → Prop
  | _, [], a, w => Q .normal a w
  | .pure :: ms, o :: r, a, w => ∃ v, Yields P ops o v a ∧ wpM P ops Q S ms r (a.put o.dst v) w
  | .held :: ms, o :: r, a, w => ∃ v, YieldsIf P ops S o v a ∧ wpM P ops Q S ms r (a.put o.dst v) w
  | .alc :: ms, o :: r, a, w => if Region.wanted o (yielded ops a.tmps) = true then ∃ v o', (execOp a.eval o).run P w = .ok (.value v) (w.alloc o') ∧ wpM P ops Q S ms r (a.put o.dst v) (w.alloc o') else wpM P ops Q S ms r (a.put o.dst undef) w
  | .ext :: ms, o :: r, a, w => if Region.wanted o (yielded ops a.tmps) = true then o.wp P a w (fun a' w' => (S w → S w') ∧ wpM P ops Q S ms r a' w') (NoPanic Q) else wpM P ops Q S ms r (a.put o.dst undef) w
  | .dir :: ms, o :: r, a, w => if Region.wanted o (yielded ops a.tmps) = true then o.wp P a w (wpM P ops Q S ms r) (NoPanic Q) else wpM P ops Q S ms r (a.put o.dst undef) w
  | [], _ :: _, _, _ => False
def tailOk : List Md → Bool
  | [] => true
  | .pure :: r => tailOk r
  | .dir :: r => tailOk r
  | _ :: _ => false
theorem tailOk_spec : ∀ {ms : List Md}, tailOk ms = true → ∀ m ∈ ms, m ≠ .held ∧ m ≠ .alc ∧ m ≠ .ext
  | [], _, m, hm => by cases hm
  | .pure :: r, h, m, hm => by
    cases hm with
    | head => exact ⟨by simp, by simp, by simp⟩
    | tail _ hm => exact tailOk_spec (ms := r) h m hm
  | .dir :: r, h, m, hm => by
    cases hm with
    | head => exact ⟨by simp, by simp, by simp⟩
    | tail _ hm => exact tailOk_spec (ms := r) h m hm
  | .held :: r, h, m, hm => by simp [tailOk] at h
  | .alc :: r, h, m, hm => by simp [tailOk] at h
  | .ext :: r, h, m, hm => by simp [tailOk] at h
def chk (ops : Array Oper) (ds : List Nat) : List Nat → List Md → Array Bool → Bool
  | [], _, l => Region.ready .any ops l == []
  | i :: r, .pure :: ms, l => anyB .any ops l (l.setIfInBounds i true) i && chk ops ds r ms (l.setIfInBounds i true)
  | i :: r, .held :: ms, l => takeB .any ops ds l (l.setIfInBounds i true) i && chk ops ds r ms (l.setIfInBounds i true)
  | i :: r, .alc :: ms, l => readyB .any ops l (l.setIfInBounds i true) i && !ds.contains i && chk ops ds r ms (l.setIfInBounds i true)
  | i :: r, .ext :: ms, l => readyB .any ops l (l.setIfInBounds i true) i && !ds.contains i && chk ops ds r ms (l.setIfInBounds i true)
  | i :: r, .dir :: ms, l => readyB .any ops l (l.setIfInBounds i true) i && ds.contains i && tailOk ms && chk ops ds r ms (l.setIfInBounds i true)
  | _ :: _, [], _ => false
def pickO (ops : Array Oper) : List Nat → List Oper
  | [] => []
  | i :: r => match ops[i]? with
    | some o => o :: pickO ops r
    | none => []
def allIn (n : Nat) : List Nat → Bool
  | [] => true
  | i :: r => Nat.blt i n && allIn n r
theorem wpM_sound {ds : List Nat} {S : World → Prop} (hA : ∀ w o, S w → S (World.alloc w o)) : ∀ (ord : List Nat) (ms : List Md) (fuel : Nat) (lb : Array Bool) (a : Act) (w : World), ord.length ≤ fuel → allIn ops.size ord = true → chk ops ds ord ms lb = true → (S w ∨ ∀ m ∈ ms, m ≠ .held ∧ m ≠ .alc ∧ m ≠ .ext) →
    wpM P ops Q S ms (pickO ops ord) a w → wpAnyLast P .any ops (NoPanic Q) S ds fuel lb a w
  | [], ms, fuel, lb, a, w, _, _, hc, _, h => by
    refine done_ (by simpa [chk] using hc) ?_
    have : Q .normal a w := by cases ms <;> simpa [pickO, wpM] using h
    exact this
  | i :: r, ms, fuel, lb, a, w, hf, hin, hc, hS, h => by
    obtain ⟨fuel, rfl⟩ : ∃ k, fuel = k + 1 := ⟨fuel - 1, by simp at hf; omega⟩
    simp only [List.length_cons, Nat.add_le_add_iff_right] at hf
    simp only [allIn, Bool.and_eq_true] at hin
    obtain ⟨hi, hin⟩ := hin
    have hi' : i < ops.size := by simpa using hi
    obtain ⟨o, ho⟩ : ∃ o, ops[i]? = some o := ⟨_, Array.getElem?_eq_getElem hi'⟩
    simp only [pickO, ho] at h
    cases ms with
    | nil => simp [chk] at hc
    | cons m ms =>
      cases m with
      | pure =>
        simp only [chk, Bool.and_eq_true] at hc
        obtain ⟨v, hy, h⟩ := h
        exact pure_ _ ho rfl hc.1 (fun c a w h => h) hy rfl (wpM_sound hA r ms fuel _ _ _ hf hin hc.2 (hS.imp id fun h m hm => h m (.tail _ hm)) h)
      | held =>
        simp only [chk, Bool.and_eq_true] at hc
        obtain ⟨v, hy, h⟩ := h
        have hE : S w := hS.resolve_right fun h => (h .held (.head _)).1 rfl
        exact take_ _ ho rfl hc.1 (fun c a w h => h) hy hE rfl (wpM_sound hA r ms fuel _ _ _ hf hin hc.2 (.inl hE) h)
      | alc =>
        simp only [chk, Bool.and_eq_true] at hc
        obtain ⟨⟨hc1, hc2⟩, hc⟩ := hc
        have hE : S w := hS.resolve_right fun h => (h .alc (.head _)).2.1 rfl
        refine one_ _ ho rfl hc1 (by simpa using hc2) fun K hK => ?_
        simp only [wpM] at h
        split at h
        · rename_i hw
          obtain ⟨v, o', hr, h⟩ := h
          rw [if_pos hw]
          unfold Oper.wp
          rw [hr]
          exact hK _ _ (hA _ o' hE) fun _ => wpM_sound hA r ms fuel _ _ _ hf hin hc (.inl (hA _ o' hE)) h
        · rename_i hw
          rw [if_neg hw]
          exact hK _ _ hE fun _ => wpM_sound hA r ms fuel _ _ _ hf hin hc (.inl hE) h
      | ext =>
        simp only [chk, Bool.and_eq_true] at hc
        obtain ⟨⟨hc1, hc2⟩, hc⟩ := hc
        have hE : S w := hS.resolve_right fun h => (h .ext (.head _)).2.2 rfl
        refine one_ _ ho rfl hc1 (by simpa using hc2) fun K hK => ?_
        simp only [wpM] at h
        split at h
        · rename_i hw
          rw [if_pos hw]
          exact Oper.wp_mono (fun a' w' h => hK _ _ (h.1 hE) fun _ => wpM_sound hA r ms fuel _ _ _ hf hin hc (.inl (h.1 hE)) h.2) h
        · rename_i hw
          rw [if_neg hw]
          exact hK _ _ hE fun _ => wpM_sound hA r ms fuel _ _ _ hf hin hc (.inl hE) h
      | dir =>
        simp only [chk, Bool.and_eq_true] at hc
        obtain ⟨⟨⟨hc1, hc2⟩, ht⟩, hc⟩ := hc
        refine last_ _ ho rfl hc1 (by simpa using hc2) fun K hK => ?_
        have next : ∀ a w, wpM P ops Q S ms (pickO ops r) a w → K a w := fun a w h => hK _ _ (wpM_sound hA r ms fuel _ _ _ hf hin hc (.inr (tailOk_spec ht)) h)
        simp only [wpM] at h
        split at h
        · rename_i hw
          rw [if_pos hw]
          exact Oper.wp_mono next h
        · rename_i hw
          rw [if_neg hw]
          exact next _ _ h

/-- the world behind the draw -/
def dr (w : World) (K : World → Prop) : Prop := K w.drew
theorem dr_ {id : Nat} {os : List Oper} {K : World → Prop} (ds ord : List Nat) (ms : List Md) (hm : P.follows .mixedOrders = true) (hc : chk os.toArray ds ord ms (Array.replicate os.length false) = true) (hn : Nat.ble ord.length os.length = true) (hi : allIn os.length ord = true)
    (A : Ag n l a) (hh : dr w K) (k : ∀ R : Exit → Act → World → Prop, (∀ a w, Q .normal a w → R .normal a w) → ∀ w a', Ag n l a' → K w → wpM P os.toArray R (Ext w) ms (pickO os.toArray ord) a' w) : (Code.region id os.toArray true).wp P Q a w := by
  refine wp_region_noPanic ?_
  refine wp_region_last (S := Ext w.drew) (ds := ds) hm ?_
  have := wpM_sound (P := P) (Q := Q) (ops := os.toArray) (ds := ds) (S := Ext w.drew) (fun _ o h => h.alloc o) ord ms os.toArray.size (Array.replicate os.toArray.size false) a w.drew (by simpa using Nat.le_of_ble_eq_true hn) (by simpa using hi) (by simpa using hc) (.inl (Ext.refl _)) (k Q (fun _ _ h => h) _ a A hh)
  exact this
def dr2 (w : World) (K : World → World → Prop) : Prop := K w.drew w.drew
theorem dr2_ {id : Nat} {os : List Oper} {K : World → World → Prop} (ds ord : List Nat) (ms : List Md) (hm : P.follows .mixedOrders = true) (hc : chk os.toArray ds ord ms (Array.replicate os.length false) = true) (hn : Nat.ble ord.length os.length = true) (hi : allIn os.length ord = true)
    (A : Ag n l a) (hh : dr2 w K) (k : ∀ R : Exit → Act → World → Prop, (∀ a w, Q .normal a w → R .normal a w) → ∀ w a', Ag n l a' → K w w → wpM P os.toArray R (Ext w) ms (pickO os.toArray ord) a' w) : (Code.region id os.toArray true).wp P Q a w :=
  dr_ (K := fun w => K w w) ds ord ms hm hc hn hi A hh k
/-! ### the steps: G is shown by a step to N -/
def Pur (P : Program) (o : Oper) (a : Act) (w : World) (N : Act → World → Prop) (G : Prop) : Prop := ∀ v, (∀ w, (execOp a.eval o).run P w = .ok (.value v) w) → N (a.put o.dst v) w → G
def Hld (P : Program) (o : Oper) (a : Act) (w : World) (N : Act → World → Prop) (G : Prop) : Prop := ∀ v, (∀ w', Ext w w' → (execOp a.eval o).run P w' = .ok (.value v) w') → N (a.put o.dst v) w → G
def Alc (P : Program) (o : Oper) (a : Act) (w : World) (N : Act → World → Prop) (G : Prop) : Prop := ∀ v o', (execOp a.eval o).run P w = .ok (.value v) (w.alloc o') → N (a.put o.dst v) (w.alloc o') → G
def Exd (P : Program) (Q : Exit → Act → World → Prop) (o : Oper) (a : Act) (w : World) (N : Act → World → Prop) (G : Prop) : Prop := (∀ K : Act → World → Prop, (∀ a' w', Ext w w' → N a' w' → K a' w') → o.wp P a w K Q) → G
def Dir (P : Program) (Q : Exit → Act → World → Prop) (o : Oper) (a : Act) (w : World) (N : Act → World → Prop) (G : Prop) : Prop := (∀ K : Act → World → Prop, (∀ a w, N a w → K a w) → o.wp P a w K Q) → G
section
variable {w0 : World} {S : World → Prop} {ms : List Md} {o : Oper}
theorem pM (hg : o.guard = none) : Pur P o a w (wpM P ops Q S ms rest) (wpM P ops Q S (.pure :: ms) (o :: rest) a w) := fun v hr h => ⟨v, .inl ⟨by simp [Region.wanted, hg], hr⟩, h⟩
theorem hM (hg : o.guard = none) : Hld P o a w (wpM P ops Q (Ext w) ms rest) (wpM P ops Q (Ext w) (.held :: ms) (o :: rest) a w) := fun v hr h => ⟨v, .inl ⟨by simp [Region.wanted, hg], hr⟩, h⟩
theorem hM0 (hg : o.guard = none) : Hld P o a w0 (fun a' _ => wpM P ops Q (Ext w0) ms rest a' w) (wpM P ops Q (Ext w0) (.held :: ms) (o :: rest) a w) := fun v hr h => ⟨v, .inl ⟨by simp [Region.wanted, hg], hr⟩, h⟩
theorem aM (hg : o.guard = none) : Alc P o a w (wpM P ops Q S ms rest) (wpM P ops Q S (.alc :: ms) (o :: rest) a w) := fun v o' hr h => by
  simp only [wpM]; rw [if_pos (by simp [Region.wanted, hg])]; exact ⟨v, o', hr, h⟩
theorem dM (hg : o.guard = none) : Dir P (NoPanic Q) o a w (wpM P ops Q S ms rest) (wpM P ops Q S (.dir :: ms) (o :: rest) a w) := fun h => by
  simp only [wpM]; rw [if_pos (by simp [Region.wanted, hg])]; exact h _ fun _ _ h => h
theorem eM (hg : o.guard = none) : Exd P (NoPanic Q) o a w (wpM P ops Q (Ext w0) ms rest) (wpM P ops Q (Ext w0) (.ext :: ms) (o :: rest) a w) := fun h => by
  simp only [wpM]; rw [if_pos (by simp [Region.wanted, hg])]; exact h _ fun _ _ h1 h2 => ⟨fun h => h.trans h1, h2⟩
theorem nRM {R : Exit → Act → World → Prop} (hR : ∀ a w, Q .normal a w → R .normal a w) (h : Q .normal a w) : wpM P ops R S ms [] a w := by cases ms <;> exact hR _ _ h
theorem nM (h : Q .normal a w) : wpM P ops Q S ms [] a w := by cases ms <;> exact h
/-- guards -/
theorem gyM_ {m : Md} {op : Op} {dst : Option Tmp} {j t : Nat} {want : Bool} (A : Ag n l a) (ht : Nat.blt t n = true) (hj : (ops[j]?).bind (·.dst) = some t) (hl : look l t = some (.bool want))
    (h : wpM P ops Q S (m :: ms) (⟨dst, op, ty, pos, af, none⟩ :: rest) a w) : wpM P ops Q S (m :: ms) (⟨dst, op, ty, pos, af, some (j, want)⟩ :: rest) a w := by
  have hw := wanted_of (o := ⟨dst, op, ty, pos, af, none⟩) (want := want) A (by simpa using ht) hj hl
  have h1 : Region.wanted ⟨dst, op, ty, pos, af, some (j, want)⟩ (yielded ops a.tmps) = true := by rw [hw]; simp
  have h2 : Region.wanted ⟨dst, op, ty, pos, af, none⟩ (yielded ops a.tmps) = true := rfl
  cases m with
  | pure =>
    obtain ⟨v, hy, h⟩ := h
    rcases hy with ⟨_, hy⟩ | ⟨hn, _⟩
    · exact ⟨v, .inl ⟨h1, hy⟩, h⟩
    · rw [h2] at hn; cases hn
  | held =>
    obtain ⟨v, hy, h⟩ := h
    rcases hy with ⟨_, hy⟩ | ⟨hn, _⟩
    · exact ⟨v, .inl ⟨h1, hy⟩, h⟩
    · rw [h2] at hn; cases hn
  | alc => simp only [wpM] at h ⊢; rw [if_pos h2] at h; rw [if_pos h1]; exact h
  | ext => simp only [wpM] at h ⊢; rw [if_pos h2] at h; rw [if_pos h1]; exact h
  | dir => simp only [wpM] at h ⊢; rw [if_pos h2] at h; rw [if_pos h1]; exact h
theorem unM_ {m : Md} {op : Op} {g : Nat × Bool} (A : Ag n l a) (hd : Nat.blt d n = true) (hw : Region.wanted ⟨some d, op, ty, pos, af, some g⟩ (yielded ops a.tmps) = false)
    (k : ∀ a', Ag n ((d, undef) :: l) a' → wpM P ops Q S ms rest a' w) : wpM P ops Q S (m :: ms) (⟨some d, op, ty, pos, af, some g⟩ :: rest) a w := by
  have hk := k _ (A.put hd undef)
  cases m with
  | pure => exact ⟨undef, .inr ⟨hw, rfl⟩, hk⟩
  | held => exact ⟨undef, .inr ⟨hw, rfl⟩, hk⟩
  | alc => simp only [wpM]; rw [if_neg (by rw [hw]; simp)]; exact hk
  | ext => simp only [wpM]; rw [if_neg (by rw [hw]; simp)]; exact hk
  | dir => simp only [wpM]; rw [if_neg (by rw [hw]; simp)]; exact hk
theorem gnM_ {m : Md} {op : Op} {j t : Nat} {b want : Bool} (A : Ag n l a) (hd : Nat.blt d n = true) (ht : Nat.blt t n = true) (hj : (ops[j]?).bind (·.dst) = some t) (hl : look l t = some (.bool b)) (hb : (b == want) = false)
    (k : ∀ a', Ag n ((d, undef) :: l) a' → wpM P ops Q S ms rest a' w) : wpM P ops Q S (m :: ms) (⟨some d, op, ty, pos, af, some (j, want)⟩ :: rest) a w :=
  unM_ A hd (by rw [show (⟨some d, op, ty, pos, af, some (j, want)⟩ : Oper) = { (⟨some d, op, ty, pos, af, none⟩ : Oper) with guard := some (j, want) } from rfl, wanted_of A (by simpa using ht) hj hl, hb]) k
theorem guM_ {m : Md} {op : Op} {j t : Nat} {want : Bool} (A : Ag n l a) (hd : Nat.blt d n = true) (ht : Nat.blt t n = true) (hj : (ops[j]?).bind (·.dst) = some t) (hl : look l t = some undef)
    (k : ∀ a', Ag n ((d, undef) :: l) a' → wpM P ops Q S ms rest a' w) : wpM P ops Q S (m :: ms) (⟨some d, op, ty, pos, af, some (j, want)⟩ :: rest) a w :=
  unM_ A hd (by rw [show (⟨some d, op, ty, pos, af, some (j, want)⟩ : Oper) = { (⟨some d, op, ty, pos, af, none⟩ : Oper) with guard := some (j, want) } from rfl, unwanted_of A (by simpa using ht) hj hl]) k
end
variable {N : Act → World → Prop} {G : Prop}
theorem op_valP {op : Op} {v : Value} (g : Pur P ⟨some d, op, ty, pos, af, none⟩ a w N G) (A : Ag n l a) (hd : Nat.blt d n = true) (hr : ∀ w, (execOp a.eval ⟨some d, op, ty, pos, af, none⟩).run P w = .ok (.value v) w) (k : ∀ a', Ag n ((d, v) :: l) a' → N a' w) : G := g v hr (k _ (A.put hd v))
theorem op_valH {op : Op} {v : Value} (g : Hld P ⟨some d, op, ty, pos, af, none⟩ a w N G) (A : Ag n l a) (hd : Nat.blt d n = true) (hr : ∀ w', Ext w w' → (execOp a.eval ⟨some d, op, ty, pos, af, none⟩).run P w' = .ok (.value v) w') (k : ∀ a', Ag n ((d, v) :: l) a' → N a' w) : G := g v hr (k _ (A.put hd v))
theorem op_valA {op : Op} {v : Value} {o' : Obj} (g : Alc P ⟨some d, op, ty, pos, af, none⟩ a w N G) (A : Ag n l a) (hd : Nat.blt d n = true) (hr : (execOp a.eval ⟨some d, op, ty, pos, af, none⟩).run P w = .ok (.value v) (w.alloc o')) (k : ∀ a', Ag n ((d, v) :: l) a' → N a' (w.alloc o')) : G := g v o' hr (k _ (A.put hd v))
theorem op_valR {op : Op} {v : Value} {w' : World} (g : Dir P Q ⟨some d, op, ty, pos, af, none⟩ a w N G) (A : Ag n l a) (hd : Nat.blt d n = true) (hr : (execOp a.eval ⟨some d, op, ty, pos, af, none⟩).run P w = .ok (.value v) w') (k : ∀ a', Ag n ((d, v) :: l) a' → N a' w') : G :=
  g fun K hK => by unfold Oper.wp; rw [hr]; exact hK _ _ (k _ (A.put hd v))
theorem op_noneR {op : Op} {w' : World} (g : Dir P Q ⟨none, op, ty, pos, af, none⟩ a w N G) (A : Ag n l a) (hr : (execOp a.eval ⟨none, op, ty, pos, af, none⟩).run P w = .ok .skip w') (k : ∀ a', Ag n l a' → N a' w') : G :=
  g fun K hK => by unfold Oper.wp; rw [hr]; exact hK _ _ (k _ A)
theorem mvD_ {x : Operand} {v : Value} (g : Pur P ⟨some d, .move x, ty, pos, af, none⟩ a w N G) (A : Ag n l a) (hd : Nat.blt d n = true) (h : opd l x = some v)
    (k : ∀ a', Ag n ((d, v) :: l) a' → N a' w) : G :=
  op_valP g A hd (fun w => by simp [execOp, A.opd h]) k

theorem asD_ {x : Operand} {v : Value} (g : Pur P ⟨some d, .assign x, ty, pos, af, none⟩ a w N G) (A : Ag n l a) (hd : Nat.blt d n = true) (h : opd l x = some v)
    (k : ∀ a', Ag n ((d, v) :: l) a' → N a' w) : G :=
  op_valP g A hd (fun w => by simp [execOp, A.opd h]) k


theorem nnD_ {x : Operand} {p : Option Addr} {K : Addr → Prop} (g : Pur P ⟨some d, .nilCheck x, ty, pos, af, none⟩ a w N G) (A : Ag n l a) (hd : Nat.blt d n = true) (h : opd l x = some (.pointer p)) (hh : nn p K)
    (k : ∀ b a', Ag n ((d, .pointer (some b)) :: l) a' → K b → N a' w) : G := by
  obtain ⟨b, rfl, hK⟩ := hh
  exact op_valP g A hd (fun w => by simp [execOp, A.opd h]) fun a' A' => k b a' A' hK

theorem nsD_ {x : Operand} {b : Addr} (g : Pur P ⟨some d, .nilCheck x, ty, pos, af, none⟩ a w N G) (A : Ag n l a) (hd : Nat.blt d n = true) (h : opd l x = some (.pointer (some b)))
    (k : ∀ a', Ag n ((d, .pointer (some b)) :: l) a' → N a' w) : G :=
  op_valP g A hd (fun w => by simp [execOp, A.opd h]) k


theorem faD_ {x : Operand} {T k off : Nat} {b : Addr} (g : Pur P ⟨some d, .fieldAddr T x k, ty, pos, af, none⟩ a w N G) (A : Ag n l a) (hd : Nat.blt d n = true) (h : opd l x = some (.pointer (some b))) (hf : fldOf P T k = some off)
    (kk : ∀ a', Ag n ((d, .pointer (some (b.add off))) :: l) a' → N a' w) : G :=
  op_valP g A hd (fun w => by simp [execOp, A.opd h, run_fieldAt hf]) kk


theorem notD_ {x : Operand} {b : Bool} {t : TypeId} (g : Pur P ⟨some d, .unOp .not t x, ty, pos, af, none⟩ a w N G) (A : Ag n l a) (hd : Nat.blt d n = true) (hx : opd l x = some (.bool b)) (k : ∀ a', Ag n ((d, .bool (!b)) :: l) a' → N a' w) :
    G := op_valP g A hd (fun w => by simp [execOp, A.opd hx, Op.unary]) k

theorem pktD_ {c x y : Operand} {v : Value} (g : Pur P ⟨some d, .pick c x y, ty, pos, af, none⟩ a w N G) (A : Ag n l a) (hd : Nat.blt d n = true) (hc : opd l c = some (.bool true)) (hx : opd l x = some v) (k : ∀ a', Ag n ((d, v) :: l) a' → N a' w) :
    G := op_valP g A hd (fun w => by simp [execOp, A.opd hc, A.opd hx, asBool]) k

theorem pkfD_ {c x y : Operand} {v : Value} (g : Pur P ⟨some d, .pick c x y, ty, pos, af, none⟩ a w N G) (A : Ag n l a) (hd : Nat.blt d n = true) (hc : opd l c = some (.bool false)) (hx : opd l y = some v) (k : ∀ a', Ag n ((d, v) :: l) a' → N a' w) :
    G := op_valP g A hd (fun w => by simp [execOp, A.opd hc, A.opd hx, asBool]) k

theorem exD_ {x : Operand} {vs : Array Value} {i : Nat} {v : Value} (g : Pur P ⟨some d, .extract x i, ty, pos, af, none⟩ a w N G) (A : Ag n l a) (hd : Nat.blt d n = true) (hx : opd l x = some (.tuple vs)) (hv : vs[i]? = some v) (k : ∀ a', Ag n ((d, v) :: l) a' → N a' w) :
    G := op_valP g A hd (fun w => by simp [execOp, A.opd hx, Instr.extract, hv]) k

theorem miD_ {x : Operand} {T : Nat} {v : Value} (g : Pur P ⟨some d, .makeInterface T x, ty, pos, af, none⟩ a w N G) (A : Ag n l a) (hd : Nat.blt d n = true) (hx : opd l x = some v) (hT : ∀ ms, P.underlying T ≠ some (.interface ms)) (hu : (P.underlying T).isSome = true) (k : ∀ a', Ag n ((d, ifc (some (T, v))) :: l) a' → N a' w) :
    G := op_valP g A hd (fun w => by
      obtain ⟨dd, hdd⟩ := Option.isSome_iff_exists.1 hu
      cases dd <;> first | (exact absurd hdd (hT _)) | simp [execOp, A.opd hx, Instr.makeInterface, run_underlying hdd, ifc]) k


theorem bdD_ {T : Nat} {ps : List (Nat × Operand)} {is : List Nat} {vs : List Value} {v : Value} (g : Pur P ⟨some d, .build T ps.toArray, ty, pos, af, none⟩ a w N G) (A : Ag n l a) (hd : Nat.blt d n = true) (hx : opds l (ps.map (·.2)) = some vs) (hi : ps.map (·.1) = is) (hb : ∀ w, (Instr.build T (is.zip vs).toArray).run P w = .ok v w)
    (k : ∀ a', Ag n ((d, v) :: l) a' → N a' w) : G := by
  subst hi
  refine op_valP g A hd (fun w => ?_) k
  have h := A.opds hx
  have : (ps.toArray.map fun x => (x.1, a.eval x.2)) = ((ps.map (·.1)).zip vs).toArray := by
    rw [← h]
    simp [List.zip_map, List.zip_eq_zipWith, List.zipWith_self] 
  simp only [execOp]
  rw [show (ps.toArray.map fun x => match x with | (i, x) => (i, a.eval x)) = ((ps.map (·.1)).zip vs).toArray from this]
  simp [hb]

theorem nniD_ {x : Operand} {o : Option (Nat × Value)} {X : Prop} (g : Pur P ⟨some d, .nilCheck x, ty, pos, af, none⟩ a w N G) (A : Ag n l a) (hd : Nat.blt d n = true) (h : opd l x = some (ifc o)) (hh : o ≠ none ∧ X)
    (k : ∀ a', Ag n ((d, ifc o) :: l) a' → X → N a' w) : G := by
  obtain ⟨hn, hX⟩ := hh
  cases o with
  | none => exact absurd rfl hn
  | some p => exact op_valP g A hd (fun w => by simp [execOp, A.opd h, ifc]) fun a' A' => k a' A' hX

section
variable {x y : Operand} {t yt : TypeId} {kd : IntKind} {i j : Int} {p q : ByteArray} {b c : Bool}
theorem biD_ {op : BinOp} {u v r : Value} (g : Pur P ⟨some d, .binOp op t x y yt, ty, pos, af, none⟩ a w N G) (A : Ag n l a) (hd : Nat.blt d n = true) (hx : opd l x = some u) (hy : opd l y = some v) (hg : ∀ w ox oy, (eqGuard op t ox oy u v).run P w = .ok () w) (hr : ∀ w, (binOp op t u v).run P w = .ok r w)
    (k : ∀ a', Ag n ((d, r) :: l) a' → N a' w) : G := op_valP g A hd (fun w => run_bin A hx hy (hg w) (hr w)) k

theorem addD_ (g : Pur P ⟨some d, .binOp .add t x y yt, ty, pos, af, none⟩ a w N G) (A : Ag n l a) (hd : Nat.blt d n = true) (hx : opd l x = some (.int .i64 i)) (hy : opd l y = some (.int .i64 j)) (k : ∀ a', Ag n ((d, .int .i64 (w64 (i + j))) :: l) a' → N a' w) :
    G := biD_ g A hd hx hy (fun _ _ _ => rfl) (fun w => by rw [binOp_add]; rfl) k

theorem subD_ (g : Pur P ⟨some d, .binOp .sub t x y yt, ty, pos, af, none⟩ a w N G) (A : Ag n l a) (hd : Nat.blt d n = true) (hx : opd l x = some (.int .i64 i)) (hy : opd l y = some (.int .i64 j)) (k : ∀ a', Ag n ((d, .int .i64 (w64 (i - j))) :: l) a' → N a' w) :
    G := biD_ g A hd hx hy (fun _ _ _ => rfl) (fun w => by rw [binOp_sub]; rfl) k

theorem mulD_ (g : Pur P ⟨some d, .binOp .mul t x y yt, ty, pos, af, none⟩ a w N G) (A : Ag n l a) (hd : Nat.blt d n = true) (hx : opd l x = some (.int .i64 i)) (hy : opd l y = some (.int .i64 j)) (k : ∀ a', Ag n ((d, .int .i64 (w64 (i * j))) :: l) a' → N a' w) :
    G := biD_ g A hd hx hy (fun _ _ _ => rfl) (fun w => by rw [binOp_mul]; rfl) k

theorem quoD_ (g : Pur P ⟨some d, .binOp .quo t x y yt, ty, pos, af, none⟩ a w N G) (A : Ag n l a) (hd : Nat.blt d n = true) (hx : opd l x = some (.int .i64 i)) (hy : opd l y = some (.int .i64 j)) {X : Prop} (hh : j ≠ 0 ∧ X) (k : ∀ a', Ag n ((d, .int .i64 (w64 (i.tdiv j))) :: l) a' → X → N a' w) :
    G := biD_ g A hd hx hy (fun _ _ _ => rfl) (fun w => by rw [binOp_quo]; simp [Op.intDiv, hh.1]; rfl) fun a' A' => k a' A' hh.2

theorem remD_ (g : Pur P ⟨some d, .binOp .rem t x y yt, ty, pos, af, none⟩ a w N G) (A : Ag n l a) (hd : Nat.blt d n = true) (hx : opd l x = some (.int kd i)) (hy : opd l y = some (.int kd j)) {X : Prop} (hh : j ≠ 0 ∧ X) (k : ∀ a', Ag n ((d, .int kd (i.tmod j)) :: l) a' → X → N a' w) :
    G := biD_ g A hd hx hy (fun _ _ _ => rfl) (fun w => by rw [binOp_rem]; simp [Op.intDiv, hh.1]) fun a' A' => k a' A' hh.2

theorem addkD_ (g : Pur P ⟨some d, .binOp .add t x y yt, ty, pos, af, none⟩ a w N G) (A : Ag n l a) (hd : Nat.blt d n = true) (hx : opd l x = some (.int kd i)) (hy : opd l y = some (.int kd j)) (k : ∀ a', Ag n ((d, .int kd (kd.wrap (i + j))) :: l) a' → N a' w) :
    G := biD_ g A hd hx hy (fun _ _ _ => rfl) (fun w => by rw [binOp_add]; simp [Op.intArith]) k

theorem subkD_ (g : Pur P ⟨some d, .binOp .sub t x y yt, ty, pos, af, none⟩ a w N G) (A : Ag n l a) (hd : Nat.blt d n = true) (hx : opd l x = some (.int kd i)) (hy : opd l y = some (.int kd j)) (k : ∀ a', Ag n ((d, .int kd (kd.wrap (i - j))) :: l) a' → N a' w) :
    G := biD_ g A hd hx hy (fun _ _ _ => rfl) (fun w => by rw [binOp_sub]; simp [Op.intArith]) k

theorem andD_ (g : Pur P ⟨some d, .binOp .and t x y yt, ty, pos, af, none⟩ a w N G) (A : Ag n l a) (hd : Nat.blt d n = true) (hx : opd l x = some (.int kd i)) (hy : opd l y = some (.int kd j)) (k : ∀ a', Ag n ((d, .int kd (bits .and kd i j)) :: l) a' → N a' w) :
    G := biD_ g A hd hx hy (fun _ _ _ => rfl) (fun w => by rw [binOp_and, intBits_and]; rfl) k

theorem eqD_ (g : Pur P ⟨some d, .binOp .eql t x y yt, ty, pos, af, none⟩ a w N G) (A : Ag n l a) (hd : Nat.blt d n = true) (hx : opd l x = some (.int kd i)) (hy : opd l y = some (.int kd j)) (k : ∀ a', Ag n ((d, .bool (decide (i = j))) :: l) a' → N a' w) :
    G := biD_ g A hd hx hy (fun _ _ _ => rfl) (fun w => by rw [binOp_eql]; simp; rfl) k

theorem neD_ (g : Pur P ⟨some d, .binOp .neq t x y yt, ty, pos, af, none⟩ a w N G) (A : Ag n l a) (hd : Nat.blt d n = true) (hx : opd l x = some (.int kd i)) (hy : opd l y = some (.int kd j)) (k : ∀ a', Ag n ((d, .bool (!decide (i = j))) :: l) a' → N a' w) :
    G := biD_ g A hd hx hy (fun _ _ _ => rfl) (fun w => by rw [binOp_neq]; simp; rfl) k

theorem ltD_ (g : Pur P ⟨some d, .binOp .lss t x y yt, ty, pos, af, none⟩ a w N G) (A : Ag n l a) (hd : Nat.blt d n = true) (hx : opd l x = some (.int kd i)) (hy : opd l y = some (.int kd j)) (k : ∀ a', Ag n ((d, .bool (decide (i < j))) :: l) a' → N a' w) :
    G := biD_ g A hd hx hy (fun _ _ _ => rfl) (fun w => by rw [binOp_lss]; rfl) k

theorem leD_ (g : Pur P ⟨some d, .binOp .leq t x y yt, ty, pos, af, none⟩ a w N G) (A : Ag n l a) (hd : Nat.blt d n = true) (hx : opd l x = some (.int kd i)) (hy : opd l y = some (.int kd j)) (k : ∀ a', Ag n ((d, .bool (decide (i ≤ j))) :: l) a' → N a' w) :
    G := biD_ g A hd hx hy (fun _ _ _ => rfl) (fun w => by rw [binOp_leq]; rfl) k

theorem gtD_ (g : Pur P ⟨some d, .binOp .gtr t x y yt, ty, pos, af, none⟩ a w N G) (A : Ag n l a) (hd : Nat.blt d n = true) (hx : opd l x = some (.int kd i)) (hy : opd l y = some (.int kd j)) (k : ∀ a', Ag n ((d, .bool (decide (j < i))) :: l) a' → N a' w) :
    G := biD_ g A hd hx hy (fun _ _ _ => rfl) (fun w => by rw [binOp_gtr]; rfl) k

theorem geD_ (g : Pur P ⟨some d, .binOp .geq t x y yt, ty, pos, af, none⟩ a w N G) (A : Ag n l a) (hd : Nat.blt d n = true) (hx : opd l x = some (.int kd i)) (hy : opd l y = some (.int kd j)) (k : ∀ a', Ag n ((d, .bool (decide (j ≤ i))) :: l) a' → N a' w) :
    G := biD_ g A hd hx hy (fun _ _ _ => rfl) (fun w => by rw [binOp_geq]; rfl) k

theorem seqD_ (g : Pur P ⟨some d, .binOp .eql t x y yt, ty, pos, af, none⟩ a w N G) (A : Ag n l a) (hd : Nat.blt d n = true) (hx : opd l x = some (.string p)) (hy : opd l y = some (.string q)) (k : ∀ a', Ag n ((d, .bool (decide (p = q))) :: l) a' → N a' w) :
    G := biD_ g A hd hx hy (fun _ _ _ => rfl) (fun w => by simp [binOp, Op.stringOp, toList_beq]) k

theorem sneD_ (g : Pur P ⟨some d, .binOp .neq t x y yt, ty, pos, af, none⟩ a w N G) (A : Ag n l a) (hd : Nat.blt d n = true) (hx : opd l x = some (.string p)) (hy : opd l y = some (.string q)) (k : ∀ a', Ag n ((d, .bool (!decide (p = q))) :: l) a' → N a' w) :
    G := biD_ g A hd hx hy (fun _ _ _ => rfl) (fun w => by simp [binOp, Op.stringOp, toList_beq]) k

theorem sltD_ (g : Pur P ⟨some d, .binOp .lss t x y yt, ty, pos, af, none⟩ a w N G) (A : Ag n l a) (hd : Nat.blt d n = true) (hx : opd l x = some (.string p)) (hy : opd l y = some (.string q)) (k : ∀ a', Ag n ((d, .bool (slt p q)) :: l) a' → N a' w) :
    G := biD_ g A hd hx hy (fun _ _ _ => rfl) (fun w => by simp [binOp, Op.stringOp, slt, tl]) k

theorem sleD_ (g : Pur P ⟨some d, .binOp .leq t x y yt, ty, pos, af, none⟩ a w N G) (A : Ag n l a) (hd : Nat.blt d n = true) (hx : opd l x = some (.string p)) (hy : opd l y = some (.string q)) (k : ∀ a', Ag n ((d, .bool (slt p q || decide (p = q))) :: l) a' → N a' w) :
    G := biD_ g A hd hx hy (fun _ _ _ => rfl) (fun w => by simp [binOp, Op.stringOp, slt, toList_beq]; simp [tl]) k

theorem sgtD_ (g : Pur P ⟨some d, .binOp .gtr t x y yt, ty, pos, af, none⟩ a w N G) (A : Ag n l a) (hd : Nat.blt d n = true) (hx : opd l x = some (.string p)) (hy : opd l y = some (.string q)) (k : ∀ a', Ag n ((d, .bool (!(slt p q || decide (p = q)))) :: l) a' → N a' w) :
    G := biD_ g A hd hx hy (fun _ _ _ => rfl) (fun w => by simp [binOp, Op.stringOp, slt, toList_beq]; simp [tl]) k

theorem saddD_ (g : Pur P ⟨some d, .binOp .add t x y yt, ty, pos, af, none⟩ a w N G) (A : Ag n l a) (hd : Nat.blt d n = true) (hx : opd l x = some (.string p)) (hy : opd l y = some (.string q)) {X : Prop} (hh : p.size + q.size < 9223372036854775808 ∧ X) (k : ∀ a', Ag n ((d, .string (p ++ q)) :: l) a' → X → N a' w) :
    G := biD_ g A hd hx hy (fun _ _ _ => rfl) (fun w => by
      have h : ¬ ((p.size + q.size : Nat) : Int) > IntKind.i64.max := by rw [IntKind.max_i64]; have := hh.1; omega
      simp only [binOp, Op.stringOp]
      rw [if_neg h]; rfl) fun a' A' => k a' A' hh.2

end
section
variable {x y : Operand} {t e sz : Nat} {p : Option Addr} {m c : Nat} {i : Int}
theorem lenlD_ (g : Pur P ⟨some d, .call { callee := .builtin .len, args := #[x], argTypes := #[t] }, ty, pos, af, none⟩ a w N G) (A : Ag n l a) (hd : Nat.blt d n = true) (hx : opd l x = some (.slice p m c)) (ht : elOf P t = some (e, sz)) (k : ∀ a', Ag n ((d, .int .i64 m) :: l) a' → N a' w) :
    G := op_valP g A hd (fun w => by
      unfold elOf at ht
      cases hu : P.underlying t with
      | none => simp [hu] at ht
      | some dd => cases dd <;> simp [hu] at ht; simp [execOp, A.opd hx, resolve, invoke, builtin, Builtin.len_, run_underlying hu, goInt]) k

theorem lensD_ {s : ByteArray} (g : Pur P ⟨some d, .call { callee := .builtin .len, args := #[x], argTypes := #[t] }, ty, pos, af, none⟩ a w N G) (A : Ag n l a) (hd : Nat.blt d n = true) (hx : opd l x = some (.string s)) (ht : P.underlying t = some .string) (k : ∀ a', Ag n ((d, .int .i64 s.size) :: l) a' → N a' w) :
    G := op_valP g A hd (fun w => by
      simp [execOp, A.opd hx, resolve, invoke, builtin, Builtin.len_, run_underlying ht, goInt]) k

theorem ixD_ {kd : IntKind} {K : Addr → Prop} (g : Pur P ⟨some d, .indexAddr t x y, ty, pos, af, none⟩ a w N G) (A : Ag n l a) (hd : Nat.blt d n = true) (hx : opd l x = some (.slice p m c)) (hy : opd l y = some (.int kd i)) (ht : elOf P t = some (e, sz)) (hh : ix p m sz i K)
    (k : ∀ b a', Ag n ((d, .pointer (some b)) :: l) a' → K b → N a' w) : G := by
  obtain ⟨b, rfl, h0, h1, hK⟩ := hh
  refine op_valP g A hd (fun w => ?_) fun a' A' => k _ a' A' hK
  unfold elOf at ht
  cases hu : P.underlying t with
  | none => simp [hu] at ht
  | some dd =>
    cases dd <;> simp [hu] at ht
    obtain ⟨hs, rfl⟩ := ht
    simp [execOp, A.opd hx, A.opd hy, Instr.indexAt, asIntOf, run_underlying hu, h0, h1, run_szOf hs]

theorem sxD_ {s : ByteArray} {kd : IntKind} {K : Int → Prop} (g : Pur P ⟨some d, .index t x y, ty, pos, af, none⟩ a w N G) (A : Ag n l a) (hd : Nat.blt d n = true) (hx : opd l x = some (.string s)) (hy : opd l y = some (.int kd i)) (ht : P.underlying t = some .string) (hh : 0 ≤ i ∧ ∃ h : i.toNat < s.size, K (s[i.toNat].toNat : Int))
    (k : ∀ u a', Ag n ((d, .int .u8 u) :: l) a' → K u → N a' w) : G := by
  obtain ⟨h0, h1, hK⟩ := hh
  refine op_valP g A hd (fun w => ?_) fun a' A' => k _ a' A' hK
  simp [execOp, A.opd hx, A.opd hy, Instr.index, asIntOf, run_underlying ht, h0, h1]


theorem cutsD_ {s : ByteArray} {lo hi : Option Operand} {i j : Int} {K : ByteArray → Prop} (g : Pur P ⟨some d, .slice t x lo hi none, ty, pos, af, none⟩ a w N G) (A : Ag n l a) (hd : Nat.blt d n = true) (hx : opd l x = some (.string s)) (ht : P.underlying t = some .string)
    (hl : bnd l lo 0 = some i) (hh : bnd l hi s.size = some j) (hk : cutS s i j K)
    (k : ∀ u a', Ag n ((d, .string u) :: l) a' → K u → N a' w) : G := by
  obtain ⟨h0, h1, h2, hK⟩ := hk
  refine op_valP g A hd (fun w => ?_) fun a' A' => k _ a' A' hK
  have b1 := run_bound (P := P) (w := w) (y := s.size) (code := .sliceAlen) A hh (by omega) h2
  have b0 := run_bound (P := P) (w := w) (y := j.toNat) (code := .sliceB) A hl h0 (by omega)
  cases lo with
  | none =>
    simp only at b0; subst b0
    cases hi with
    | none => simp only at b1; subst b1; simp [execOp, A.opd hx, Instr.sliceAt, Instr.slice, run_underlying ht, Instr.sliceBounds]
    | some y => simp only at b1; simp [execOp, A.opd hx, Instr.sliceAt, Instr.slice, run_underlying ht, Instr.sliceBounds, b1]
  | some z =>
    simp only at b0
    cases hi with
    | none => simp only at b1; subst b1; simp at b0; simp [execOp, A.opd hx, Instr.sliceAt, Instr.slice, run_underlying ht, Instr.sliceBounds, b0]
    | some y => simp only at b1; simp [execOp, A.opd hx, Instr.sliceAt, Instr.slice, run_underlying ht, Instr.sliceBounds, b1, b0]

theorem cutlD_ {lo hi mx : Option Operand} {i j q : Int} {K : Sl → Prop} (g : Pur P ⟨some d, .slice t x lo hi mx, ty, pos, af, none⟩ a w N G) (A : Ag n l a) (hd : Nat.blt d n = true) (hx : opd l x = some (.slice p m c)) (ht : elOf P t = some (e, sz)) (hu : P.underlying t = some (.slice e))
    (hl : bnd l lo 0 = some i) (hh : bnd l hi m = some j) (hm : bnd l mx c = some q) (hmx : mx.isSome = true → hi.isSome = true) (hk : cutL ⟨p, m, c⟩ sz i j q K)
    (k : ∀ s' a', Ag n ((d, Sl.v s') :: l) a' → K s' → N a' w) : G := by
  obtain ⟨h0, h1, h2, h3, hK⟩ := hk
  simp only at h3 hK
  refine op_valP (v := Sl.v ⟨cutAt p q.toNat sz i.toNat, j.toNat - i.toNat, q.toNat - i.toNat⟩) g A hd (fun w => ?_) fun a' A' => k _ a' A' hK
  have hs : szOf P e = some sz := by
    unfold elOf at ht; simp [hu] at ht; exact ht
  have b2 := fun code => run_bound (P := P) (w := w) (y := c) (code := code) A hm (by omega) h3
  have b1 := fun code => run_bound (P := P) (w := w) (y := q.toNat) (code := code) A hh (by omega) (by omega)
  have b0 := fun code => run_bound (P := P) (w := w) (y := j.toNat) (code := code) A hl h0 (by omega)
  cases mx with
  | none =>
    have e2 := b2 .index
    simp only at e2
    subst e2
    simp only [Int.toNat_natCast] at b1
    cases lo with
    | none =>
      have e0 := b0 .index
      simp only at e0; subst e0
      cases hi with
      | none => have e1 := b1 .index; simp only at e1; subst e1; simp [execOp, A.opd hx, Instr.sliceAt, Instr.slice, run_underlying hu, Instr.sliceBounds, run_szOf hs, cutAt, Sl.v]
      | some y => simp only at b1; simp [execOp, A.opd hx, Instr.sliceAt, Instr.slice, run_underlying hu, Instr.sliceBounds, b1, run_szOf hs, cutAt, Sl.v]
    | some z =>
      simp only at b0
      cases hi with
      | none => have e1 := b1 .index; simp only at e1; subst e1; simp at b0; simp [execOp, A.opd hx, Instr.sliceAt, Instr.slice, run_underlying hu, Instr.sliceBounds, b0, run_szOf hs, cutAt, Sl.v]
      | some y => simp only at b1; simp [execOp, A.opd hx, Instr.sliceAt, Instr.slice, run_underlying hu, Instr.sliceBounds, b1, b0, run_szOf hs, cutAt, Sl.v]
  | some u =>
    simp only at b2
    cases hi with
    | none => simp at hmx
    | some y =>
      simp only at b1
      cases lo with
      | none => have e0 := b0 .index; simp only at e0; subst e0; simp [execOp, A.opd hx, Instr.sliceAt, Instr.slice, run_underlying hu, Instr.sliceBounds, b2, b1, run_szOf hs, cutAt, Sl.v]
      | some z => simp only at b0; simp [execOp, A.opd hx, Instr.sliceAt, Instr.slice, run_underlying hu, Instr.sliceBounds, b2, b1, b0, run_szOf hs, cutAt, Sl.v]

end
section
variable {x y : Operand} {t yt e sz : Nat} {p q : Option Addr} {kd : IntKind} {i : Int}
theorem peqnD_ {pe : Nat} (g : Pur P ⟨some d, .binOp .eql t x y yt, ty, pos, af, none⟩ a w N G) (A : Ag n l a) (hd : Nat.blt d n = true) (hx : opd l x = some (.pointer p)) (hy : opd l y = some (.pointer none)) (ht : P.underlying t = some (.pointer pe)) (k : ∀ a', Ag n ((d, .bool p.isNone) :: l) a' → N a' w) :
    G := biD_ g A hd hx hy (fun _ _ _ => rfl) (fun w => run_eqv rfl fun d => equalIn_pn ht) k

theorem pnenD_ {pe : Nat} (g : Pur P ⟨some d, .binOp .neq t x y yt, ty, pos, af, none⟩ a w N G) (A : Ag n l a) (hd : Nat.blt d n = true) (hx : opd l x = some (.pointer p)) (hy : opd l y = some (.pointer none)) (ht : P.underlying t = some (.pointer pe)) (k : ∀ a', Ag n ((d, .bool (!p.isNone)) :: l) a' → N a' w) :
    G := biD_ g A hd hx hy (fun _ _ _ => rfl) (fun w => run_nev rfl fun d => equalIn_pn ht) k

theorem leqnD_ {m c : Nat} (g : Pur P ⟨some d, .binOp .eql t x y yt, ty, pos, af, none⟩ a w N G) (A : Ag n l a) (hd : Nat.blt d n = true) (hx : opd l x = some (.slice p m c)) (hy : opd l y = some (.slice none 0 0)) (ht : P.underlying t = some (.slice e)) (k : ∀ a', Ag n ((d, .bool p.isNone) :: l) a' → N a' w) :
    G := biD_ g A hd hx hy (fun _ _ _ => rfl) (fun w => run_eqv rfl fun d => equalIn_ln ht) k

theorem lnenD_ {m c : Nat} (g : Pur P ⟨some d, .binOp .neq t x y yt, ty, pos, af, none⟩ a w N G) (A : Ag n l a) (hd : Nat.blt d n = true) (hx : opd l x = some (.slice p m c)) (hy : opd l y = some (.slice none 0 0)) (ht : P.underlying t = some (.slice e)) (k : ∀ a', Ag n ((d, .bool (!p.isNone)) :: l) a' → N a' w) :
    G := biD_ g A hd hx hy (fun _ _ _ => rfl) (fun w => run_nev rfl fun d => equalIn_ln ht) k

theorem ieqnD_ {o : Option (Nat × Value)} {ms : Array (String × Nat)} (g : Pur P ⟨some d, .binOp .eql t x (.const .nilIface) yt, ty, pos, af, none⟩ a w N G) (A : Ag n l a) (hd : Nat.blt d n = true) (hx : opd l x = some (ifc o)) (ht : P.underlying t = some (.interface ms)) (k : ∀ a', Ag n ((d, .bool o.isNone) :: l) a' → N a' w) :
    G := by
  refine op_valP g A hd (fun w => ?_) k
  have hr : (binOp .eql t (ifc o) .nilIface).run P w = .ok (.bool o.isNone) w := run_eqv (by cases o <;> rfl) fun d => equalIn_in ht
  have hg : eqGuard .eql t x (.const .nilIface) (ifc o) .nilIface = pure () := by cases o <;> cases x <;> rfl
  simp only [execOp, A.opd hx, show a.eval (.const .nilIface) = .nilIface from rfl, hg, Sem.run_bind, Sem.run_pure, Result.andThen_ok, hr]

theorem inenD_ {o : Option (Nat × Value)} {ms : Array (String × Nat)} (g : Pur P ⟨some d, .binOp .neq t x (.const .nilIface) yt, ty, pos, af, none⟩ a w N G) (A : Ag n l a) (hd : Nat.blt d n = true) (hx : opd l x = some (ifc o)) (ht : P.underlying t = some (.interface ms)) (k : ∀ a', Ag n ((d, .bool (!o.isNone)) :: l) a' → N a' w) :
    G := by
  refine op_valP g A hd (fun w => ?_) k
  have hr : (binOp .neq t (ifc o) .nilIface).run P w = .ok (.bool (!o.isNone)) w := run_nev (by cases o <;> rfl) fun d => equalIn_in ht
  have hg : eqGuard .neq t x (.const .nilIface) (ifc o) .nilIface = pure () := by cases o <;> cases x <;> rfl
  simp only [execOp, A.opd hx, show a.eval (.const .nilIface) = .nilIface from rfl, hg, Sem.run_bind, Sem.run_pure, Result.andThen_ok, hr]

theorem cvD_ {T : Nat} {td : TypeDesc} {j : IntKind} (g : Pur P ⟨some d, .convert t T x, ty, pos, af, none⟩ a w N G) (A : Ag n l a) (hd : Nat.blt d n = true) (hx : opd l x = some (.int j i)) (hs : P.underlying t = some td) (ht : P.underlying T = some (.int kd)) (k : ∀ a', Ag n ((d, .int kd (kd.wrap i)) :: l) a' → N a' w) :
    G := op_valP g A hd (fun w => by simp [execOp, A.opd hx, convert, run_underlying hs, run_underlying ht, Conv.intToInt]) k

theorem cvsD_ {T : Nat} {s : ByteArray} (g : Pur P ⟨some d, .convert t T x, ty, pos, af, none⟩ a w N G) (A : Ag n l a) (hd : Nat.blt d n = true) (hx : opd l x = some (.string s)) (hs : P.underlying t = some .string) (ht : P.underlying T = some .string) (k : ∀ a', Ag n ((d, .string s) :: l) a' → N a' w) :
    G := op_valP g A hd (fun w => by simp [execOp, A.opd hx, convert, run_underlying hs, run_underlying ht]) k

theorem sxxD_ {s : ByteArray} {K : Int → Prop} (g : Pur P ⟨some d, .index t x y, ty, pos, af, none⟩ a w N G) (A : Ag n l a) (hd : Nat.blt d n = true) (hx : opd l x = some (.string s)) (hy : opd l y = some (.int kd i)) (ht : P.underlying t = some .string) (hh : sx s i K)
    (k : ∀ u a', Ag n ((d, .int .u8 u) :: l) a' → K u → N a' w) : G := sxD_ g A hd hx hy ht hh k

theorem beqD_ {b c : Bool} (g : Pur P ⟨some d, .binOp .eql t x y yt, ty, pos, af, none⟩ a w N G) (A : Ag n l a) (hd : Nat.blt d n = true) (hx : opd l x = some (.bool b)) (hy : opd l y = some (.bool c)) (ht : P.underlying t = some .bool) (k : ∀ a', Ag n ((d, .bool (b == c)) :: l) a' → N a' w) :
    G := biD_ g A hd hx hy (fun _ _ _ => rfl) (fun w => run_eqv rfl fun d => equalIn_bb ht) k

theorem bneD_ {b c : Bool} (g : Pur P ⟨some d, .binOp .neq t x y yt, ty, pos, af, none⟩ a w N G) (A : Ag n l a) (hd : Nat.blt d n = true) (hx : opd l x = some (.bool b)) (hy : opd l y = some (.bool c)) (ht : P.underlying t = some .bool) (k : ∀ a', Ag n ((d, .bool (!(b == c))) :: l) a' → N a' w) :
    G := biD_ g A hd hx hy (fun _ _ _ => rfl) (fun w => run_nev rfl fun d => equalIn_bb ht) k

theorem fiD_ {v r : Value} {T f : Nat} (g : Pur P ⟨some d, .field T x f, ty, pos, af, none⟩ a w N G) (A : Ag n l a) (hd : Nat.blt d n = true) (hx : opd l x = some v) (hr : ∀ w, (Instr.field T v f).run P w = .ok r w) (k : ∀ a', Ag n ((d, r) :: l) a' → N a' w) :
    G := op_valP g A hd (fun w => by simp [execOp, A.opd hx, hr]) k

end
theorem stD_ {x y : Operand} {T m : Nat} {b : Addr} {v : Value} {K : World → Prop} {vs : List Value} (g : Dir P Q ⟨none, .store T x y, ty, pos, af, none⟩ a w N G) (A : Ag n l a) (h : opd l x = some (.pointer (some b))) (hy : opd l y = some v)
    (hs : szOf P T = some m) (hv : v.cells = vs.toArray) (hm : vs.length = m) (h1 : ∀ v ∈ vs, v.oneCell' = true) (hh : st w b vs K)
    (k : ∀ w' a', Ag n l a' → K w' → N a' w') : G := by
  obtain ⟨w', hr, hK⟩ := run_storeAt hs hv hm h1 hh
  exact op_noneR g A (by simp [execOp, A.opd h, A.opd hy, hr]) fun a' A' => k w' a' A' hK


theorem alD_ {T : Nat} {z : Value} {K : Nat → World → Prop} {cs : Array Value} (g : Alc P ⟨some d, .alloc T, ty, pos, af, none⟩ a w N G) (A : Ag n l a) (hd : Nat.blt d n = true) (hz : zerOf P T = some z) (hc : z.cells = cs) (hh : al w T cs K)
    (k : ∀ b w' a', Ag n ((d, .pointer (some ⟨b, 0, none⟩)) :: l) a' → K b w' → N a' w') : G := by
  subst hc
  exact op_valA g A hd (by simp [execOp, Instr.alloc, run_zerOf hz, newVar, newRow]) fun a' A' => k _ _ a' A' hh

theorem bxD_ {T : Nat} {x : Operand} {v : Value} {K : Nat → World → Prop} {cs : Array Value} (g : Alc P ⟨some d, .box T x, ty, pos, af, none⟩ a w N G) (A : Ag n l a) (hd : Nat.blt d n = true) (h : opd l x = some v) (hc : v.cells = cs) (hh : al w T cs K)
    (k : ∀ b w' a', Ag n ((d, .pointer (some ⟨b, 0, none⟩)) :: l) a' → K b w' → N a' w') : G := by
  subst hc
  exact op_valA g A hd (by simp [execOp, A.opd h, Instr.box, newVar, newRow]) fun a' A' => k _ _ a' A' hh

theorem muD_ {x y z : Operand} {T kt et : Nat} {td : TypeDesc} {m : Option Nat} {key v : Value} {K : World → Prop} (g : Dir P Q ⟨none, .mapUpdate T x y z, ty, pos, af, none⟩ a w N G) (A : Ag n l a) (hx : opd l x = some (.map m)) (hy : opd l y = some key) (hv : opd l z = some v)
    (hT : P.underlying T = some (.map kt et)) (hk : P.underlying kt = some td) (hkey : MapKept.IsKey td key) (hh : mu w td m key v K)
    (k : ∀ w' a', Ag n l a' → K w' → N a' w') : G := by
  obtain ⟨b, es, c, rfl, hb, hks, hK⟩ := hh
  refine op_noneR g A ?_ fun a' A' => k _ a' A' hK
  have hf := findNow_mgetI hkey es.toList 0 hks
  have hc := fun e => MapKept.run_checkKey (P := P) (w := w) hk hkey e 9999
  have hfk := MapKept.run_findKey (P := P) (w := w) (l := es.toList) hk hf
  simp only [execOp, A.opd hx, A.opd hy, A.opd hv, Instr.mapUpdate, Sem.run_bind, run_underlying hT, Result.andThen_ok, MapKept.run_getObj_map (P := P) hb, hc, hfk]
  cases hq : mgetI es.toList key 0 with
  | none => simp [MapKept.run_setObj_map (P := P) _ hb, mset, hq, World.put]
  | some x =>
    obtain ⟨j, u⟩ := x
    obtain ⟨q, e, h1, h2, h3, h4⟩ := mgetI_get hq
    have hj : es[j]? = some e := by rw [h1]; simpa using h2
    have he : e.key = key := (keyIs_iff (hks e (List.mem_of_getElem? h2)) hkey).1 h3
    simp [hj, he, MapKept.run_keyThatStays (P := P) hkey, MapKept.run_setObj_map (P := P) _ hb, mset, hq, World.put]

theorem mkD_ {T : Nat} {K : Nat → World → Prop} (g : Alc P ⟨some d, .makeMap T none, ty, pos, af, none⟩ a w N G) (A : Ag n l a) (hd : Nat.blt d n = true) (hh : mk w K)
    (k : ∀ b w' a', Ag n ((d, .map (some b)) :: l) a' → K b w' → N a' w') : G :=
  op_valA g A hd (by simp [execOp, Instr.makeMap]) fun a' A' => k _ _ a' A' hh


theorem bsD_ {T e len : Nat} {ps : List (Nat × Operand)} {is : List Nat} {vs : List Value} {cs : Array Value} {K : Nat → World → Prop} (g : Alc P ⟨some d, .buildSlice T len ps.toArray, ty, pos, af, none⟩ a w N G) (A : Ag n l a) (hd : Nat.blt d n = true) (hx : opds l (ps.map (·.2)) = some vs) (hi : ps.map (·.1) = is)
    (hb : ∀ w, (Instr.buildSlice T len (is.zip vs).toArray).run P w = .ok (.slice (some ⟨w.heap.size, 0, none⟩) len len) (w.alloc (.cells cs e))) (hh : al w e cs K)
    (k : ∀ b w' a', Ag n ((d, .slice (some ⟨b, 0, none⟩) len len) :: l) a' → K b w' → N a' w') : G := by
  subst hi
  refine op_valA g A hd ?_ fun a' A' => k _ _ a' A' hh
  have h := A.opds hx
  have : (ps.toArray.map fun x => (x.1, a.eval x.2)) = ((ps.map (·.1)).zip vs).toArray := by
    rw [← h]
    simp [List.zip_map, List.zip_eq_zipWith, List.zipWith_self]
  simp only [execOp]
  rw [show (ps.toArray.map fun x => match x with | (i, x) => (i, a.eval x)) = ((ps.map (·.1)).zip vs).toArray from this]
  simp [hb]


theorem appD_ {x y : Operand} {T T2 e e2 sz bts : Nat} {z : Value} {p : Option Addr} {m c : Nat} {src : Value} {K : Sl → World → Prop} (g : Dir P Q ⟨some d, .call { callee := .builtin .append, args := #[x, y], argTypes := #[T, T2] }, ty, pos, af, none⟩ a w N G) (A : Ag n l a) (hd : Nat.blt d n = true) (hx : opd l x = some (.slice p m c)) (hy : opd l y = some src)
    (hT : P.underlying T = some (.slice e)) (hT2 : P.underlying T2 = some (.slice e2) ∨ P.underlying T2 = some .string)
    (hs : szOf P e = some sz) (hb : byOf P e = some bts) (hz : zerOf P e = some z) (hzs : z.cells.size = sz) (hh : app w e sz bts z.cells p m c src K)
    (k : ∀ s' w' a', Ag n ((d, Sl.v s') :: l) a' → K s' w' → N a' w') :
    G := by
  obtain ⟨s', w', hr, hK⟩ := run_append (ty := ty) hT hT2 hs hb hz hzs hh
  exact op_valR g A hd (by simp [execOp, A.opd hx, A.opd hy, resolve, invoke, builtin, hr]) fun a' A' => k s' w' a' A' hK


theorem clD_ {f : FuncId} {xs : List Operand} {ts : Array TypeId} {vs : List Value} {K : Value → World → Prop} (g : Dir P Q ⟨some d, .call { callee := .value (.func f), args := xs.toArray, argTypes := ts }, ty, pos, af, none⟩ a w N G) (A : Ag n l a) (hd : Nat.blt d n = true) (hf : bodied P f = true) (hx : opds l xs = some vs) (hh : cl P f vs w K)
    (k : ∀ v w' a', Ag n ((d, v) :: l) a' → K v w' → N a' w') :
    G := by
  refine g (fun K' hK' => ?_)
  have : (execOp a.eval ⟨some d, .call { callee := .value (.func f), args := xs.toArray, argTypes := ts }, ty, pos, af, none⟩).run P w = .ok (.enter f vs.toArray) w := by
    simp [execOp, resolve, Act.eval, Deferred.ofValue, invoke, A.opds hx, run_callFunc hf]
  unfold Oper.wp
  rw [this]
  refine Calls.mono hh ?_
  rintro e w' ⟨v, rfl, hK⟩
  exact hK' _ _ (k v w' _ (A.put hd v) hK)

theorem cl0D_ {f : FuncId} {xs : List Operand} {ts : Array TypeId} {vs : List Value} {K : Value → World → Prop} (g : Dir P Q ⟨none, .call { callee := .value (.func f), args := xs.toArray, argTypes := ts }, ty, pos, af, none⟩ a w N G) (A : Ag n l a) (hf : bodied P f = true) (hx : opds l xs = some vs) (hh : cl P f vs w K)
    (k : ∀ v w' a', Ag n l a' → K v w' → N a' w') :
    G := by
  refine g (fun K' hK' => ?_)
  have : (execOp a.eval ⟨none, .call { callee := .value (.func f), args := xs.toArray, argTypes := ts }, ty, pos, af, none⟩).run P w = .ok (.enter f vs.toArray) w := by
    simp [execOp, resolve, Act.eval, Deferred.ofValue, invoke, A.opds hx, run_callFunc hf]
  unfold Oper.wp
  rw [this]
  refine Calls.mono hh ?_
  rintro e w' ⟨v, rfl, hK⟩
  exact hK' _ _ (k v w' _ A hK)

theorem c0D_ {f : FuncId} {xs : List Operand} {ts : Array TypeId} {vs : List Value} {K : World → Prop} (g : Dir P Q ⟨none, .call { callee := .value (.func f), args := xs.toArray, argTypes := ts }, ty, pos, af, none⟩ a w N G) (A : Ag n l a) (hf : bodied P f = true) (hx : opds l xs = some vs) (hh : cl0 P f vs w K)
    (k : ∀ w' a', Ag n l a' → K w' → N a' w') :
    G :=
  cl0D_ g (K := fun v w' => v = .tuple #[] ∧ K w') A hf hx (Calls.mono hh fun e w' h => ⟨_, h.1, rfl, h.2⟩) fun v w' a' A' h => k w' a' A' h.2

theorem c0dD_ {f : FuncId} {xs : List Operand} {ts : Array TypeId} {vs : List Value} {K : World → Prop} (g : Dir P Q ⟨some d, .call { callee := .value (.func f), args := xs.toArray, argTypes := ts }, ty, pos, af, none⟩ a w N G) (A : Ag n l a) (hd : Nat.blt d n = true) (hf : bodied P f = true) (hx : opds l xs = some vs) (hh : cl0 P f vs w K)
    (k : ∀ w' a', Ag n ((d, .tuple #[]) :: l) a' → K w' → N a' w') :
    G :=
  clD_ g (K := fun v w' => v = .tuple #[] ∧ K w') A hd hf hx (Calls.mono hh fun e w' h => ⟨_, h.1, rfl, h.2⟩) fun v w' a' A' h => by
    obtain ⟨rfl, h⟩ := h
    exact k w' a' A' h

theorem c1D_ {α : Type} {m0 : α → Value} {f : FuncId} {xs : List Operand} {ts : Array TypeId} {vs : List Value} {K : α → World → Prop} (g : Dir P Q ⟨some d, .call { callee := .value (.func f), args := xs.toArray, argTypes := ts }, ty, pos, af, none⟩ a w N G) (A : Ag n l a) (hd : Nat.blt d n = true) (hf : bodied P f = true) (hx : opds l xs = some vs) (hh : cl1 P f vs w m0 K)
    (k : ∀ x0 w' a', Ag n ((d, m0 x0) :: l) a' → K x0 w' → N a' w') :
    G :=
  clD_ g (K := fun v w' => ∃ x0, v = m0 x0 ∧ K x0 w') A hd hf hx (Calls.mono hh fun e w' h => by
    obtain ⟨x0, h1, h2⟩ := h
    exact ⟨_, h1, x0, rfl, h2⟩) fun v w' a' A' h => by
    obtain ⟨x0, rfl, h⟩ := h
    exact k x0 w' a' A' h

theorem c1nD_ {α : Type} {m0 : α → Value} {f : FuncId} {xs : List Operand} {ts : Array TypeId} {vs : List Value} {K : α → World → Prop} (g : Dir P Q ⟨none, .call { callee := .value (.func f), args := xs.toArray, argTypes := ts }, ty, pos, af, none⟩ a w N G) (A : Ag n l a) (hf : bodied P f = true) (hx : opds l xs = some vs) (hh : cl1 P f vs w m0 K)
    (k : ∀ x0 w' a', Ag n l a' → K x0 w' → N a' w') :
    G :=
  cl0D_ g (K := fun v w' => ∃ x0, v = m0 x0 ∧ K x0 w') A hf hx (Calls.mono hh fun e w' h => by
    obtain ⟨x0, h1, h2⟩ := h
    exact ⟨_, h1, x0, rfl, h2⟩) fun v w' a' A' h => by
    obtain ⟨x0, rfl, h⟩ := h
    exact k x0 w' a' A' h

theorem c2D_ {α β : Type} {m0 : α → Value} {m1 : β → Value} {f : FuncId} {xs : List Operand} {ts : Array TypeId} {vs : List Value} {K : α → β → World → Prop} (g : Dir P Q ⟨some d, .call { callee := .value (.func f), args := xs.toArray, argTypes := ts }, ty, pos, af, none⟩ a w N G) (A : Ag n l a) (hd : Nat.blt d n = true) (hf : bodied P f = true) (hx : opds l xs = some vs) (hh : cl2 P f vs w m0 m1 K)
    (k : ∀ x0 x1 w' a', Ag n ((d, .tuple #[m0 x0, m1 x1]) :: l) a' → K x0 x1 w' → N a' w') :
    G :=
  clD_ g (K := fun v w' => ∃ x0 x1, v = .tuple #[m0 x0, m1 x1] ∧ K x0 x1 w') A hd hf hx (Calls.mono hh fun e w' h => by
    obtain ⟨x0, x1, h1, h2⟩ := h
    exact ⟨_, h1, x0, x1, rfl, h2⟩) fun v w' a' A' h => by
    obtain ⟨x0, x1, rfl, h⟩ := h
    exact k x0 x1 w' a' A' h

theorem c2nD_ {α β : Type} {m0 : α → Value} {m1 : β → Value} {f : FuncId} {xs : List Operand} {ts : Array TypeId} {vs : List Value} {K : α → β → World → Prop} (g : Dir P Q ⟨none, .call { callee := .value (.func f), args := xs.toArray, argTypes := ts }, ty, pos, af, none⟩ a w N G) (A : Ag n l a) (hf : bodied P f = true) (hx : opds l xs = some vs) (hh : cl2 P f vs w m0 m1 K)
    (k : ∀ x0 x1 w' a', Ag n l a' → K x0 x1 w' → N a' w') :
    G :=
  cl0D_ g (K := fun v w' => ∃ x0 x1, v = .tuple #[m0 x0, m1 x1] ∧ K x0 x1 w') A hf hx (Calls.mono hh fun e w' h => by
    obtain ⟨x0, x1, h1, h2⟩ := h
    exact ⟨_, h1, x0, x1, rfl, h2⟩) fun v w' a' A' h => by
    obtain ⟨x0, x1, rfl, h⟩ := h
    exact k x0 x1 w' a' A' h

theorem c3D_ {α β γ : Type} {m0 : α → Value} {m1 : β → Value} {m2 : γ → Value} {f : FuncId} {xs : List Operand} {ts : Array TypeId} {vs : List Value} {K : α → β → γ → World → Prop} (g : Dir P Q ⟨some d, .call { callee := .value (.func f), args := xs.toArray, argTypes := ts }, ty, pos, af, none⟩ a w N G) (A : Ag n l a) (hd : Nat.blt d n = true) (hf : bodied P f = true) (hx : opds l xs = some vs) (hh : cl3 P f vs w m0 m1 m2 K)
    (k : ∀ x0 x1 x2 w' a', Ag n ((d, .tuple #[m0 x0, m1 x1, m2 x2]) :: l) a' → K x0 x1 x2 w' → N a' w') :
    G :=
  clD_ g (K := fun v w' => ∃ x0 x1 x2, v = .tuple #[m0 x0, m1 x1, m2 x2] ∧ K x0 x1 x2 w') A hd hf hx (Calls.mono hh fun e w' h => by
    obtain ⟨x0, x1, x2, h1, h2⟩ := h
    exact ⟨_, h1, x0, x1, x2, rfl, h2⟩) fun v w' a' A' h => by
    obtain ⟨x0, x1, x2, rfl, h⟩ := h
    exact k x0 x1 x2 w' a' A' h

theorem c3nD_ {α β γ : Type} {m0 : α → Value} {m1 : β → Value} {m2 : γ → Value} {f : FuncId} {xs : List Operand} {ts : Array TypeId} {vs : List Value} {K : α → β → γ → World → Prop} (g : Dir P Q ⟨none, .call { callee := .value (.func f), args := xs.toArray, argTypes := ts }, ty, pos, af, none⟩ a w N G) (A : Ag n l a) (hf : bodied P f = true) (hx : opds l xs = some vs) (hh : cl3 P f vs w m0 m1 m2 K)
    (k : ∀ x0 x1 x2 w' a', Ag n l a' → K x0 x1 x2 w' → N a' w') :
    G :=
  cl0D_ g (K := fun v w' => ∃ x0 x1 x2, v = .tuple #[m0 x0, m1 x1, m2 x2] ∧ K x0 x1 x2 w') A hf hx (Calls.mono hh fun e w' h => by
    obtain ⟨x0, x1, x2, h1, h2⟩ := h
    exact ⟨_, h1, x0, x1, x2, rfl, h2⟩) fun v w' a' A' h => by
    obtain ⟨x0, x1, x2, rfl, h⟩ := h
    exact k x0 x1 x2 w' a' A' h

theorem c4D_ {α β γ δ : Type} {m0 : α → Value} {m1 : β → Value} {m2 : γ → Value} {m3 : δ → Value} {f : FuncId} {xs : List Operand} {ts : Array TypeId} {vs : List Value} {K : α → β → γ → δ → World → Prop} (g : Dir P Q ⟨some d, .call { callee := .value (.func f), args := xs.toArray, argTypes := ts }, ty, pos, af, none⟩ a w N G) (A : Ag n l a) (hd : Nat.blt d n = true) (hf : bodied P f = true) (hx : opds l xs = some vs) (hh : cl4 P f vs w m0 m1 m2 m3 K)
    (k : ∀ x0 x1 x2 x3 w' a', Ag n ((d, .tuple #[m0 x0, m1 x1, m2 x2, m3 x3]) :: l) a' → K x0 x1 x2 x3 w' → N a' w') :
    G :=
  clD_ g (K := fun v w' => ∃ x0 x1 x2 x3, v = .tuple #[m0 x0, m1 x1, m2 x2, m3 x3] ∧ K x0 x1 x2 x3 w') A hd hf hx (Calls.mono hh fun e w' h => by
    obtain ⟨x0, x1, x2, x3, h1, h2⟩ := h
    exact ⟨_, h1, x0, x1, x2, x3, rfl, h2⟩) fun v w' a' A' h => by
    obtain ⟨x0, x1, x2, x3, rfl, h⟩ := h
    exact k x0 x1 x2 x3 w' a' A' h

theorem c4nD_ {α β γ δ : Type} {m0 : α → Value} {m1 : β → Value} {m2 : γ → Value} {m3 : δ → Value} {f : FuncId} {xs : List Operand} {ts : Array TypeId} {vs : List Value} {K : α → β → γ → δ → World → Prop} (g : Dir P Q ⟨none, .call { callee := .value (.func f), args := xs.toArray, argTypes := ts }, ty, pos, af, none⟩ a w N G) (A : Ag n l a) (hf : bodied P f = true) (hx : opds l xs = some vs) (hh : cl4 P f vs w m0 m1 m2 m3 K)
    (k : ∀ x0 x1 x2 x3 w' a', Ag n l a' → K x0 x1 x2 x3 w' → N a' w') :
    G :=
  cl0D_ g (K := fun v w' => ∃ x0 x1 x2 x3, v = .tuple #[m0 x0, m1 x1, m2 x2, m3 x3] ∧ K x0 x1 x2 x3 w') A hf hx (Calls.mono hh fun e w' h => by
    obtain ⟨x0, x1, x2, x3, h1, h2⟩ := h
    exact ⟨_, h1, x0, x1, x2, x3, rfl, h2⟩) fun v w' a' A' h => by
    obtain ⟨x0, x1, x2, x3, rfl, h⟩ := h
    exact k x0 x1 x2 x3 w' a' A' h

theorem alDR_ {T : Nat} {z : Value} {K : Nat → World → Prop} {cs : Array Value} (g : Dir P Q ⟨some d, .alloc T, ty, pos, af, none⟩ a w N G) (A : Ag n l a) (hd : Nat.blt d n = true) (hz : zerOf P T = some z) (hc : z.cells = cs) (hh : al w T cs K)
    (k : ∀ b w' a', Ag n ((d, .pointer (some ⟨b, 0, none⟩)) :: l) a' → K b w' → N a' w') : G := by
  subst hc
  exact op_valR g A hd (by simp [execOp, Instr.alloc, run_zerOf hz, newVar, newRow]) fun a' A' => k _ _ a' A' hh
theorem bxDR_ {T : Nat} {x : Operand} {v : Value} {K : Nat → World → Prop} {cs : Array Value} (g : Dir P Q ⟨some d, .box T x, ty, pos, af, none⟩ a w N G) (A : Ag n l a) (hd : Nat.blt d n = true) (h : opd l x = some v) (hc : v.cells = cs) (hh : al w T cs K)
    (k : ∀ b w' a', Ag n ((d, .pointer (some ⟨b, 0, none⟩)) :: l) a' → K b w' → N a' w') : G := by
  subst hc
  exact op_valR g A hd (by simp [execOp, A.opd h, Instr.box, newVar, newRow]) fun a' A' => k _ _ a' A' hh
theorem mkDR_ {T : Nat} {K : Nat → World → Prop} (g : Dir P Q ⟨some d, .makeMap T none, ty, pos, af, none⟩ a w N G) (A : Ag n l a) (hd : Nat.blt d n = true) (hh : mk w K)
    (k : ∀ b w' a', Ag n ((d, .map (some b)) :: l) a' → K b w' → N a' w') : G :=
  op_valR g A hd (by simp [execOp, Instr.makeMap]) fun a' A' => k _ _ a' A' hh
theorem bsDR_ {T e len : Nat} {ps : List (Nat × Operand)} {is : List Nat} {vs : List Value} {cs : Array Value} {K : Nat → World → Prop} (g : Dir P Q ⟨some d, .buildSlice T len ps.toArray, ty, pos, af, none⟩ a w N G) (A : Ag n l a) (hd : Nat.blt d n = true) (hx : opds l (ps.map (·.2)) = some vs) (hi : ps.map (·.1) = is)
    (hb : ∀ w, (Instr.buildSlice T len (is.zip vs).toArray).run P w = .ok (.slice (some ⟨w.heap.size, 0, none⟩) len len) (w.alloc (.cells cs e))) (hh : al w e cs K)
    (k : ∀ b w' a', Ag n ((d, .slice (some ⟨b, 0, none⟩) len len) :: l) a' → K b w' → N a' w') : G := by
  subst hi
  refine op_valR g A hd ?_ fun a' A' => k _ _ a' A' hh
  have h := A.opds hx
  have : (ps.toArray.map fun x => (x.1, a.eval x.2)) = ((ps.map (·.1)).zip vs).toArray := by
    rw [← h]
    simp [List.zip_map, List.zip_eq_zipWith, List.zipWith_self]
  simp only [execOp]
  rw [show (ps.toArray.map fun x => match x with | (i, x) => (i, a.eval x)) = ((ps.map (·.1)).zip vs).toArray from this]
  simp [hb]
theorem ldBD_ {x : Operand} {T : Nat} {b : Addr} {K : Bool → Prop} (g : Hld P ⟨some d, .load T x, ty, pos, af, none⟩ a w N G) (A : Ag n l a) (hd : Nat.blt d n = true) (h : opd l x = some (.pointer (some b))) (hT : isScal P T = true) (hh : ldB w b K)
    (k : ∀ (v : Bool) a', Ag n ((d, .bool v) :: l) a' → K v → N a' w) : G := by
  obtain ⟨v, hc, hK⟩ := hh
  exact op_valH g A hd (fun w' e => by simp [execOp, A.opd h, run_loadAt hT (e.cell hc)]) fun a' A' => k v a' A' hK
theorem ldSD_ {x : Operand} {T : Nat} {b : Addr} {K : ByteArray → Prop} (g : Hld P ⟨some d, .load T x, ty, pos, af, none⟩ a w N G) (A : Ag n l a) (hd : Nat.blt d n = true) (h : opd l x = some (.pointer (some b))) (hT : isScal P T = true) (hh : ldS w b K)
    (k : ∀ (v : ByteArray) a', Ag n ((d, .string v) :: l) a' → K v → N a' w) : G := by
  obtain ⟨v, hc, hK⟩ := hh
  exact op_valH g A hd (fun w' e => by simp [execOp, A.opd h, run_loadAt hT (e.cell hc)]) fun a' A' => k v a' A' hK
theorem ldPD_ {x : Operand} {T : Nat} {b : Addr} {K : Option Addr → Prop} (g : Hld P ⟨some d, .load T x, ty, pos, af, none⟩ a w N G) (A : Ag n l a) (hd : Nat.blt d n = true) (h : opd l x = some (.pointer (some b))) (hT : isScal P T = true) (hh : ldP w b K)
    (k : ∀ (v : Option Addr) a', Ag n ((d, .pointer v) :: l) a' → K v → N a' w) : G := by
  obtain ⟨v, hc, hK⟩ := hh
  exact op_valH g A hd (fun w' e => by simp [execOp, A.opd h, run_loadAt hT (e.cell hc)]) fun a' A' => k v a' A' hK
theorem ldMD_ {x : Operand} {T : Nat} {b : Addr} {K : Option Nat → Prop} (g : Hld P ⟨some d, .load T x, ty, pos, af, none⟩ a w N G) (A : Ag n l a) (hd : Nat.blt d n = true) (h : opd l x = some (.pointer (some b))) (hT : isScal P T = true) (hh : ldM w b K)
    (k : ∀ (v : Option Nat) a', Ag n ((d, .map v) :: l) a' → K v → N a' w) : G := by
  obtain ⟨v, hc, hK⟩ := hh
  exact op_valH g A hd (fun w' e => by simp [execOp, A.opd h, run_loadAt hT (e.cell hc)]) fun a' A' => k v a' A' hK
theorem ldLD_ {x : Operand} {T : Nat} {b : Addr} {K : Sl → Prop} (g : Hld P ⟨some d, .load T x, ty, pos, af, none⟩ a w N G) (A : Ag n l a) (hd : Nat.blt d n = true) (h : opd l x = some (.pointer (some b))) (hT : isScal P T = true) (hh : ldL w b K)
    (k : ∀ (v : Sl) a', Ag n ((d, v.v) :: l) a' → K v → N a' w) : G := by
  obtain ⟨v, hc, hK⟩ := hh
  exact op_valH g A hd (fun w' e => by simp [execOp, A.opd h, run_loadAt hT (e.cell hc)]) fun a' A' => k v a' A' hK
theorem ldFD_ {x : Operand} {T : Nat} {b : Addr} {K : Option (Nat × Value) → Prop} (g : Hld P ⟨some d, .load T x, ty, pos, af, none⟩ a w N G) (A : Ag n l a) (hd : Nat.blt d n = true) (h : opd l x = some (.pointer (some b))) (hT : isScal P T = true) (hh : ldF w b K)
    (k : ∀ (v : Option (Nat × Value)) a', Ag n ((d, ifc v) :: l) a' → K v → N a' w) : G := by
  obtain ⟨v, hc, hK⟩ := hh
  exact op_valH g A hd (fun w' e => by simp [execOp, A.opd h, run_loadAt hT (e.cell hc)]) fun a' A' => k v a' A' hK
theorem ldVD_ {x : Operand} {T : Nat} {b : Addr} {K : Value → Prop} (g : Hld P ⟨some d, .load T x, ty, pos, af, none⟩ a w N G) (A : Ag n l a) (hd : Nat.blt d n = true) (h : opd l x = some (.pointer (some b))) (hT : isScal P T = true) (hh : ldV w b K)
    (k : ∀ (v : Value) a', Ag n ((d, v) :: l) a' → K v → N a' w) : G := by
  obtain ⟨v, hc, hK⟩ := hh
  exact op_valH g A hd (fun w' e => by simp [execOp, A.opd h, run_loadAt hT (e.cell hc)]) fun a' A' => k v a' A' hK
theorem ldND_ {kd : IntKind} {x : Operand} {T : Nat} {b : Addr} {K : Int → Prop} (g : Hld P ⟨some d, .load T x, ty, pos, af, none⟩ a w N G) (A : Ag n l a) (hd : Nat.blt d n = true) (h : opd l x = some (.pointer (some b))) (hT : isScal P T = true) (hh : ldN kd w b K)
    (k : ∀ (v : Int) a', Ag n ((d, .int kd v) :: l) a' → K v → N a' w) : G := by
  obtain ⟨v, hc, hK⟩ := hh
  exact op_valH g A hd (fun w' e => by simp [execOp, A.opd h, run_loadAt hT (e.cell hc)]) fun a' A' => k v a' A' hK
theorem ldTD_ {α : Type} {x : Operand} {T m : Nat} {b : Addr} {cells : α → List Value} {K : α → Prop} (g : Hld P ⟨some d, .load T x, ty, pos, af, none⟩ a w N G) (A : Ag n l a) (hd : Nat.blt d n = true) (h : opd l x = some (.pointer (some b))) (hT : isAggr P T = true) (hs : szOf P T = some m) (hl : ∀ x, (cells x).length = m) (hh : ldT cells w b K)
    (k : ∀ v a', Ag n ((d, .agg (cells v).toArray) :: l) a' → K v → N a' w) : G := by
  obtain ⟨v, hc, hK⟩ := hh
  exact op_valH g A hd (fun w' e => by simp [execOp, A.opd h, run_loadAtA hT hs (hl v) (e.cells hc)]) fun a' A' => k v a' A' hK
theorem ldBR_ {x : Operand} {T : Nat} {b : Addr} {K : Bool → Prop} (g : Dir P Q ⟨some d, .load T x, ty, pos, af, none⟩ a w N G) (A : Ag n l a) (hd : Nat.blt d n = true) (h : opd l x = some (.pointer (some b))) (hT : isScal P T = true) (hh : ldB w b K)
    (k : ∀ (v : Bool) a', Ag n ((d, .bool v) :: l) a' → K v → N a' w) : G := by
  obtain ⟨v, hc, hK⟩ := hh
  exact op_valR g A hd (by simp [execOp, A.opd h, run_loadAt hT hc]) fun a' A' => k v a' A' hK
theorem ldSR_ {x : Operand} {T : Nat} {b : Addr} {K : ByteArray → Prop} (g : Dir P Q ⟨some d, .load T x, ty, pos, af, none⟩ a w N G) (A : Ag n l a) (hd : Nat.blt d n = true) (h : opd l x = some (.pointer (some b))) (hT : isScal P T = true) (hh : ldS w b K)
    (k : ∀ (v : ByteArray) a', Ag n ((d, .string v) :: l) a' → K v → N a' w) : G := by
  obtain ⟨v, hc, hK⟩ := hh
  exact op_valR g A hd (by simp [execOp, A.opd h, run_loadAt hT hc]) fun a' A' => k v a' A' hK
theorem ldPR_ {x : Operand} {T : Nat} {b : Addr} {K : Option Addr → Prop} (g : Dir P Q ⟨some d, .load T x, ty, pos, af, none⟩ a w N G) (A : Ag n l a) (hd : Nat.blt d n = true) (h : opd l x = some (.pointer (some b))) (hT : isScal P T = true) (hh : ldP w b K)
    (k : ∀ (v : Option Addr) a', Ag n ((d, .pointer v) :: l) a' → K v → N a' w) : G := by
  obtain ⟨v, hc, hK⟩ := hh
  exact op_valR g A hd (by simp [execOp, A.opd h, run_loadAt hT hc]) fun a' A' => k v a' A' hK
theorem ldMR_ {x : Operand} {T : Nat} {b : Addr} {K : Option Nat → Prop} (g : Dir P Q ⟨some d, .load T x, ty, pos, af, none⟩ a w N G) (A : Ag n l a) (hd : Nat.blt d n = true) (h : opd l x = some (.pointer (some b))) (hT : isScal P T = true) (hh : ldM w b K)
    (k : ∀ (v : Option Nat) a', Ag n ((d, .map v) :: l) a' → K v → N a' w) : G := by
  obtain ⟨v, hc, hK⟩ := hh
  exact op_valR g A hd (by simp [execOp, A.opd h, run_loadAt hT hc]) fun a' A' => k v a' A' hK
theorem ldLR_ {x : Operand} {T : Nat} {b : Addr} {K : Sl → Prop} (g : Dir P Q ⟨some d, .load T x, ty, pos, af, none⟩ a w N G) (A : Ag n l a) (hd : Nat.blt d n = true) (h : opd l x = some (.pointer (some b))) (hT : isScal P T = true) (hh : ldL w b K)
    (k : ∀ (v : Sl) a', Ag n ((d, v.v) :: l) a' → K v → N a' w) : G := by
  obtain ⟨v, hc, hK⟩ := hh
  exact op_valR g A hd (by simp [execOp, A.opd h, run_loadAt hT hc]) fun a' A' => k v a' A' hK
theorem ldFR_ {x : Operand} {T : Nat} {b : Addr} {K : Option (Nat × Value) → Prop} (g : Dir P Q ⟨some d, .load T x, ty, pos, af, none⟩ a w N G) (A : Ag n l a) (hd : Nat.blt d n = true) (h : opd l x = some (.pointer (some b))) (hT : isScal P T = true) (hh : ldF w b K)
    (k : ∀ (v : Option (Nat × Value)) a', Ag n ((d, ifc v) :: l) a' → K v → N a' w) : G := by
  obtain ⟨v, hc, hK⟩ := hh
  exact op_valR g A hd (by simp [execOp, A.opd h, run_loadAt hT hc]) fun a' A' => k v a' A' hK
theorem ldVR_ {x : Operand} {T : Nat} {b : Addr} {K : Value → Prop} (g : Dir P Q ⟨some d, .load T x, ty, pos, af, none⟩ a w N G) (A : Ag n l a) (hd : Nat.blt d n = true) (h : opd l x = some (.pointer (some b))) (hT : isScal P T = true) (hh : ldV w b K)
    (k : ∀ (v : Value) a', Ag n ((d, v) :: l) a' → K v → N a' w) : G := by
  obtain ⟨v, hc, hK⟩ := hh
  exact op_valR g A hd (by simp [execOp, A.opd h, run_loadAt hT hc]) fun a' A' => k v a' A' hK
theorem ldNR_ {kd : IntKind} {x : Operand} {T : Nat} {b : Addr} {K : Int → Prop} (g : Dir P Q ⟨some d, .load T x, ty, pos, af, none⟩ a w N G) (A : Ag n l a) (hd : Nat.blt d n = true) (h : opd l x = some (.pointer (some b))) (hT : isScal P T = true) (hh : ldN kd w b K)
    (k : ∀ (v : Int) a', Ag n ((d, .int kd v) :: l) a' → K v → N a' w) : G := by
  obtain ⟨v, hc, hK⟩ := hh
  exact op_valR g A hd (by simp [execOp, A.opd h, run_loadAt hT hc]) fun a' A' => k v a' A' hK
theorem ldTR_ {α : Type} {x : Operand} {T m : Nat} {b : Addr} {cells : α → List Value} {K : α → Prop} (g : Dir P Q ⟨some d, .load T x, ty, pos, af, none⟩ a w N G) (A : Ag n l a) (hd : Nat.blt d n = true) (h : opd l x = some (.pointer (some b))) (hT : isAggr P T = true) (hs : szOf P T = some m) (hl : ∀ x, (cells x).length = m) (hh : ldT cells w b K)
    (k : ∀ v a', Ag n ((d, .agg (cells v).toArray) :: l) a' → K v → N a' w) : G := by
  obtain ⟨v, hc, hK⟩ := hh
  exact op_valR g A hd (by simp [execOp, A.opd h, run_loadAtA hT hs (hl v) hc]) fun a' A' => k v a' A' hK

/-! ### look-ups, typed -/
def lk {α : Type} (w : World) (td : TypeDesc) (m : Option Nat) (key : Value) (mkv : α → Value) (z : α) (K : α → Prop) : Prop := ∃ es x, mes w td m es ∧ (mget es key).getD (mkv z) = mkv x ∧ K x
def lkk {α : Type} (w : World) (td : TypeDesc) (m : Option Nat) (key : Value) (mkv : α → Value) (z : α) (K : α → Bool → Prop) : Prop := ∃ es x, mes w td m es ∧ (mget es key).getD (mkv z) = mkv x ∧ K x (mget es key).isSome
def lm (w : World) (td : TypeDesc) (m : Option Nat) (K : Int → Prop) : Prop := ∃ es, mes w td m es ∧ K es.size
theorem lkt_ {α : Type} {x y : Operand} {T kt et : Nat} {td : TypeDesc} {m : Option Nat} {key : Value} {mkv : α → Value} {z : α} {K : α → Prop} (A : Ag n l a) (hd : Nat.blt d n = true) (hx : opd l x = some (.map m)) (hy : opd l y = some key)
    (hT : P.underlying T = some (.map kt et)) (hk : P.underlying kt = some td) (hz : zerOf P et = some (mkv z)) (hkey : MapKept.IsKey td key) (hh : lk w td m key mkv z K)
    (k : ∀ x a', Ag n ((d, mkv x) :: l) a' → K x → wpList P ops Q rest a' w) : wpList P ops Q (⟨some d, .lookup T x y false, ty, pos, af, none⟩ :: rest) a w := by
  obtain ⟨es, x, hm, he, hK⟩ := hh
  exact op_val A hd (by simp [execOp, A.opd hx, A.opd hy, run_lookup hT hk hz hkey hm, he]) fun a' A' => k x a' A' hK
theorem lkkt_ {α : Type} {x y : Operand} {T kt et : Nat} {td : TypeDesc} {m : Option Nat} {key : Value} {mkv : α → Value} {z : α} {K : α → Bool → Prop} (A : Ag n l a) (hd : Nat.blt d n = true) (hx : opd l x = some (.map m)) (hy : opd l y = some key)
    (hT : P.underlying T = some (.map kt et)) (hk : P.underlying kt = some td) (hz : zerOf P et = some (mkv z)) (hkey : MapKept.IsKey td key) (hh : lkk w td m key mkv z K)
    (k : ∀ x ok a', Ag n ((d, .tuple #[mkv x, .bool ok]) :: l) a' → K x ok → wpList P ops Q rest a' w) : wpList P ops Q (⟨some d, .lookup T x y true, ty, pos, af, none⟩ :: rest) a w := by
  obtain ⟨es, x, hm, he, hK⟩ := hh
  exact op_val A hd (by simp [execOp, A.opd hx, A.opd hy, run_lookup hT hk hz hkey hm, he]) fun a' A' => k x _ a' A' hK
theorem run_lenm {x : Operand} {T kt et : Nat} {td : TypeDesc} {m : Option Nat} {es : Array MapEntry} (A : Ag n l a) (hx : opd l x = some (.map m)) (hT : P.underlying T = some (.map kt et)) (hm : mes w td m es) :
    (execOp a.eval ⟨some d, .call { callee := .builtin .len, args := #[x], argTypes := #[T] }, ty, pos, af, none⟩).run P w = .ok (.value (.int .i64 es.size)) w := by
  obtain ⟨⟨rfl, rfl⟩ | ⟨b, c, rfl, hb⟩, _⟩ := hm
  · simp [execOp, A.opd hx, resolve, invoke, builtin, Builtin.len_, run_underlying hT, goInt]
  · simp [execOp, A.opd hx, resolve, invoke, builtin, Builtin.len_, run_underlying hT, MapKept.run_getObj_map (P := P) hb, goInt]
theorem lm_ {x : Operand} {T kt et : Nat} {td : TypeDesc} {m : Option Nat} {K : Int → Prop} (A : Ag n l a) (hd : Nat.blt d n = true) (hx : opd l x = some (.map m)) (hT : P.underlying T = some (.map kt et)) (hh : lm w td m K)
    (k : ∀ (x : Int) a', Ag n ((d, .int .i64 x) :: l) a' → K x → wpList P ops Q rest a' w) : wpList P ops Q (⟨some d, .call { callee := .builtin .len, args := #[x], argTypes := #[T] }, ty, pos, af, none⟩ :: rest) a w := by
  obtain ⟨es, hm, hK⟩ := hh
  exact op_val A hd (by exact run_lenm A hx hT hm) fun a' A' => k _ a' A' hK
theorem lktD_ {α : Type} {x y : Operand} {T kt et : Nat} {td : TypeDesc} {m : Option Nat} {key : Value} {mkv : α → Value} {z : α} {K : α → Prop} (g : Hld P ⟨some d, .lookup T x y false, ty, pos, af, none⟩ a w N G) (A : Ag n l a) (hd : Nat.blt d n = true) (hx : opd l x = some (.map m)) (hy : opd l y = some key)
    (hT : P.underlying T = some (.map kt et)) (hk : P.underlying kt = some td) (hz : zerOf P et = some (mkv z)) (hkey : MapKept.IsKey td key) (hh : lk w td m key mkv z K)
    (k : ∀ x a', Ag n ((d, mkv x) :: l) a' → K x → N a' w) : G := by
  obtain ⟨es, x, hm, he, hK⟩ := hh
  exact op_valH g A hd (fun w' e => by simp [execOp, A.opd hx, A.opd hy, run_lookup hT hk hz hkey (e.mes hm), he]) fun a' A' => k x a' A' hK
theorem lkktD_ {α : Type} {x y : Operand} {T kt et : Nat} {td : TypeDesc} {m : Option Nat} {key : Value} {mkv : α → Value} {z : α} {K : α → Bool → Prop} (g : Hld P ⟨some d, .lookup T x y true, ty, pos, af, none⟩ a w N G) (A : Ag n l a) (hd : Nat.blt d n = true) (hx : opd l x = some (.map m)) (hy : opd l y = some key)
    (hT : P.underlying T = some (.map kt et)) (hk : P.underlying kt = some td) (hz : zerOf P et = some (mkv z)) (hkey : MapKept.IsKey td key) (hh : lkk w td m key mkv z K)
    (k : ∀ x ok a', Ag n ((d, .tuple #[mkv x, .bool ok]) :: l) a' → K x ok → N a' w) : G := by
  obtain ⟨es, x, hm, he, hK⟩ := hh
  exact op_valH g A hd (fun w' e => by simp [execOp, A.opd hx, A.opd hy, run_lookup hT hk hz hkey (e.mes hm), he]) fun a' A' => k x _ a' A' hK
theorem lmD_ {x : Operand} {T kt et : Nat} {td : TypeDesc} {m : Option Nat} {K : Int → Prop} (g : Hld P ⟨some d, .call { callee := .builtin .len, args := #[x], argTypes := #[T] }, ty, pos, af, none⟩ a w N G) (A : Ag n l a) (hd : Nat.blt d n = true) (hx : opd l x = some (.map m)) (hT : P.underlying T = some (.map kt et)) (hh : lm w td m K)
    (k : ∀ (x : Int) a', Ag n ((d, .int .i64 x) :: l) a' → K x → N a' w) : G := by
  obtain ⟨es, hm, hK⟩ := hh
  exact op_valH g A hd (fun w' e => run_lenm A hx hT (e.mes hm)) fun a' A' => k _ a' A' hK
theorem lktR_ {α : Type} {x y : Operand} {T kt et : Nat} {td : TypeDesc} {m : Option Nat} {key : Value} {mkv : α → Value} {z : α} {K : α → Prop} (g : Dir P Q ⟨some d, .lookup T x y false, ty, pos, af, none⟩ a w N G) (A : Ag n l a) (hd : Nat.blt d n = true) (hx : opd l x = some (.map m)) (hy : opd l y = some key)
    (hT : P.underlying T = some (.map kt et)) (hk : P.underlying kt = some td) (hz : zerOf P et = some (mkv z)) (hkey : MapKept.IsKey td key) (hh : lk w td m key mkv z K)
    (k : ∀ x a', Ag n ((d, mkv x) :: l) a' → K x → N a' w) : G := by
  obtain ⟨es, x, hm, he, hK⟩ := hh
  exact op_valR g A hd (by simp [execOp, A.opd hx, A.opd hy, run_lookup hT hk hz hkey hm, he]) fun a' A' => k x a' A' hK
theorem lkktR_ {α : Type} {x y : Operand} {T kt et : Nat} {td : TypeDesc} {m : Option Nat} {key : Value} {mkv : α → Value} {z : α} {K : α → Bool → Prop} (g : Dir P Q ⟨some d, .lookup T x y true, ty, pos, af, none⟩ a w N G) (A : Ag n l a) (hd : Nat.blt d n = true) (hx : opd l x = some (.map m)) (hy : opd l y = some key)
    (hT : P.underlying T = some (.map kt et)) (hk : P.underlying kt = some td) (hz : zerOf P et = some (mkv z)) (hkey : MapKept.IsKey td key) (hh : lkk w td m key mkv z K)
    (k : ∀ x ok a', Ag n ((d, .tuple #[mkv x, .bool ok]) :: l) a' → K x ok → N a' w) : G := by
  obtain ⟨es, x, hm, he, hK⟩ := hh
  exact op_valR g A hd (by simp [execOp, A.opd hx, A.opd hy, run_lookup hT hk hz hkey hm, he]) fun a' A' => k x _ a' A' hK
theorem lmR_ {x : Operand} {T kt et : Nat} {td : TypeDesc} {m : Option Nat} {K : Int → Prop} (g : Dir P Q ⟨some d, .call { callee := .builtin .len, args := #[x], argTypes := #[T] }, ty, pos, af, none⟩ a w N G) (A : Ag n l a) (hd : Nat.blt d n = true) (hx : opd l x = some (.map m)) (hT : P.underlying T = some (.map kt et)) (hh : lm w td m K)
    (k : ∀ (x : Int) a', Ag n ((d, .int .i64 x) :: l) a' → K x → N a' w) : G := by
  obtain ⟨es, hm, hK⟩ := hh
  exact op_valR g A hd (by exact run_lenm A hx hT hm) fun a' A' => k _ a' A' hK
end
/-! ### odds and ends -/
theorem one_nil : ∀ v ∈ ([] : List Value), v.oneCell' = true := fun v h => by cases h
theorem one_cons {v : Value} {r : List Value} (h : v.oneCell' = true) (t : ∀ u ∈ r, u.oneCell' = true) : ∀ u ∈ v :: r, u.oneCell' = true := by
  intro u hu
  cases hu with
  | head => exact h
  | tail _ hu => exact t u hu
section
variable {P : Program} {ops : Array Oper} {Q : Exit → Act → World → Prop} {a : Act} {w : World} {rest : List Oper} {n d s t ty : Nat} {l : Env} {pos : String} {af : Array Edge}
theorem sqa_ {x y z : Code} (h : x.wp P (Exit.then (y.wp P (Exit.then (z.wp P Q) Q)) (Exit.then (z.wp P Q) Q)) a w) : (Code.seq x (Code.seq y z)).wp P Q a w := by
  refine wp_seq (Code.wp_mono (fun e a w q => ?_) h)
  cases e <;> first | exact wp_seq q | exact q
theorem jn0a_ {x y z : Code} {rest : World → Prop} {body : (World → Prop) → Prop} (E : Env) (h : Jn0 rest body) (hz : ∀ w a, rest w → Ag n E a → z.wp P Q a w)
    (hx : ∀ J : World → Prop, body J → x.wp P (Exit.then (y.wp P (Exit.then (fun a w => J w ∧ Ag n E a) Q)) (Exit.then (fun a w => J w ∧ Ag n E a) Q)) a w) : (Code.seq x (Code.seq y z)).wp P Q a w := by
  obtain ⟨J, hJ, hb⟩ := h
  refine sqa_ (Code.wp_mono (fun e a w q => ?_) (hx J hb))
  have key : ∀ e a w, (Exit.then (fun a w => J w ∧ Ag n E a) Q) e a w → Exit.then (z.wp P Q) Q e a w := fun e a w q => by
    cases e <;> first | exact q | (obtain ⟨hj, hA⟩ := q; exact hz _ _ (hJ _ hj) hA)
  cases e with
  | normal => exact Code.wp_mono key q
  | exit i => exact key (.exit i) a w q
  | goto i => exact key (.goto i) a w q
  | ret => exact key .ret a w q
  | panic c => exact key (.panic c) a w q
  | outgrown => exact key .outgrown a w q
theorem jn1a_ {α : Type} {x y z : Code} {rest : α → World → Prop} {body : (α → World → Prop) → Prop} (E : α → Env) (h : Jn1 rest body) (hz : ∀ x0 w a, rest x0 w → Ag n (E x0) a → z.wp P Q a w)
    (hx : ∀ J : α → World → Prop, body J → x.wp P (Exit.then (y.wp P (Exit.then (fun a w => ∃ x0, J x0 w ∧ Ag n (E x0) a) Q)) (Exit.then (fun a w => ∃ x0, J x0 w ∧ Ag n (E x0) a) Q)) a w) : (Code.seq x (Code.seq y z)).wp P Q a w := by
  obtain ⟨J, hJ, hb⟩ := h
  refine sqa_ (Code.wp_mono (fun e a w q => ?_) (hx J hb))
  have key : ∀ e a w, (Exit.then (fun a w => ∃ x0, J x0 w ∧ Ag n (E x0) a) Q) e a w → Exit.then (z.wp P Q) Q e a w := fun e a w q => by
    cases e <;> first | exact q | (obtain ⟨x0, hj, hA⟩ := q; exact hz x0 _ _ (hJ x0 _ hj) hA)
  cases e with
  | normal => exact Code.wp_mono key q
  | exit i => exact key (.exit i) a w q
  | goto i => exact key (.goto i) a w q
  | ret => exact key .ret a w q
  | panic c => exact key (.panic c) a w q
  | outgrown => exact key .outgrown a w q
theorem jn2a_ {α β : Type} {x y z : Code} {rest : α → β → World → Prop} {body : (α → β → World → Prop) → Prop} (E : α → β → Env) (h : Jn2 rest body) (hz : ∀ x0 x1 w a, rest x0 x1 w → Ag n (E x0 x1) a → z.wp P Q a w)
    (hx : ∀ J : α → β → World → Prop, body J → x.wp P (Exit.then (y.wp P (Exit.then (fun a w => ∃ x0 x1, J x0 x1 w ∧ Ag n (E x0 x1) a) Q)) (Exit.then (fun a w => ∃ x0 x1, J x0 x1 w ∧ Ag n (E x0 x1) a) Q)) a w) : (Code.seq x (Code.seq y z)).wp P Q a w := by
  obtain ⟨J, hJ, hb⟩ := h
  refine sqa_ (Code.wp_mono (fun e a w q => ?_) (hx J hb))
  have key : ∀ e a w, (Exit.then (fun a w => ∃ x0 x1, J x0 x1 w ∧ Ag n (E x0 x1) a) Q) e a w → Exit.then (z.wp P Q) Q e a w := fun e a w q => by
    cases e <;> first | exact q | (obtain ⟨x0, x1, hj, hA⟩ := q; exact hz x0 x1 _ _ (hJ x0 x1 _ hj) hA)
  cases e with
  | normal => exact Code.wp_mono key q
  | exit i => exact key (.exit i) a w q
  | goto i => exact key (.goto i) a w q
  | ret => exact key .ret a w q
  | panic c => exact key (.panic c) a w q
  | outgrown => exact key .outgrown a w q
theorem jn3a_ {α β γ : Type} {x y z : Code} {rest : α → β → γ → World → Prop} {body : (α → β → γ → World → Prop) → Prop} (E : α → β → γ → Env) (h : Jn3 rest body) (hz : ∀ x0 x1 x2 w a, rest x0 x1 x2 w → Ag n (E x0 x1 x2) a → z.wp P Q a w)
    (hx : ∀ J : α → β → γ → World → Prop, body J → x.wp P (Exit.then (y.wp P (Exit.then (fun a w => ∃ x0 x1 x2, J x0 x1 x2 w ∧ Ag n (E x0 x1 x2) a) Q)) (Exit.then (fun a w => ∃ x0 x1 x2, J x0 x1 x2 w ∧ Ag n (E x0 x1 x2) a) Q)) a w) : (Code.seq x (Code.seq y z)).wp P Q a w := by
  obtain ⟨J, hJ, hb⟩ := h
  refine sqa_ (Code.wp_mono (fun e a w q => ?_) (hx J hb))
  have key : ∀ e a w, (Exit.then (fun a w => ∃ x0 x1 x2, J x0 x1 x2 w ∧ Ag n (E x0 x1 x2) a) Q) e a w → Exit.then (z.wp P Q) Q e a w := fun e a w q => by
    cases e <;> first | exact q | (obtain ⟨x0, x1, x2, hj, hA⟩ := q; exact hz x0 x1 x2 _ _ (hJ x0 x1 x2 _ hj) hA)
  cases e with
  | normal => exact Code.wp_mono key q
  | exit i => exact key (.exit i) a w q
  | goto i => exact key (.goto i) a w q
  | ret => exact key .ret a w q
  | panic c => exact key (.panic c) a w q
  | outgrown => exact key .outgrown a w q
theorem jn4a_ {α β γ δ : Type} {x y z : Code} {rest : α → β → γ → δ → World → Prop} {body : (α → β → γ → δ → World → Prop) → Prop} (E : α → β → γ → δ → Env) (h : Jn4 rest body) (hz : ∀ x0 x1 x2 x3 w a, rest x0 x1 x2 x3 w → Ag n (E x0 x1 x2 x3) a → z.wp P Q a w)
    (hx : ∀ J : α → β → γ → δ → World → Prop, body J → x.wp P (Exit.then (y.wp P (Exit.then (fun a w => ∃ x0 x1 x2 x3, J x0 x1 x2 x3 w ∧ Ag n (E x0 x1 x2 x3) a) Q)) (Exit.then (fun a w => ∃ x0 x1 x2 x3, J x0 x1 x2 x3 w ∧ Ag n (E x0 x1 x2 x3) a) Q)) a w) : (Code.seq x (Code.seq y z)).wp P Q a w := by
  obtain ⟨J, hJ, hb⟩ := h
  refine sqa_ (Code.wp_mono (fun e a w q => ?_) (hx J hb))
  have key : ∀ e a w, (Exit.then (fun a w => ∃ x0 x1 x2 x3, J x0 x1 x2 x3 w ∧ Ag n (E x0 x1 x2 x3) a) Q) e a w → Exit.then (z.wp P Q) Q e a w := fun e a w q => by
    cases e <;> first | exact q | (obtain ⟨x0, x1, x2, x3, hj, hA⟩ := q; exact hz x0 x1 x2 x3 _ _ (hJ x0 x1 x2 x3 _ hj) hA)
  cases e with
  | normal => exact Code.wp_mono key q
  | exit i => exact key (.exit i) a w q
  | goto i => exact key (.goto i) a w q
  | ret => exact key .ret a w q
  | panic c => exact key (.panic c) a w q
  | outgrown => exact key .outgrown a w q
theorem jn5a_ {α β γ δ ε : Type} {x y z : Code} {rest : α → β → γ → δ → ε → World → Prop} {body : (α → β → γ → δ → ε → World → Prop) → Prop} (E : α → β → γ → δ → ε → Env) (h : Jn5 rest body) (hz : ∀ x0 x1 x2 x3 x4 w a, rest x0 x1 x2 x3 x4 w → Ag n (E x0 x1 x2 x3 x4) a → z.wp P Q a w)
    (hx : ∀ J : α → β → γ → δ → ε → World → Prop, body J → x.wp P (Exit.then (y.wp P (Exit.then (fun a w => ∃ x0 x1 x2 x3 x4, J x0 x1 x2 x3 x4 w ∧ Ag n (E x0 x1 x2 x3 x4) a) Q)) (Exit.then (fun a w => ∃ x0 x1 x2 x3 x4, J x0 x1 x2 x3 x4 w ∧ Ag n (E x0 x1 x2 x3 x4) a) Q)) a w) : (Code.seq x (Code.seq y z)).wp P Q a w := by
  obtain ⟨J, hJ, hb⟩ := h
  refine sqa_ (Code.wp_mono (fun e a w q => ?_) (hx J hb))
  have key : ∀ e a w, (Exit.then (fun a w => ∃ x0 x1 x2 x3 x4, J x0 x1 x2 x3 x4 w ∧ Ag n (E x0 x1 x2 x3 x4) a) Q) e a w → Exit.then (z.wp P Q) Q e a w := fun e a w q => by
    cases e <;> first | exact q | (obtain ⟨x0, x1, x2, x3, x4, hj, hA⟩ := q; exact hz x0 x1 x2 x3 x4 _ _ (hJ x0 x1 x2 x3 x4 _ hj) hA)
  cases e with
  | normal => exact Code.wp_mono key q
  | exit i => exact key (.exit i) a w q
  | goto i => exact key (.goto i) a w q
  | ret => exact key .ret a w q
  | panic c => exact key (.panic c) a w q
  | outgrown => exact key .outgrown a w q
theorem jn6a_ {α β γ δ ε ζ : Type} {x y z : Code} {rest : α → β → γ → δ → ε → ζ → World → Prop} {body : (α → β → γ → δ → ε → ζ → World → Prop) → Prop} (E : α → β → γ → δ → ε → ζ → Env) (h : Jn6 rest body) (hz : ∀ x0 x1 x2 x3 x4 x5 w a, rest x0 x1 x2 x3 x4 x5 w → Ag n (E x0 x1 x2 x3 x4 x5) a → z.wp P Q a w)
    (hx : ∀ J : α → β → γ → δ → ε → ζ → World → Prop, body J → x.wp P (Exit.then (y.wp P (Exit.then (fun a w => ∃ x0 x1 x2 x3 x4 x5, J x0 x1 x2 x3 x4 x5 w ∧ Ag n (E x0 x1 x2 x3 x4 x5) a) Q)) (Exit.then (fun a w => ∃ x0 x1 x2 x3 x4 x5, J x0 x1 x2 x3 x4 x5 w ∧ Ag n (E x0 x1 x2 x3 x4 x5) a) Q)) a w) : (Code.seq x (Code.seq y z)).wp P Q a w := by
  obtain ⟨J, hJ, hb⟩ := h
  refine sqa_ (Code.wp_mono (fun e a w q => ?_) (hx J hb))
  have key : ∀ e a w, (Exit.then (fun a w => ∃ x0 x1 x2 x3 x4 x5, J x0 x1 x2 x3 x4 x5 w ∧ Ag n (E x0 x1 x2 x3 x4 x5) a) Q) e a w → Exit.then (z.wp P Q) Q e a w := fun e a w q => by
    cases e <;> first | exact q | (obtain ⟨x0, x1, x2, x3, x4, x5, hj, hA⟩ := q; exact hz x0 x1 x2 x3 x4 x5 _ _ (hJ x0 x1 x2 x3 x4 x5 _ hj) hA)
  cases e with
  | normal => exact Code.wp_mono key q
  | exit i => exact key (.exit i) a w q
  | goto i => exact key (.goto i) a w q
  | ret => exact key .ret a w q
  | panic c => exact key (.panic c) a w q
  | outgrown => exact key .outgrown a w q
theorem jn7a_ {α β γ δ ε ζ η : Type} {x y z : Code} {rest : α → β → γ → δ → ε → ζ → η → World → Prop} {body : (α → β → γ → δ → ε → ζ → η → World → Prop) → Prop} (E : α → β → γ → δ → ε → ζ → η → Env) (h : Jn7 rest body) (hz : ∀ x0 x1 x2 x3 x4 x5 x6 w a, rest x0 x1 x2 x3 x4 x5 x6 w → Ag n (E x0 x1 x2 x3 x4 x5 x6) a → z.wp P Q a w)
    (hx : ∀ J : α → β → γ → δ → ε → ζ → η → World → Prop, body J → x.wp P (Exit.then (y.wp P (Exit.then (fun a w => ∃ x0 x1 x2 x3 x4 x5 x6, J x0 x1 x2 x3 x4 x5 x6 w ∧ Ag n (E x0 x1 x2 x3 x4 x5 x6) a) Q)) (Exit.then (fun a w => ∃ x0 x1 x2 x3 x4 x5 x6, J x0 x1 x2 x3 x4 x5 x6 w ∧ Ag n (E x0 x1 x2 x3 x4 x5 x6) a) Q)) a w) : (Code.seq x (Code.seq y z)).wp P Q a w := by
  obtain ⟨J, hJ, hb⟩ := h
  refine sqa_ (Code.wp_mono (fun e a w q => ?_) (hx J hb))
  have key : ∀ e a w, (Exit.then (fun a w => ∃ x0 x1 x2 x3 x4 x5 x6, J x0 x1 x2 x3 x4 x5 x6 w ∧ Ag n (E x0 x1 x2 x3 x4 x5 x6) a) Q) e a w → Exit.then (z.wp P Q) Q e a w := fun e a w q => by
    cases e <;> first | exact q | (obtain ⟨x0, x1, x2, x3, x4, x5, x6, hj, hA⟩ := q; exact hz x0 x1 x2 x3 x4 x5 x6 _ _ (hJ x0 x1 x2 x3 x4 x5 x6 _ hj) hA)
  cases e with
  | normal => exact Code.wp_mono key q
  | exit i => exact key (.exit i) a w q
  | goto i => exact key (.goto i) a w q
  | ret => exact key .ret a w q
  | panic c => exact key (.panic c) a w q
  | outgrown => exact key .outgrown a w q
theorem jn8a_ {α β γ δ ε ζ η θ : Type} {x y z : Code} {rest : α → β → γ → δ → ε → ζ → η → θ → World → Prop} {body : (α → β → γ → δ → ε → ζ → η → θ → World → Prop) → Prop} (E : α → β → γ → δ → ε → ζ → η → θ → Env) (h : Jn8 rest body) (hz : ∀ x0 x1 x2 x3 x4 x5 x6 x7 w a, rest x0 x1 x2 x3 x4 x5 x6 x7 w → Ag n (E x0 x1 x2 x3 x4 x5 x6 x7) a → z.wp P Q a w)
    (hx : ∀ J : α → β → γ → δ → ε → ζ → η → θ → World → Prop, body J → x.wp P (Exit.then (y.wp P (Exit.then (fun a w => ∃ x0 x1 x2 x3 x4 x5 x6 x7, J x0 x1 x2 x3 x4 x5 x6 x7 w ∧ Ag n (E x0 x1 x2 x3 x4 x5 x6 x7) a) Q)) (Exit.then (fun a w => ∃ x0 x1 x2 x3 x4 x5 x6 x7, J x0 x1 x2 x3 x4 x5 x6 x7 w ∧ Ag n (E x0 x1 x2 x3 x4 x5 x6 x7) a) Q)) a w) : (Code.seq x (Code.seq y z)).wp P Q a w := by
  obtain ⟨J, hJ, hb⟩ := h
  refine sqa_ (Code.wp_mono (fun e a w q => ?_) (hx J hb))
  have key : ∀ e a w, (Exit.then (fun a w => ∃ x0 x1 x2 x3 x4 x5 x6 x7, J x0 x1 x2 x3 x4 x5 x6 x7 w ∧ Ag n (E x0 x1 x2 x3 x4 x5 x6 x7) a) Q) e a w → Exit.then (z.wp P Q) Q e a w := fun e a w q => by
    cases e <;> first | exact q | (obtain ⟨x0, x1, x2, x3, x4, x5, x6, x7, hj, hA⟩ := q; exact hz x0 x1 x2 x3 x4 x5 x6 x7 _ _ (hJ x0 x1 x2 x3 x4 x5 x6 x7 _ hj) hA)
  cases e with
  | normal => exact Code.wp_mono key q
  | exit i => exact key (.exit i) a w q
  | goto i => exact key (.goto i) a w q
  | ret => exact key .ret a w q
  | panic c => exact key (.panic c) a w q
  | outgrown => exact key .outgrown a w q
theorem res3 {fn : Func} {t u v : Nat} {x y z : Value} (h : fn.results = #[.tmp t, .tmp u, .tmp v]) (hx : look l t = some x) (hy : look l u = some y) (hz : look l v = some z) (a : Act) (A : Ag n l a) : (results fn a.tmps).run P w = .ok (.tuple #[x, y, z]) w := by
  have h1 := A.get t x hx
  have h2 := A.get u y hy
  have h3 := A.get v z hz
  simp only [Array.getD_eq_getD_getElem?] at h1 h2 h3
  simp [results, h, h1, h2, h3]
theorem run_resc {α : Type} {cells : α → List Value} {m : Nat} {b : Addr} {x : α} (hT : isAggr P t = true) (hz : szOf P t = some m) (hl : (cells x).length = m) (hc : CellsAt w b 0 (cells x)) : (loadVar t b).run P w = .ok (.agg (cells x).toArray) w := by
  have := run_loadAtA (P := P) (T := t) hT hz hl hc
  simpa [Instr.loadAt, Instr.sureAddr] using this
theorem rt_c1 {α : Type} {fn : Func} {R : Ending → World → Prop} {cells : α → List Value} {m : Nat} {b : Addr} {K : α → Prop} (A : Ag n l a) (hr : fn.results = #[.cell s t]) (hs : look l s = some (.pointer (some b))) (hT : isAggr P t = true) (hz : szOf P t = some m) (hl : ∀ x, (cells x).length = m)
    (hh : ldT cells w b K) (k : ∀ x, K x → R (.returned (.agg (cells x).toArray)) w) : bodyPost P fn R .ret a w := by
  obtain ⟨x, hc, hK⟩ := hh
  refine ⟨A.defers, _, ?_, k x hK⟩
  have h1 := A.get s _ hs
  simp only [Array.getD_eq_getD_getElem?] at h1
  simp only [results, hr]
  simp [h1, asAddr, run_resc hT hz (hl x) hc]
theorem rt_c2 {α : Type} {fn : Func} {R : Ending → World → Prop} {cells : α → List Value} {m u : Nat} {b : Addr} {K : α → Prop} {y : Value} (A : Ag n l a) (hr : fn.results = #[.cell s t, .tmp u]) (hs : look l s = some (.pointer (some b))) (hu : look l u = some y) (hT : isAggr P t = true) (hz : szOf P t = some m) (hl : ∀ x, (cells x).length = m)
    (hh : ldT cells w b K) (k : ∀ x, K x → R (.returned (.tuple #[.agg (cells x).toArray, y])) w) : bodyPost P fn R .ret a w := by
  obtain ⟨x, hc, hK⟩ := hh
  refine ⟨A.defers, _, ?_, k x hK⟩
  have h1 := A.get s _ hs
  have h2 := A.get u _ hu
  simp only [Array.getD_eq_getD_getElem?] at h1 h2
  simp only [results, hr]
  simp [h1, h2, asAddr, run_resc hT hz (hl x) hc]
/-! ### == of structs -/
theorem part_scal {cs : Array Value} {off : Nat} {v : Value} (hT : isScal P t = true) (h : cs[off]? = some v) : (part t cs off).run P w = .ok v w := by
  simp [part, run_isAgg_scal hT, h]
theorem part_agg {cs : Array Value} {off m : Nat} {v : Array Value} (hT : isAggr P t = true) (hs : szOf P t = some m) (h : cs.extract off (off + m) = v) : (part t cs off).run P w = .ok (.agg v) w := by
  simp [part, run_isAgg_aggr hT, run_szOf hs, h]
section
variable {xs ys : Array Value} {f : Field} {fs : List Field} {u v : Value} {r q : Bool}
theorem eqf_cons {d : Nat} (hn : (f.name == "_") = false) (ha : (part f.type xs f.offset).run P w = .ok u w) (hb : (part f.type ys f.offset).run P w = .ok v w) (he : (Op.equalIn d f.type u v).run P w = .ok r w) (hr : (Op.eqFields d xs ys fs).run P w = .ok q w) :
    (Op.eqFields d xs ys (f :: fs)).run P w = .ok (r && q) w := by
  have hn' : f.name ≠ "_" := by simpa using hn
  rw [Op.eqFields]
  simp only [if_pos hn', Sem.run_bind, ha, hb, he, Result.andThen_ok]
  cases r
  · simp
  · simpa using hr
theorem eqf_nil {d : Nat} : (Op.eqFields d xs ys []).run P w = .ok true w := by simp [Op.eqFields]
theorem eqs_of {d : Nat} {fs : Array Field} (hu : P.underlying t = some (.struct fs)) (hp : P.stoodInHeld t = false) (h : (Op.eqFields d xs ys fs.toList).run P w = .ok r w) : (Op.equalIn (d + 1) t (.agg xs) (.agg ys)).run P w = .ok r w := by
  have hf : P.fieldsOf t = fs := by simp [Program.fieldsOf, hu]
  rw [run_equalIn_struct (P := P) w d t xs ys (by rw [hf]; exact hu) hp, hf]
  exact h
theorem eqs_int {d : Nat} {kd : IntKind} {i j : Int} (h : P.underlying t = some (.int kd)) : (Op.equalIn (d + 1) t (.int kd i) (.int kd j)).run P w = .ok (decide (i = j)) w := by
  rw [run_equalIn_int (P := P) w d t kd kd i j h]; rfl
theorem eqs_str {d : Nat} {i j : ByteArray} (h : P.underlying t = some .string) : (Op.equalIn (d + 1) t (.string i) (.string j)).run P w = .ok (decide (i = j)) w := by
  rw [run_equalIn_string (P := P) w d t i j h, toList_beq]
theorem run_eqv5 (hb : binOp .eql t u v = (do pure (.bool (← Op.equal t u v)))) (h : ∀ d, (Op.equalIn (d + 5) t u v).run P w = .ok r w) : (binOp .eql t u v).run P w = .ok (.bool r) w := by
  have h' : (Op.equal t u v).run P w = .ok r w := h 9995
  rw [hb]
  simp only [Sem.run_bind, h', Result.andThen_ok, Sem.run_pure]
theorem run_nev5 (hb : binOp .neq t u v = (do pure (.bool (!(← Op.equal t u v))))) (h : ∀ d, (Op.equalIn (d + 5) t u v).run P w = .ok r w) : (binOp .neq t u v).run P w = .ok (.bool (!r)) w := by
  have h' : (Op.equal t u v).run P w = .ok r w := h 9995
  rw [hb]
  simp only [Sem.run_bind, h', Result.andThen_ok, Sem.run_pure]
theorem run_guard {op : BinOp} (hg : P.eqGuardType P.depth t = false) (ox oy : Operand) : (eqGuard op t ox oy (.agg xs) (.agg ys)).run P w = .ok () w := by
  cases op <;> first | rfl | simp [eqGuard, hg]
variable {x y : Operand} {yt : Nat}
theorem steq_ (A : Ag n l a) (hd : Nat.blt d n = true) (hx : opd l x = some (.agg xs)) (hy : opd l y = some (.agg ys)) (hg : P.eqGuardType P.depth t = false) (he : ∀ d w, (Op.equalIn (d + 5) t (.agg xs) (.agg ys)).run P w = .ok r w) (k : ∀ a', Ag n ((d, .bool r) :: l) a' → wpList P ops Q rest a' w) :
    wpList P ops Q (⟨some d, .binOp .eql t x y yt, ty, pos, af, none⟩ :: rest) a w := bi_ A hd hx hy (run_guard hg) (run_eqv5 rfl fun d => he d w) k
theorem stne_ (A : Ag n l a) (hd : Nat.blt d n = true) (hx : opd l x = some (.agg xs)) (hy : opd l y = some (.agg ys)) (hg : P.eqGuardType P.depth t = false) (he : ∀ d w, (Op.equalIn (d + 5) t (.agg xs) (.agg ys)).run P w = .ok r w) (k : ∀ a', Ag n ((d, .bool (!r)) :: l) a' → wpList P ops Q rest a' w) :
    wpList P ops Q (⟨some d, .binOp .neq t x y yt, ty, pos, af, none⟩ :: rest) a w := bi_ A hd hx hy (run_guard hg) (run_nev5 rfl fun d => he d w) k
theorem steqD_ {N : Act → World → Prop} {G : Prop} (g : Pur P ⟨some d, .binOp .eql t x y yt, ty, pos, af, none⟩ a w N G) (A : Ag n l a) (hd : Nat.blt d n = true) (hx : opd l x = some (.agg xs)) (hy : opd l y = some (.agg ys)) (hg : P.eqGuardType P.depth t = false) (he : ∀ d w, (Op.equalIn (d + 5) t (.agg xs) (.agg ys)).run P w = .ok r w) (k : ∀ a', Ag n ((d, .bool r) :: l) a' → N a' w) : G :=
  biD_ g A hd hx hy (fun _ => run_guard hg) (fun w => run_eqv5 rfl fun d => he d w) k
theorem stneD_ {N : Act → World → Prop} {G : Prop} (g : Pur P ⟨some d, .binOp .neq t x y yt, ty, pos, af, none⟩ a w N G) (A : Ag n l a) (hd : Nat.blt d n = true) (hx : opd l x = some (.agg xs)) (hy : opd l y = some (.agg ys)) (hg : P.eqGuardType P.depth t = false) (he : ∀ d w, (Op.equalIn (d + 5) t (.agg xs) (.agg ys)).run P w = .ok r w) (k : ∀ a', Ag n ((d, .bool (!r)) :: l) a' → N a' w) : G :=
  biD_ g A hd hx hy (fun _ => run_guard hg) (fun w => run_nev5 rfl fun d => he d w) k
end
/-! ### calls that touch nothing old, in a drawn region -/
variable {N : Act → World → Prop} {G : Prop}
theorem clE_ {f : FuncId} {xs : List Operand} {ts : Array TypeId} {vs : List Value} {K : Value → World → Prop} (g : Exd P Q ⟨some d, .call { callee := .value (.func f), args := xs.toArray, argTypes := ts }, ty, pos, af, none⟩ a w N G) (A : Ag n l a) (hd : Nat.blt d n = true) (hf : bodied P f = true) (hx : opds l xs = some vs) (hh : cl P f vs w fun v w' => Ext w w' ∧ K v w')
    (k : ∀ v w' a', Ag n ((d, v) :: l) a' → K v w' → N a' w') : G := by
  refine g (fun K' hK' => ?_)
  have : (execOp a.eval ⟨some d, .call { callee := .value (.func f), args := xs.toArray, argTypes := ts }, ty, pos, af, none⟩).run P w = .ok (.enter f vs.toArray) w := by
    simp [execOp, resolve, Act.eval, Deferred.ofValue, invoke, A.opds hx, run_callFunc hf]
  unfold Oper.wp
  rw [this]
  refine Calls.mono hh ?_
  rintro e w' ⟨v, rfl, hE, hK⟩
  exact hK' _ _ hE (k v w' _ (A.put hd v) hK)
def clE1 {α : Type} (P : Program) (f : FuncId) (args : List Value) (w : World) (m0 : α → Value) (K : α → World → Prop) : Prop := cl1 P f args w m0 fun x w' => Ext w w' ∧ K x w'
theorem c1E_ {α : Type} {m0 : α → Value} {f : FuncId} {xs : List Operand} {ts : Array TypeId} {vs : List Value} {K : α → World → Prop} (g : Exd P Q ⟨some d, .call { callee := .value (.func f), args := xs.toArray, argTypes := ts }, ty, pos, af, none⟩ a w N G) (A : Ag n l a) (hd : Nat.blt d n = true) (hf : bodied P f = true) (hx : opds l xs = some vs) (hh : clE1 P f vs w m0 K)
    (k : ∀ x0 w' a', Ag n ((d, m0 x0) :: l) a' → K x0 w' → N a' w') : G :=
  clE_ g (K := fun v w' => ∃ x0, v = m0 x0 ∧ K x0 w') A hd hf hx (Calls.mono hh fun e w' h => by
    obtain ⟨x0, h1, h2, h3⟩ := h
    exact ⟨_, h1, h2, x0, rfl, h3⟩) fun v w' a' A' h => by
    obtain ⟨x0, rfl, h⟩ := h
    exact k x0 w' a' A' h
end
end Go.Low
