import Derived.Test.YtmmkhlalhalomaaLowD
import Derived.Laws.MakeOwn
import Derived.Maps.RangeRun
import Derived.Laws.RangeString
import Derived.Scope
set_option linter.unusedVariables false
set_option linter.unusedSectionVars false
set_option linter.unusedSimpArgs false
namespace Go.Low
open Go
open Go.ChangeMaps (setBlock)
section
variable {P : Program} {ops : Array Oper} {Q : Exit → Act → World → Prop} {a : Act} {w : World} {rest : List Oper} {n d s t ty : Nat} {l : Env} {pos : String} {af : Array Edge}
/-! ### make of slices -/
def ma (w : World) (e sz bts : Nat) (z : Array Value) (i : Int) (K : Sl → World → Prop) : Prop :=
  0 ≤ i ∧ bts * i ≤ 281474976710656 ∧ i ≤ 9223372036854775807 ∧ K ⟨some ⟨w.heap.size, 0, none⟩, i.toNat, i.toNat⟩ (w.alloc (.cells (madeCells z (i.toNat * sz)) e))
theorem info_of {e sz bts : Nat} {z : Value} (hs : szOf P e = some sz) (hb : byOf P e = some bts) (hz : zerOf P e = some z) : ∃ i, P.info? e = some i ∧ i.size = sz ∧ i.bytes = bts ∧ i.zero = some z := by
  unfold szOf at hs
  cases hq : P.info? e with
  | none => simp [hq] at hs
  | some i => exact ⟨i, rfl, by simpa [hq] using hs, by simpa [byOf, hq] using hb, by simpa [zerOf, hq] using hz⟩
theorem ma_ {x y : Operand} {T e sz bts : Nat} {z : Value} {i : Int} {kx ky : IntKind} {K : Sl → World → Prop} (A : Ag n l a) (hd : Nat.blt d n = true) (hx : opd l x = some (.int kx i)) (hy : opd l y = some (.int ky i))
    (hT : P.underlying T = some (.slice e)) (hs : szOf P e = some sz) (hb : byOf P e = some bts) (hz : zerOf P e = some z) (hh : ma w e sz bts z.cells i K)
    (k : ∀ s' w' a', Ag n ((d, Sl.v s') :: l) a' → K s' w' → wpList P ops Q rest a' w') : wpList P ops Q (⟨some d, .makeSlice T x y, ty, pos, af, none⟩ :: rest) a w := by
  obtain ⟨h0, hby, h63, hK⟩ := hh
  obtain ⟨inf, hi, rfl, rfl, hz'⟩ := info_of hs hb hz
  exact op_val A hd (by simp [execOp, A.opd hx, A.opd hy, run_make (P := P) w T e inf z hT hi hz' kx ky i i h0 (Int.le_refl _) hby h63]; rfl) fun a' A' => k _ _ a' A' hK
/-! ### append of a make -/
def apz (w : World) (e sz bts : Nat) (z : Array Value) (p : Option Addr) (m c : Nat) (i : Int) (K : Sl → World → Prop) : Prop :=
  ∃ k : Nat, i = k ∧ (∀ v ∈ z.toList, v.oneCell' = true) ∧ z.size = sz ∧
  (m + k ≤ c → (p = none → K ⟨none, m + k, c⟩ w) ∧ ∀ b, p = some b → st w (b.add (m * sz)) (Builtin.zeroCells z k).toList (fun w' => K ⟨some b, m + k, c⟩ w')) ∧
  (m + k) * bts ≤ 140737488355328 ∧ m + k < 9223372036854775808 ∧
  (c < m + k → ∃ old : List Value, old.length = m * sz ∧ (p = none → m = 0) ∧ (∀ b, p = some b → CellsAt w b 0 old) ∧
    ∀ cap, m + k ≤ cap → cap < 9223372036854775808 → K ⟨some ⟨w.heap.size, 0, none⟩, m + k, cap⟩ (w.drew.alloc (.cells ((old ++ (Builtin.zeroCells z k).toList).toArray ++ Builtin.zeroCells z (cap - (m + k))) e)))
theorem zeroCells_one {z : Array Value} (h : ∀ v ∈ z.toList, v.oneCell' = true) (k : Nat) : ∀ v ∈ (Builtin.zeroCells z k).toList, v.oneCell' = true := by
  intro v hv
  simp only [Builtin.zeroCells, Array.toList_map, List.mem_map] at hv
  obtain ⟨i, hi, rfl⟩ := hv
  have hi' : i < k * z.size := by simpa using hi
  have hz : 0 < z.size := Nat.pos_of_ne_zero fun h0 => by rw [h0] at hi'; simp at hi'
  have hm := Nat.mod_lt i hz
  rw [getElem!_pos z _ hm]
  exact h _ (by simp)
theorem run_appz {T T2 e sz bts : Nat} {z : Value} {kd : IntKind} {p : Option Addr} {m c : Nat} {i : Int} {K : Sl → World → Prop} (hT : P.underlying T = some (.slice e)) (hT2 : P.underlying T2 = some (.int kd))
    (hs : szOf P e = some sz) (hb : byOf P e = some bts) (hz : zerOf P e = some z) (hh : apz w e sz bts z.cells p m c i K) :
    ∃ (s' : Sl) (w' : World), (Builtin.append_ #[T, T2] ty #[.slice p m c, .int .i64 i]).run P w = .ok s'.v w' ∧ K s' w' := by
  obtain ⟨k, rfl, h1, hzs, hfit, hby, h63, hgrow⟩ := hh
  obtain ⟨inf, hi, hsz, hib, hz'⟩ := info_of hs hb hz
  have hw : IntKind.i64.wrap (k : Int) = k := by rw [IntKind.wrap_i64]; omega
  have n1 : ¬ ((k : Int) < 0) := by omega
  have hkb : k * bts ≤ 140737488355328 := Nat.le_trans (Nat.mul_le_mul_right _ (by omega)) hby
  have n2 : ¬ (281474976710656 < (k : Int) * (bts : Int)) := by
    have : ((k * bts : Nat) : Int) ≤ 140737488355328 := by omega
    rw [Int.natCast_mul] at this; omega
  have hz0 : k * sz = 0 → Builtin.zeroCells z.cells k = #[] := fun h0 => Array.eq_empty_of_size_eq_zero (by simp [Builtin.zeroCells, hzs, h0])
  have hones := zeroCells_one h1 k
  by_cases hle : m + k ≤ c
  · obtain ⟨h0, h2⟩ := hfit hle
    cases p with
    | none =>
      refine ⟨⟨none, m + k, c⟩, w, ?_, h0 rfl⟩
      by_cases hk0 : k * sz = 0
      · simp [Builtin.append_, run_underlying hT, run_underlying hT2, run_szOf hs, hw, n1, n2, typeInfo, hi, hib, asInt, asIntOf, hle, hk0, hz0 hk0, Sl.v]
      · simp [Builtin.append_, run_underlying hT, run_underlying hT2, run_szOf hs, hw, n1, n2, typeInfo, hi, hib, asInt, asIntOf, hle, hk0, run_zerOf hz, Sl.v]
    | some b =>
      obtain ⟨w', hr, hK⟩ := run_stC (P := P) hones (h2 b rfl)
      refine ⟨⟨some b, m + k, c⟩, w', ?_, hK⟩
      by_cases hk0 : k * sz = 0
      · rw [hz0 hk0] at hr
        simp at hr
        simp [Builtin.append_, run_underlying hT, run_underlying hT2, run_szOf hs, hw, n1, n2, typeInfo, hi, hib, asInt, asIntOf, hle, hk0, hr, Sl.v]
      · simp [Builtin.append_, run_underlying hT, run_underlying hT2, run_szOf hs, hw, n1, n2, typeInfo, hi, hib, asInt, asIntOf, hle, hk0, run_zerOf hz, hr, Sl.v]
  · obtain ⟨old, hol, hpn, hoc, hK⟩ := hgrow (by omega)
    have h48 : ¬ (281474976710656 < Builtin.nextslicecap (m + k) c * bts) := by
      have := growslice_fits (need := m + k) (old := c) (bytes := bts) (by omega) hby
      omega
    have hlt := Nat.mod_lt (w.tape w.drawn (.appendCap (m + k) c e)) (show 0 < 2 ^ 63 - (m + k) by omega)
    have hfo : (Builtin.firstCells sz m (.slice p m c)).run P w.drew = .ok old.toArray w.drew :=
      run_first (w := w.drew) (src := .slice p m c) ⟨rfl, hol, hpn, fun b hb => (hoc b hb).drew⟩
    refine ⟨⟨some ⟨w.heap.size, 0, none⟩, m + k, m + k + w.tape w.drawn (.appendCap (m + k) c e) % (2 ^ 63 - (m + k))⟩, _, ?_, hK (m + k + w.tape w.drawn (.appendCap (m + k) c e) % (2 ^ 63 - (m + k))) (by omega) (by omega)⟩
    have h63' : ¬ ((m + k : Nat) : Int) > 9223372036854775807 := by omega
    have h63'' : ¬ 9223372036854775807 < (m : Int) + (k : Int) := by omega
    by_cases hk0 : k * sz = 0
    · simp [Builtin.append_, run_underlying hT, run_underlying hT2, run_szOf hs, hw, n1, n2, asInt, asIntOf, hle, typeInfo, hi, hib, h48, h63'', Question.forced, Question.cut, hfo, hk0, hz0 hk0, run_zerOf hz, newRow, Sl.v]
    · simp [Builtin.append_, run_underlying hT, run_underlying hT2, run_szOf hs, hw, n1, n2, asInt, asIntOf, hle, typeInfo, hi, hib, h48, h63'', Question.forced, Question.cut, hfo, hk0, run_zerOf hz, newRow, Sl.v]
      rw [← List.append_toArray, Array.append_assoc]
theorem apz_ {x y : Operand} {T T2 e sz bts : Nat} {z : Value} {kd : IntKind} {p : Option Addr} {m c : Nat} {i : Int} {K : Sl → World → Prop} (A : Ag n l a) (hd : Nat.blt d n = true) (hx : opd l x = some (.slice p m c)) (hy : opd l y = some (.int .i64 i))
    (hT : P.underlying T = some (.slice e)) (hT2 : P.underlying T2 = some (.int kd))
    (hs : szOf P e = some sz) (hb : byOf P e = some bts) (hz : zerOf P e = some z) (hh : apz w e sz bts z.cells p m c i K)
    (k : ∀ s' w' a', Ag n ((d, Sl.v s') :: l) a' → K s' w' → wpList P ops Q rest a' w') :
    wpList P ops Q (⟨some d, .call { callee := .builtin .append, args := #[x, y], argTypes := #[T, T2] }, ty, pos, af, none⟩ :: rest) a w := by
  obtain ⟨s', w', hr, hK⟩ := run_appz (ty := ty) hT hT2 hs hb hz hh
  exact op_val A hd (by simp [execOp, A.opd hx, A.opd hy, resolve, invoke, builtin, hr]) fun a' A' => k s' w' a' A' hK
/-! ### range over maps -/
def rgm (w : World) (m : Option Nat) (K : Nat → World → Prop) : Prop :=
  ∃ es ck, (m = none → ck = 0) ∧ (∀ b, m = some b → w.heap[b]? = some (.map es ck)) ∧ K w.heap.size (w.alloc (.mapIter m ck #[] ck))
theorem rgm_ {x : Operand} {T kt vt : Nat} {m : Option Nat} {K : Nat → World → Prop} (A : Ag n l a) (hd : Nat.blt d n = true) (hx : opd l x = some (.map m)) (hT : P.underlying T = some (.map kt vt)) (hh : rgm w m K)
    (k : ∀ r w' a', Ag n ((d, .pointer (some ⟨r, 0, none⟩)) :: l) a' → K r w' → wpList P ops Q rest a' w') : wpList P ops Q (⟨some d, .range T x, ty, pos, af, none⟩ :: rest) a w := by
  obtain ⟨es, ck, h0, h1, hK⟩ := hh
  cases m with
  | none =>
    have := h0 rfl
    subst this
    exact op_val A hd (by simp [execOp, A.opd hx, run_range_nilMap (P := P) w T kt vt hT]) fun a' A' => k _ _ a' A' hK
  | some b => exact op_val A hd (by simp [execOp, A.opd hx, run_range_map (P := P) w T kt vt b es ck hT (h1 b rfl)]) fun a' A' => k _ _ a' A' hK
def nxm {α β : Type} (w : World) (r : Addr) (m0 : α → Value) (m1 : β → Value) (Kd : World → Prop) (Km : α → β → World → Prop) : Prop :=
  ∃ bm since seen c0 es ck, r = ⟨r.block, 0, none⟩ ∧ w.heap[r.block]? = some (.mapIter (some bm) since seen c0) ∧ w.heap[bm]? = some (.map es ck) ∧ (∀ x ∈ es.toList, x.born < since) ∧ since ≤ c0 ∧
    ((leftOf es seen).size = 0 → Kd w) ∧ ∀ e ∈ (leftOf es seen).toList, ∃ x y, e.key = m0 x ∧ e.val = m1 y ∧ ∀ w1, (w1 = w ∨ w1 = w.drew) → Km x y (setBlock w1 r.block (.mapIter (some bm) since (seen.push e.born) ck))
theorem nxm_ {α β : Type} {m0 : α → Value} {m1 : β → Value} {x : Operand} {r : Addr} {Kd : World → Prop} {Km : α → β → World → Prop} (A : Ag n l a) (hd : Nat.blt d n = true) (hx : opd l x = some (.pointer (some r))) (hh : nxm w r m0 m1 Kd Km)
    (k0 : ∀ a', Ag n ((d, .tuple #[.bool false]) :: l) a' → Kd w → wpList P ops Q rest a' w)
    (k1 : ∀ x y w' a', Ag n ((d, .tuple #[.bool true, m0 x, m1 y]) :: l) a' → Km x y w' → wpList P ops Q rest a' w') : wpList P ops Q (⟨some d, .next x false, ty, pos, af, none⟩ :: rest) a w := by
  obtain ⟨bm, since, seen, c0, es, ck, hr, hit, hm, hold, hsc, hK0, hK1⟩ := hh
  rw [hr] at hx
  rcases run_next_at (P := P) w ty r.block bm since c0 seen es ck hit hm hold hsc with ⟨h0, hrun⟩ | ⟨e, he, w1, hw1, hrun⟩
  · exact op_val A hd (by simp [execOp, A.opd hx, hrun]) fun a' A' => k0 a' A' (hK0 h0)
  · obtain ⟨x0, y0, hx0, hy0, hk⟩ := hK1 e he
    rw [hx0, hy0] at hrun
    exact op_val A hd (by simp [execOp, A.opd hx, hrun]) fun a' A' => k1 x0 y0 _ a' A' (hk w1 hw1)
def enm {α β : Type} (w : World) (r : Addr) (m0 : α → Value) (m1 : β → Value) (K : α → β → Prop) : Prop :=
  ∃ bm since seen es ck e x y, r = ⟨r.block, 0, none⟩ ∧ w.heap[r.block]? = some (.mapIter (some bm) since (Array.push seen (MapEntry.born e)) ck) ∧ w.heap[bm]? = some (.map es ck) ∧ e ∈ es.toList ∧ (es.toList.map (·.born)).Nodup ∧ e.key = m0 x ∧ e.val = m1 y ∧ K x y
theorem enm_ {α β : Type} {m0 : α → Value} {m1 : β → Value} {x : Operand} {r : Addr} {K : α → β → Prop} (A : Ag n l a) (hd : Nat.blt d n = true) (hx : opd l x = some (.pointer (some r))) (hh : enm w r m0 m1 K)
    (k : ∀ x y a', Ag n ((d, .tuple #[m0 x, m1 y]) :: l) a' → K x y → wpList P ops Q rest a' w) : wpList P ops Q (⟨some d, .entry x, ty, pos, af, none⟩ :: rest) a w := by
  obtain ⟨bm, since, seen, es, ck, e, x0, y0, hr, hit, hm, he, hn, hx0, hy0, hK⟩ := hh
  rw [hr] at hx
  have hrun := run_entry_at (P := P) w r.block bm since seen es ck e hit hm he hn
  rw [hx0, hy0] at hrun
  exact op_val A hd (by simp [execOp, A.opd hx, hrun]) fun a' A' => k x0 y0 a' A' hK
/-! ### range over strings -/
def rgs (w : World) (s : ByteArray) (K : Nat → World → Prop) : Prop := K w.heap.size (w.alloc (.stringIter s 0))
theorem rgs_ {x : Operand} {T : Nat} {s : ByteArray} {K : Nat → World → Prop} (A : Ag n l a) (hd : Nat.blt d n = true) (hx : opd l x = some (.string s)) (hT : P.underlying T = some .string) (hh : rgs w s K)
    (k : ∀ r w' a', Ag n ((d, .pointer (some ⟨r, 0, none⟩)) :: l) a' → K r w' → wpList P ops Q rest a' w') : wpList P ops Q (⟨some d, .range T x, ty, pos, af, none⟩ :: rest) a w :=
  op_val A hd (by simp [execOp, A.opd hx, run_range_string (P := P) w T s hT]; rfl) fun a' A' => k _ _ a' A' hh
def nxs (w : World) (r : Addr) (Kd : World → Prop) (Km : Int → Int → World → Prop) : Prop :=
  ∃ s p, r = ⟨r.block, 0, none⟩ ∧ w.heap[r.block]? = some (.stringIter s p) ∧ (¬ p < s.size → Kd w) ∧ (p < s.size → Km p (Utf8.decode s p).1 (setBlock w r.block (.stringIter s (p + (Utf8.decode s p).2))))
theorem nxs_ {x : Operand} {r : Addr} {Kd : World → Prop} {Km : Int → Int → World → Prop} (A : Ag n l a) (hd : Nat.blt d n = true) (hx : opd l x = some (.pointer (some r))) (hh : nxs w r Kd Km)
    (k0 : ∀ a', Ag n ((d, .tuple #[.bool false]) :: l) a' → Kd w → wpList P ops Q rest a' w)
    (k1 : ∀ x y w' a', Ag n ((d, .tuple #[.bool true, .int .i64 x, .int .i32 y]) :: l) a' → Km x y w' → wpList P ops Q rest a' w') : wpList P ops Q (⟨some d, .next x true, ty, pos, af, none⟩ :: rest) a w := by
  obtain ⟨s, p, hr, hit, hK0, hK1⟩ := hh
  rw [hr] at hx
  by_cases hp : p < s.size
  · refine op_val A hd (w' := setBlock w r.block (.stringIter s (p + (Utf8.decode s p).2))) ?_ fun a' A' => k1 p (Utf8.decode s p).1 _ a' A' (hK1 hp)
    simp [execOp, A.opd hx, Instr.next, getObj, setObj, Sem.run, hit, hp, setBlock, goInt]
  · refine op_val A hd ?_ fun a' A' => k0 a' A' (hK0 hp)
    simp [execOp, A.opd hx, Instr.next, getObj, Sem.run, hit, hp]
/-! ### calls through a function value -/
def cv (P : Program) (v : Value) (K : FuncId → Prop) : Prop := ∃ f, v = .func (.func f) #[] #[] ∧ bodied P f = true ∧ K f
def cv1 {α : Type} (P : Program) (v : Value) (args : List Value) (w : World) (m0 : α → Value) (K : α → World → Prop) : Prop := cv P v fun f => cl1 P f args w m0 K
theorem cv1_ {α : Type} {m0 : α → Value} {v : Value} {x : Nat} {xs : List Operand} {ts : Array TypeId} {vs : List Value} {K : α → World → Prop} (A : Ag n l a) (hd : Nat.blt d n = true) (hv : opd l (.tmp x) = some v) (hx : opds l xs = some vs) (hh : cv1 P v vs w m0 K)
    (k : ∀ x0 w' a', Ag n ((d, m0 x0) :: l) a' → K x0 w' → wpList P ops Q rest a' w') :
    wpList P ops Q (⟨some d, .call { callee := .value (.tmp x), args := xs.toArray, argTypes := ts }, ty, pos, af, none⟩ :: rest) a w := by
  obtain ⟨f, rfl, hf, hh⟩ := hh
  refine wpList_plain rfl fun K' hK' => ?_
  have hv' := A.opd hv
  have : (execOp a.eval ⟨some d, .call { callee := .value (.tmp x), args := xs.toArray, argTypes := ts }, ty, pos, af, none⟩).run P w = .ok (.enter f vs.toArray) w := by
    simp [execOp, resolve, hv', Deferred.ofValue, invoke, A.opds hx, run_callFunc hf]
  unfold Oper.wp
  rw [this]
  refine Calls.mono hh ?_
  rintro e w' ⟨x0, rfl, hK⟩
  exact hK' _ _ (k x0 w' _ (A.put hd _) hK)
/-! ### shifts, conversions -/
theorem shr_ {x y : Operand} {t yt : Nat} {kd ke : IntKind} {i j : Int} (A : Ag n l a) (hd : Nat.blt d n = true) (hx : opd l x = some (.int kd i)) (hy : opd l y = some (.int ke j)) {X : Prop} (hh : 0 ≤ j ∧ X) (k : ∀ a', Ag n ((d, .int kd (i.fdiv (2 ^ (min j.toNat kd.bits)))) :: l) a' → X → wpList P ops Q rest a' w) :
    wpList P ops Q (⟨some d, .binOp .shr t x y yt, ty, pos, af, none⟩ :: rest) a w :=
  bi_ A hd hx hy (fun _ _ => rfl) (by
    have : ¬ j < 0 := by omega
    show (Op.shift .shr kd i ke j).run P w = _
    simp [Op.shift, this]) fun a' A' => k a' A' hh.2
theorem cvr_ {x : Operand} {t T : Nat} {kd : IntKind} {i : Int} (A : Ag n l a) (hd : Nat.blt d n = true) (hx : opd l x = some (.int kd i)) (hs : P.underlying t = some (.int kd)) (ht : P.underlying T = some .string) (k : ∀ a', Ag n ((d, .string (Utf8.encode i)) :: l) a' → wpList P ops Q rest a' w) :
    wpList P ops Q (⟨some d, .convert t T x, ty, pos, af, none⟩ :: rest) a w := pv_ A hd (by simp [execOp, A.opd hx, convert, run_underlying hs, run_underlying ht, Conv.intToString]) k
def mks (w : World) (b : Option Addr) (K : World → Prop) : Prop := ∃ c e m, b = some c ∧ w.shape? c.block = some (e, m) ∧ K (w.freeze ⟨c.block, m, none⟩ 1)
theorem cvl_ {x : Operand} {t e m c : Nat} {b : Option Addr} {K : World → Prop} (A : Ag n l a) (hd : Nat.blt d n = true) (hx : opd l x = some (.slice b m c)) (ht : P.underlying t = some (.slice e)) (he : P.underlying e = some (.int .u8)) (hh : mks w b K)
    (k : ∀ w' a', Ag n ((d, .slice b m c) :: l) a' → K w' → wpList P ops Q rest a' w') : wpList P ops Q (⟨some d, .convert t t x, ty, pos, af, none⟩ :: rest) a w := by
  obtain ⟨b, ee, mm, rfl, hsh, hK⟩ := hh
  exact op_val A hd (by simp [execOp, A.opd hx, convert, run_underlying ht, run_underlying he, markStringish, hsh]) fun a' A' => k _ a' A' hK
/-! ### drawn regions in which one block may be written midway -/
section
variable {N : Act → World → Prop} {G : Prop} {B : Nat} {w0 : World} {ms : List Md} {o : Oper}
structure XtB (B : Nat) (w w' : World) : Prop where
  le : w.heap.size ≤ w'.heap.size
  eq : ∀ k, k < w.heap.size → k ≠ B → w'.heap[k]? = w.heap[k]?
  os : w'.os = w.os
  out : w'.output = w.output
theorem XtB.refl (w : World) : XtB B w w := ⟨Nat.le_refl _, fun _ _ _ => rfl, rfl, rfl⟩
theorem XtB.trans {w w' w'' : World} (h : XtB B w w') (h' : XtB B w' w'') : XtB B w w'' := ⟨Nat.le_trans h.1 h'.1, fun k hk hB => by rw [h'.2 k (Nat.lt_of_lt_of_le hk h.1) hB, h.2 k hk hB], h'.os.trans h.os, h'.out.trans h.out⟩
theorem XtB.alloc {w w' : World} (h : XtB B w w') (o : Obj) : XtB B w (w'.alloc o) :=
  ⟨by simp; have := h.1; omega, fun k hk hB => by rw [heap_alloc, if_neg (by have := h.1; omega), h.2 k hk hB], h.os, h.out⟩
theorem XtB.cell {w w' : World} (h : XtB B w w') {b : Addr} {v : Value} (hB : b.block ≠ B) (hc : w.cell? b = some v) : w'.cell? b = some v := by
  have hlt := World.block_lt_of_cell? w b hc
  have := h.2 b.block hlt hB
  simpa [World.cell?, this] using hc
theorem add_block (b : Addr) (k : Nat) : (b.add k).block = b.block := by unfold Addr.add; split <;> rfl
theorem XtB.cells {w w' : World} (h : XtB B w w') {b : Addr} {cs : List Value} (hB : b.block ≠ B) : ∀ {i : Nat}, CellsAt w b i cs → CellsAt w' b i cs := by
  induction cs with
  | nil => intro i _; trivial
  | cons c r ih => intro i hc; exact ⟨h.cell (by rw [add_block]; exact hB) hc.1, ih hc.2⟩
theorem XtB.put {w : World} {b : Addr} (o : Obj) (h : b.block = B) : XtB B w (w.put b.block o) :=
  ⟨by simp [World.put], fun k hk hB => by rw [heap_put, if_neg (by intro h'; exact hB (h'.1.trans h))], rfl, rfl⟩
def HldB (B : Nat) (P : Program) (o : Oper) (a : Act) (w : World) (N : Act → World → Prop) (G : Prop) : Prop := ∀ v, (∀ w', XtB B w w' → (execOp a.eval o).run P w' = .ok (.value v) w') → N (a.put o.dst v) w → G
def Mid (B : Nat) (P : Program) (Q : Exit → Act → World → Prop) (o : Oper) (a : Act) (w : World) (N : Act → World → Prop) (G : Prop) : Prop := (∀ K : Act → World → Prop, (∀ a' w', XtB B w w' → N a' w' → K a' w') → o.wp P a w K Q) → G
theorem hMB (hg : o.guard = none) : HldB B P o a w0 (fun a' _ => wpM P ops Q (XtB B w0) ms rest a' w) (wpM P ops Q (XtB B w0) (.held :: ms) (o :: rest) a w) := fun v hr h => ⟨v, .inl ⟨by simp [Region.wanted, hg], hr⟩, h⟩
theorem mM (hg : o.guard = none) : Mid B P (NoPanic Q) o a w (wpM P ops Q (XtB B w0) ms rest) (wpM P ops Q (XtB B w0) (.ext :: ms) (o :: rest) a w) := fun h => by
  simp only [wpM]; rw [if_pos (by simp [Region.wanted, hg])]; exact h _ fun _ _ h1 h2 => ⟨fun h => h.trans h1, h2⟩
def drB (w : World) (K : Nat → World → World → Prop) : Prop := ∃ B, K B w.drew w.drew
theorem drB_ {id : Nat} {os : List Oper} {K : Nat → World → World → Prop} (ds ord : List Nat) (ms : List Md) (hm : P.follows .mixedOrders = true) (hc : chk os.toArray ds ord ms (Array.replicate os.length false) = true) (hn : Nat.ble ord.length os.length = true) (hi : allIn os.length ord = true)
    (A : Ag n l a) (hh : drB w K) (k : ∀ R : Exit → Act → World → Prop, (∀ a w, Q .normal a w → R .normal a w) → ∀ B w a', Ag n l a' → K B w w → wpM P os.toArray R (XtB B w) ms (pickO os.toArray ord) a' w) : (Code.region id os.toArray true).wp P Q a w := by
  obtain ⟨B, hh⟩ := hh
  refine wp_region_noPanic ?_
  refine Go.Proofs.YtmmkhlalhalomaaW.PrintLast.wp_region_last (S := XtB B w.drew) (ds := ds) hm ?_
  have := wpM_sound (P := P) (Q := Q) (ops := os.toArray) (ds := ds) (S := XtB B w.drew) (fun _ o h => h.alloc o) ord ms os.toArray.size (Array.replicate os.toArray.size false) a w.drew (by simpa using Nat.le_of_ble_eq_true hn) (by simpa using hi) (by simpa using hc) (.inl (XtB.refl _)) (k Q (fun _ _ h => h) B _ a A hh)
  exact this
theorem op_valHB {op : Op} {v : Value} (g : HldB B P ⟨some d, op, ty, pos, af, none⟩ a w N G) (A : Ag n l a) (hd : Nat.blt d n = true) (hr : ∀ w', XtB B w w' → (execOp a.eval ⟨some d, op, ty, pos, af, none⟩).run P w' = .ok (.value v) w') (k : ∀ a', Ag n ((d, v) :: l) a' → N a' w) : G := g v hr (k _ (A.put hd v))
theorem ldBB_ {x : Operand} {T : Nat} {b : Addr} {K : Bool → Prop} {B : Nat} (g : HldB B P ⟨some d, .load T x, ty, pos, af, none⟩ a w N G) (A : Ag n l a) (hd : Nat.blt d n = true) (h : opd l x = some (.pointer (some b))) (hT : isScal P T = true) (hh : b.block ≠ B ∧ ldB w b K)
    (k : ∀ (v : Bool) a', Ag n ((d, .bool v) :: l) a' → K v → N a' w) : G := by
  obtain ⟨hb, v, hc, hK⟩ := hh
  exact op_valHB g A hd (fun w' e => by simp [execOp, A.opd h, run_loadAt hT (e.cell hb hc)]) fun a' A' => k v a' A' hK
theorem ldSB_ {x : Operand} {T : Nat} {b : Addr} {K : ByteArray → Prop} {B : Nat} (g : HldB B P ⟨some d, .load T x, ty, pos, af, none⟩ a w N G) (A : Ag n l a) (hd : Nat.blt d n = true) (h : opd l x = some (.pointer (some b))) (hT : isScal P T = true) (hh : b.block ≠ B ∧ ldS w b K)
    (k : ∀ (v : ByteArray) a', Ag n ((d, .string v) :: l) a' → K v → N a' w) : G := by
  obtain ⟨hb, v, hc, hK⟩ := hh
  exact op_valHB g A hd (fun w' e => by simp [execOp, A.opd h, run_loadAt hT (e.cell hb hc)]) fun a' A' => k v a' A' hK
theorem ldPB_ {x : Operand} {T : Nat} {b : Addr} {K : Option Addr → Prop} {B : Nat} (g : HldB B P ⟨some d, .load T x, ty, pos, af, none⟩ a w N G) (A : Ag n l a) (hd : Nat.blt d n = true) (h : opd l x = some (.pointer (some b))) (hT : isScal P T = true) (hh : b.block ≠ B ∧ ldP w b K)
    (k : ∀ (v : Option Addr) a', Ag n ((d, .pointer v) :: l) a' → K v → N a' w) : G := by
  obtain ⟨hb, v, hc, hK⟩ := hh
  exact op_valHB g A hd (fun w' e => by simp [execOp, A.opd h, run_loadAt hT (e.cell hb hc)]) fun a' A' => k v a' A' hK
theorem ldMB_ {x : Operand} {T : Nat} {b : Addr} {K : Option Nat → Prop} {B : Nat} (g : HldB B P ⟨some d, .load T x, ty, pos, af, none⟩ a w N G) (A : Ag n l a) (hd : Nat.blt d n = true) (h : opd l x = some (.pointer (some b))) (hT : isScal P T = true) (hh : b.block ≠ B ∧ ldM w b K)
    (k : ∀ (v : Option Nat) a', Ag n ((d, .map v) :: l) a' → K v → N a' w) : G := by
  obtain ⟨hb, v, hc, hK⟩ := hh
  exact op_valHB g A hd (fun w' e => by simp [execOp, A.opd h, run_loadAt hT (e.cell hb hc)]) fun a' A' => k v a' A' hK
theorem ldLB_ {x : Operand} {T : Nat} {b : Addr} {K : Sl → Prop} {B : Nat} (g : HldB B P ⟨some d, .load T x, ty, pos, af, none⟩ a w N G) (A : Ag n l a) (hd : Nat.blt d n = true) (h : opd l x = some (.pointer (some b))) (hT : isScal P T = true) (hh : b.block ≠ B ∧ ldL w b K)
    (k : ∀ (v : Sl) a', Ag n ((d, v.v) :: l) a' → K v → N a' w) : G := by
  obtain ⟨hb, v, hc, hK⟩ := hh
  exact op_valHB g A hd (fun w' e => by simp [execOp, A.opd h, run_loadAt hT (e.cell hb hc)]) fun a' A' => k v a' A' hK
theorem ldFB_ {x : Operand} {T : Nat} {b : Addr} {K : Option (Nat × Value) → Prop} {B : Nat} (g : HldB B P ⟨some d, .load T x, ty, pos, af, none⟩ a w N G) (A : Ag n l a) (hd : Nat.blt d n = true) (h : opd l x = some (.pointer (some b))) (hT : isScal P T = true) (hh : b.block ≠ B ∧ ldF w b K)
    (k : ∀ (v : Option (Nat × Value)) a', Ag n ((d, ifc v) :: l) a' → K v → N a' w) : G := by
  obtain ⟨hb, v, hc, hK⟩ := hh
  exact op_valHB g A hd (fun w' e => by simp [execOp, A.opd h, run_loadAt hT (e.cell hb hc)]) fun a' A' => k v a' A' hK
theorem ldVB_ {x : Operand} {T : Nat} {b : Addr} {K : Value → Prop} {B : Nat} (g : HldB B P ⟨some d, .load T x, ty, pos, af, none⟩ a w N G) (A : Ag n l a) (hd : Nat.blt d n = true) (h : opd l x = some (.pointer (some b))) (hT : isScal P T = true) (hh : b.block ≠ B ∧ ldV w b K)
    (k : ∀ (v : Value) a', Ag n ((d, v) :: l) a' → K v → N a' w) : G := by
  obtain ⟨hb, v, hc, hK⟩ := hh
  exact op_valHB g A hd (fun w' e => by simp [execOp, A.opd h, run_loadAt hT (e.cell hb hc)]) fun a' A' => k v a' A' hK
theorem ldNB_ {kd : IntKind} {x : Operand} {T : Nat} {b : Addr} {K : Int → Prop} {B : Nat} (g : HldB B P ⟨some d, .load T x, ty, pos, af, none⟩ a w N G) (A : Ag n l a) (hd : Nat.blt d n = true) (h : opd l x = some (.pointer (some b))) (hT : isScal P T = true) (hh : b.block ≠ B ∧ ldN kd w b K)
    (k : ∀ (v : Int) a', Ag n ((d, .int kd v) :: l) a' → K v → N a' w) : G := by
  obtain ⟨hb, v, hc, hK⟩ := hh
  exact op_valHB g A hd (fun w' e => by simp [execOp, A.opd h, run_loadAt hT (e.cell hb hc)]) fun a' A' => k v a' A' hK
theorem ldTB_ {α : Type} {x : Operand} {T m : Nat} {b : Addr} {cells : α → List Value} {K : α → Prop} {B : Nat} (g : HldB B P ⟨some d, .load T x, ty, pos, af, none⟩ a w N G) (A : Ag n l a) (hd : Nat.blt d n = true) (h : opd l x = some (.pointer (some b))) (hT : isAggr P T = true) (hs : szOf P T = some m) (hl : ∀ x, (cells x).length = m) (hh : b.block ≠ B ∧ ldT cells w b K)
    (k : ∀ v a', Ag n ((d, .agg (cells v).toArray) :: l) a' → K v → N a' w) : G := by
  obtain ⟨hb, v, hc, hK⟩ := hh
  exact op_valHB g A hd (fun w' e => by simp [execOp, A.opd h, run_loadAtA hT hs (hl v) (e.cells hb hc)]) fun a' A' => k v a' A' hK

theorem alR_ {T : Nat} {z : Value} {K : Nat → World → Prop} {cs : Array Value} (g : Dir P Q ⟨some d, .alloc T, ty, pos, af, none⟩ a w N G) (A : Ag n l a) (hd : Nat.blt d n = true) (hz : zerOf P T = some z) (hc : z.cells = cs) (hh : al w T cs K)
    (k : ∀ b w' a', Ag n ((d, .pointer (some ⟨b, 0, none⟩)) :: l) a' → K b w' → N a' w') : G := by
  subst hc
  exact op_valR g A hd (by simp [execOp, Instr.alloc, run_zerOf hz, newVar, newRow]) fun a' A' => k _ _ a' A' hh

theorem bxR_ {T : Nat} {x : Operand} {v : Value} {K : Nat → World → Prop} {cs : Array Value} (g : Dir P Q ⟨some d, .box T x, ty, pos, af, none⟩ a w N G) (A : Ag n l a) (hd : Nat.blt d n = true) (h : opd l x = some v) (hc : v.cells = cs) (hh : al w T cs K)
    (k : ∀ b w' a', Ag n ((d, .pointer (some ⟨b, 0, none⟩)) :: l) a' → K b w' → N a' w') : G := by
  subst hc
  exact op_valR g A hd (by simp [execOp, A.opd h, Instr.box, newVar, newRow]) fun a' A' => k _ _ a' A' hh

theorem bsR_ {T e len : Nat} {ps : List (Nat × Operand)} {is : List Nat} {vs : List Value} {cs : Array Value} {K : Nat → World → Prop} (g : Dir P Q ⟨some d, .buildSlice T len ps.toArray, ty, pos, af, none⟩ a w N G) (A : Ag n l a) (hd : Nat.blt d n = true) (hx : opds l (ps.map (·.2)) = some vs) (hi : ps.map (·.1) = is)
    (hb : ∀ w, (Instr.buildSlice T len (is.zip vs).toArray).run P w = .ok (.slice (some ⟨w.heap.size, 0, none⟩) len len) (w.alloc (.cells cs e))) (hh : al w e cs K)
    (k : ∀ b w' a', Ag n ((d, .slice (some ⟨b, 0, none⟩) len len) :: l) a' → K b w' → N a' w') : G := by
  subst hi
  refine op_valR g A hd ?_ fun a' A' => k _ _ a' A' hh
  have h := A.opds hx
  have : (ps.toArray.map fun x => (x.1, a.eval x.2)) = ((ps.map (·.1)).zip vs).toArray := by
    rw [← h]
    simp [List.zip_map, List.zip_eq_zipWith, List.zipWith_self]
  simp only [execOp]
  rw [show (ps.toArray.map fun x => match x with | (i, x) => (i, a.eval x)) = ((ps.map (·.1)).zip vs).toArray from this]
  simp [hb]


theorem mkR_ {T : Nat} {K : Nat → World → Prop} (g : Dir P Q ⟨some d, .makeMap T none, ty, pos, af, none⟩ a w N G) (A : Ag n l a) (hd : Nat.blt d n = true) (hh : mk w K)
    (k : ∀ b w' a', Ag n ((d, .map (some b)) :: l) a' → K b w' → N a' w') : G :=
  op_valR g A hd (by simp [execOp, Instr.makeMap]) fun a' A' => k _ _ a' A' hh


def appB (B : Nat) (w : World) (e sz bts : Nat) (z : Array Value) (p : Option Addr) (m c : Nat) (src : Value) (K : Sl → World → Prop) : Prop := (∀ b, p = some b → b.block = B) ∧ app w e sz bts z p m c src K
theorem appB_ {x y : Operand} {T T2 e e2 sz bts : Nat} {z : Value} {p : Option Addr} {m c : Nat} {src : Value} {K : Sl → World → Prop} (g : Mid B P Q ⟨some d, .call { callee := .builtin .append, args := #[x, y], argTypes := #[T, T2] }, ty, pos, af, none⟩ a w N G) (A : Ag n l a) (hd : Nat.blt d n = true) (hx : opd l x = some (.slice p m c)) (hy : opd l y = some src)
    (hT : P.underlying T = some (.slice e)) (hT2 : P.underlying T2 = some (.slice e2) ∨ P.underlying T2 = some .string)
    (hs : szOf P e = some sz) (hb : byOf P e = some bts) (hz : zerOf P e = some z) (hzs : z.cells.size = sz) (hh : appB B w e sz bts z.cells p m c src K)
    (k : ∀ s' w' a', Ag n ((d, Sl.v s') :: l) a' → K s' w' → N a' w') : G := by
  obtain ⟨hB, kk, new, hsrc, h1, hfit, hgrow⟩ := hh
  obtain ⟨s', w', hr, hX, hK⟩ := run_append (P := P) (ty := ty) (K := fun s w' => XtB B w w' ∧ K s w') hT hT2 hs hb hz hzs ⟨kk, new, hsrc, h1, fun hle => ⟨fun h => ⟨XtB.refl _, (hfit hle).1 h⟩, fun b h => by
      obtain ⟨cur, T', hb', hsp, hle', hK⟩ := (hfit hle).2 b h
      exact ⟨cur, T', hb', hsp, hle', XtB.put (b := b.add (m * sz)) _ (by rw [add_block]; exact hB b h), hK⟩⟩, fun hlt => by
      obtain ⟨h1, h2, old, h3, h4, h5, h6⟩ := hgrow hlt
      exact ⟨h1, h2, old, h3, h4, h5, fun cap hc hc' => ⟨(show XtB B w w.drew from ⟨Nat.le_refl _, fun _ _ _ => rfl, rfl, rfl⟩).alloc _, h6 cap hc hc'⟩⟩⟩
  exact g fun K' hK' => by
    unfold Oper.wp
    rw [show (execOp a.eval ⟨some d, .call { callee := .builtin .append, args := #[x, y], argTypes := #[T, T2] }, ty, pos, af, none⟩).run P w = .ok (.value s'.v) w' by simp [execOp, A.opd hx, A.opd hy, resolve, invoke, builtin, hr]]
    exact hK' _ _ hX (k s' w' _ (A.put hd _) hK)
end
/-! ### scopes through which the run goes without a jump -/
theorem sgN_ {Q : Exit → Act → World → Prop} (h : Q .normal a w) : Exit.noGoto Q .normal a w := h
theorem sgX_ {Q : Exit → Act → World → Prop} {i : Nat} (h : Q (.exit i) a w) : Exit.noGoto Q (.exit i) a w := h
theorem sgR_ {Q : Exit → Act → World → Prop} (h : Q .ret a w) : Exit.noGoto Q .ret a w := h
end
end Go.Low
