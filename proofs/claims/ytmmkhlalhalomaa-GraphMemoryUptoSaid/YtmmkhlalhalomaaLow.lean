import Derived.Calls
import Derived.Orders
import Derived.Laws.Sem
import Derived.Laws.World
import Derived.Laws.Cells
import Derived.Laws.Strings
import Derived.Laws.Entries
import Derived.ChangeKeysEq
import Derived.Laws.CopyRow
import Derived.MapKept
import Derived.WalkLawsBesides
import Derived.Laws.Append
import Derived.Tactics
import Derived.KernelRfl
import Derived.RowKit
set_option linter.unusedVariables false
set_option linter.unusedSectionVars false
set_option linter.unusedSimpArgs false
namespace Go.Low
open Go

theorem tl_loop (bs : ByteArray) (i : Nat) (r : List UInt8) : ByteArray.toList.loop bs i r = r.reverse ++ bs.data.toList.drop i := by
  induction h : bs.size - i generalizing i r with
  | zero =>
    unfold ByteArray.toList.loop
    have h1 : ¬ i < bs.size := by omega
    rw [if_neg h1]
    have : bs.data.toList.drop i = [] := by
      apply List.drop_eq_nil_of_le
      have : bs.data.toList.length = bs.size := by simp
      omega
    simp [this]
  | succ n ih =>
    unfold ByteArray.toList.loop
    have h1 : i < bs.size := by omega
    rw [if_pos h1, ih (i+1) _ (by omega)]
    have hl : i < bs.data.toList.length := by simpa using h1
    rw [List.drop_eq_getElem_cons hl]
    simp [ByteArray.get!, h1]
theorem tl (bs : ByteArray) : bs.toList = bs.data.toList := by
  unfold ByteArray.toList; rw [tl_loop]; simp
/-- an int's arithmetic goes round -/
def w64 (x : Int) : Int := IntKind.i64.wrap x
theorem w64_in {x : Int} (h : -9223372036854775808 ≤ x ∧ x ≤ 9223372036854775807) : w64 x = x := by
  unfold w64; rw [IntKind.wrap_i64]; omega
/-- the slots that matter, the newest first -/
abbrev Env := List (Nat × Value)
def look : Env → Nat → Option Value
  | [], _ => none
  | p :: l, t => bif Nat.beq p.1 t then some p.2 else look l t

structure Ag (n : Nat) (l : Env) (a : Act) : Prop where
  size : a.tmps.size = n
  defers : a.defers = []
  get : ∀ t v, look l t = some v → a.tmps.getD t undef = v

section
variable {P : Program} {ops : Array Oper} {Q : Exit → Act → World → Prop} {a : Act} {w : World} {rest : List Oper} {n d s t ty : Nat} {l : Env} {pos : String} {af : Array Edge}

theorem Ag.put (A : Ag n l a) (hd : Nat.blt d n = true) (v : Value) : Ag n ((d, v) :: l) (a.put (some d) v) := by
  have hd' : d < n := by simpa using hd
  refine ⟨by simp [Act.put, A.size], A.defers, fun t u h => ?_⟩
  simp only [look] at h
  by_cases e : d = t
  · subst e
    simp at h
    subst h
    simp [Act.put, A.size, hd']
  · have e' : Nat.beq d t = false := by
      cases hb : Nat.beq d t with
      | false => rfl
      | true => exact absurd (Nat.eq_of_beq_eq_true hb) e
    rw [e', cond_false] at h
    have := A.get t u h
    simpa [Act.put, Array.getD_eq_getD_getElem?, Array.getElem?_setIfInBounds, e] using this

/-- forgetting -/
def Sub : Env → Env → Prop
  | [], _ => True
  | p :: r, l => look l p.1 = some p.2 ∧ Sub r l
theorem Sub.look {l' l : Env} (h : Sub l' l) {t : Nat} {v : Value} (hv : Low.look l' t = some v) : Low.look l t = some v := by
  induction l' with
  | nil => simp [Low.look] at hv
  | cons p r ih =>
    simp only [Low.look] at hv
    cases e : Nat.beq p.1 t with
    | true =>
      rw [e, cond_true] at hv
      have : p.1 = t := Nat.eq_of_beq_eq_true e
      subst this
      injection hv with hv
      subst hv
      exact h.1
    | false => rw [e, cond_false] at hv; exact ih h.2 hv
theorem Ag.sub {l' : Env} (A : Ag n l a) (h : Sub l' l) : Ag n l' a := ⟨A.size, A.defers, fun t v hv => A.get t v (h.look hv)⟩

/-- an operand's value -/
def opd (l : Env) : Operand → Option Value
  | .tmp t => look l t
  | .const v => some v
  | .global g => some (.pointer (some ⟨g, 0, none⟩))
  | .func f => some (.func (.func f) #[] #[])
theorem Ag.opd {x : Operand} {v : Value} (A : Ag n l a) (h : opd l x = some v) : a.eval x = v := by
  cases x with
  | tmp t => exact A.get t v h
  | const u => simpa [Low.opd, Act.eval] using h
  | global g => simpa [Low.opd, Act.eval] using h
  | func f => simpa [Low.opd, Act.eval] using h

/-! ### facts of the program's types (each by the kernel) -/
def isScal (P : Program) (t : TypeId) : Bool := match P.underlying t with
  | some (.struct _) | some (.array _ _) | none => false
  | some _ => true
def isAggr (P : Program) (t : TypeId) : Bool := match P.underlying t with
  | some (.struct _) | some (.array _ _) => true
  | _ => false
def szOf (P : Program) (t : TypeId) : Option Nat := (P.info? t).map (·.size)
def zerOf (P : Program) (t : TypeId) : Option Value := (P.info? t).bind (·.zero)
def fldOf (P : Program) (t k : Nat) : Option Nat := match P.underlying t with
  | some (.struct fs) => match fs[k]? with
    | some f => match P.info? f.type with
      | some i => bif Nat.beq i.size 0 then none else some f.offset
      | none => none
    | none => none
  | _ => none
def elOf (P : Program) (t : TypeId) : Option (Nat × Nat) := match P.underlying t with
  | some (.slice e) => (szOf P e).map fun s => (e, s)
  | _ => none

theorem und_of {x : TypeDesc → Prop} (h : ∃ d, P.underlying t = some d ∧ x d) : True := trivial
theorem run_isAgg_scal (h : isScal P t = true) : (isAgg t).run P w = .ok false w := by
  unfold isScal at h
  cases hu : P.underlying t with
  | none => simp [hu] at h
  | some d =>
    unfold isAgg
    rw [Sem.run_bind, run_underlying hu]
    cases d <;> first | (simp [hu] at h; done) | rfl
theorem run_isAgg_aggr (h : isAggr P t = true) : (isAgg t).run P w = .ok true w := by
  unfold isAggr at h
  cases hu : P.underlying t with
  | none => simp [hu] at h
  | some d =>
    unfold isAgg
    rw [Sem.run_bind, run_underlying hu]
    cases d <;> first | (simp [hu] at h; done) | rfl
theorem run_szOf {k : Nat} (h : szOf P t = some k) : (sizeOf t).run P w = .ok k w := by
  unfold szOf at h
  cases hi : P.info? t with
  | none => simp [hi] at h
  | some i =>
    simp [hi] at h
    subst h
    simp [sizeOf, typeInfo, hi]
theorem run_zerOf {v : Value} (h : zerOf P t = some v) : (zeroValue t).run P w = .ok v w := by
  unfold zerOf at h
  cases hi : P.info? t with
  | none => simp [hi] at h
  | some i =>
    simp [hi] at h
    simp [zeroValue, typeInfo, hi, h]

/-! ### one operation -/
theorem op_val {op : Op} {v : Value} {w' : World} (A : Ag n l a) (hd : Nat.blt d n = true)
    (hrun : (execOp a.eval ⟨some d, op, ty, pos, af, none⟩).run P w = .ok (.value v) w')
    (k : ∀ a', Ag n ((d, v) :: l) a' → wpList P ops Q rest a' w') : wpList P ops Q (⟨some d, op, ty, pos, af, none⟩ :: rest) a w := by
  refine wpList_plain rfl fun K hK => ?_
  unfold Oper.wp
  rw [hrun]
  exact hK _ _ (k _ (A.put hd v))
theorem op_none {op : Op} {w' : World} (A : Ag n l a)
    (hrun : (execOp a.eval ⟨none, op, ty, pos, af, none⟩).run P w = .ok .skip w')
    (k : ∀ a', Ag n l a' → wpList P ops Q rest a' w') : wpList P ops Q (⟨none, op, ty, pos, af, none⟩ :: rest) a w := by
  refine wpList_plain rfl fun K hK => ?_
  unfold Oper.wp
  rw [hrun]
  exact hK _ _ (k _ A)

theorem mv_ {x : Operand} {v : Value} (A : Ag n l a) (hd : Nat.blt d n = true) (h : opd l x = some v)
    (k : ∀ a', Ag n ((d, v) :: l) a' → wpList P ops Q rest a' w) : wpList P ops Q (⟨some d, .move x, ty, pos, af, none⟩ :: rest) a w :=
  op_val A hd (by simp [execOp, A.opd h]) k
theorem as_ {x : Operand} {v : Value} (A : Ag n l a) (hd : Nat.blt d n = true) (h : opd l x = some v)
    (k : ∀ a', Ag n ((d, v) :: l) a' → wpList P ops Q rest a' w) : wpList P ops Q (⟨some d, .assign x, ty, pos, af, none⟩ :: rest) a w :=
  op_val A hd (by simp [execOp, A.opd h]) k

/-- a nil check of a pointer -/
def nn (p : Option Addr) (K : Addr → Prop) : Prop := ∃ A, p = some A ∧ K A
theorem nn_ {x : Operand} {p : Option Addr} {K : Addr → Prop} (A : Ag n l a) (hd : Nat.blt d n = true) (h : opd l x = some (.pointer p)) (hh : nn p K)
    (k : ∀ b a', Ag n ((d, .pointer (some b)) :: l) a' → K b → wpList P ops Q rest a' w) : wpList P ops Q (⟨some d, .nilCheck x, ty, pos, af, none⟩ :: rest) a w := by
  obtain ⟨b, rfl, hK⟩ := hh
  exact op_val A hd (by simp [execOp, A.opd h]) fun a' A' => k b a' A' hK
theorem ns_ {x : Operand} {b : Addr} (A : Ag n l a) (hd : Nat.blt d n = true) (h : opd l x = some (.pointer (some b)))
    (k : ∀ a', Ag n ((d, .pointer (some b)) :: l) a' → wpList P ops Q rest a' w) : wpList P ops Q (⟨some d, .nilCheck x, ty, pos, af, none⟩ :: rest) a w :=
  op_val A hd (by simp [execOp, A.opd h]) k

theorem run_fieldAt {T k off : Nat} {b : Addr} (hf : fldOf P T k = some off) : (Instr.fieldAt T (.pointer (some b)) k).run P w = .ok (.pointer (some (b.add off))) w := by
  unfold fldOf at hf
  cases hu : P.underlying T with
  | none => simp [hu] at hf
  | some dd =>
    cases dd <;> simp [hu] at hf
    rename_i fs
    cases hk : fs[k]? with
    | none => simp [hk] at hf
    | some f =>
      simp [hk] at hf
      cases hi : P.info? f.type with
      | none => simp [hi] at hf
      | some i =>
        simp [hi] at hf
        cases hz : Nat.beq i.size 0 with
        | true => simp [hz] at hf
        | false =>
          simp [hz] at hf
          have hz' : i.size ≠ 0 := by intro e; rw [e] at hz; exact absurd hz (by decide)
          simp [Instr.fieldAt, run_underlying hu, hk, Instr.sureAddr, fieldPlace, sizeOf, typeInfo, hi, hz', hf]
theorem fa_ {x : Operand} {T k off : Nat} {b : Addr} (A : Ag n l a) (hd : Nat.blt d n = true) (h : opd l x = some (.pointer (some b))) (hf : fldOf P T k = some off)
    (kk : ∀ a', Ag n ((d, .pointer (some (b.add off))) :: l) a' → wpList P ops Q rest a' w) : wpList P ops Q (⟨some d, .fieldAddr T x k, ty, pos, af, none⟩ :: rest) a w :=
  op_val A hd (by simp [execOp, A.opd h, run_fieldAt hf]) kk

/-! ### loads -/
def CellsAt (w : World) (b : Addr) : Nat → List Value → Prop
  | _, [] => True
  | i, v :: r => w.cell? (b.add i) = some v ∧ CellsAt w b (i + 1) r
theorem CellsAt.get {b : Addr} {cs : List Value} {i : Nat} (h : CellsAt w b i cs) : ∀ j v, cs[j]? = some v → w.cell? (b.add (i + j)) = some v := by
  induction cs generalizing i with
  | nil => intro j v hj; simp at hj
  | cons c r ih =>
    intro j v hj
    cases j with
    | zero => simp at hj; subst hj; exact h.1
    | succ j =>
      simp at hj
      have := ih h.2 j v hj
      rw [show i + (j + 1) = i + 1 + j by omega]
      exact this
theorem run_loadAt {T : Nat} {b : Addr} {v : Value} (hT : isScal P T = true) (hc : w.cell? b = some v) : (Instr.loadAt T (.pointer (some b))).run P w = .ok v w := by
  simp [Instr.loadAt, Instr.sureAddr, loadVar, run_isAgg_scal hT, hc]
theorem ld_ {x : Operand} {T : Nat} {b : Addr} {v : Value} (A : Ag n l a) (hd : Nat.blt d n = true) (h : opd l x = some (.pointer (some b))) (hT : isScal P T = true) (hc : w.cell? b = some v)
    (k : ∀ a', Ag n ((d, v) :: l) a' → wpList P ops Q rest a' w) : wpList P ops Q (⟨some d, .load T x, ty, pos, af, none⟩ :: rest) a w :=
  op_val A hd (by simp [execOp, A.opd h, run_loadAt hT hc]) k
theorem run_loadAtA {T m : Nat} {b : Addr} {cs : List Value} (hT : isAggr P T = true) (hs : szOf P T = some m) (hl : cs.length = m) (hc : CellsAt w b 0 cs) :
    (Instr.loadAt T (.pointer (some b))).run P w = .ok (.agg cs.toArray) w := by
  subst hl
  have hc' : ∀ j v, cs[j]? = some v → w.cell? (b.add j) = some v := fun j v hj => by simpa using hc.get j v hj
  simp [Instr.loadAt, Instr.sureAddr, loadVar, run_isAgg_aggr hT, run_szOf hs, run_loadCells_list w b cs hc']
theorem lda_ {x : Operand} {T m : Nat} {b : Addr} (cs : List Value) (A : Ag n l a) (hd : Nat.blt d n = true) (h : opd l x = some (.pointer (some b))) (hT : isAggr P T = true) (hs : szOf P T = some m) (hl : cs.length = m) (hc : CellsAt w b 0 cs)
    (k : ∀ a', Ag n ((d, .agg cs.toArray) :: l) a' → wpList P ops Q rest a' w) : wpList P ops Q (⟨some d, .load T x, ty, pos, af, none⟩ :: rest) a w :=
  op_val A hd (by simp [execOp, A.opd h, run_loadAtA hT hs hl hc]) k

/-- a slice's head -/
structure Sl where
  p : Option Addr
  n : Nat
  c : Nat
def Sl.v (s : Sl) : Value := .slice s.p s.n s.c
/-- an interface value: nothing, or a type and a value -/
def ifc : Option (Nat × Value) → Value
  | none => .nilIface
  | some (t, v) => .iface t v
/-- typed cells -/
def ldN (k : IntKind) (w : World) (p : Addr) (K : Int → Prop) : Prop := ∃ x, w.cell? p = some (.int k x) ∧ K x
abbrev ldI := ldN .i64
def ldB (w : World) (p : Addr) (K : Bool → Prop) : Prop := ∃ x, w.cell? p = some (.bool x) ∧ K x
def ldS (w : World) (p : Addr) (K : ByteArray → Prop) : Prop := ∃ x, w.cell? p = some (.string x) ∧ K x
def ldP (w : World) (p : Addr) (K : Option Addr → Prop) : Prop := ∃ x, w.cell? p = some (.pointer x) ∧ K x
def ldM (w : World) (p : Addr) (K : Option Nat → Prop) : Prop := ∃ x, w.cell? p = some (.map x) ∧ K x
def ldL (w : World) (p : Addr) (K : Sl → Prop) : Prop := ∃ x : Sl, w.cell? p = some x.v ∧ K x
def ldF (w : World) (p : Addr) (K : Option (Nat × Value) → Prop) : Prop := ∃ x, w.cell? p = some (ifc x) ∧ K x
def ldV (w : World) (p : Addr) (K : Value → Prop) : Prop := ∃ x, w.cell? p = some x ∧ K x

section typed
variable {x : Operand} {T : Nat} {b : Addr}
theorem ldB_ {K : Bool → Prop} (A : Ag n l a) (hd : Nat.blt d n = true) (h : opd l x = some (.pointer (some b))) (hT : isScal P T = true) (hh : ldB w b K)
    (k : ∀ (v : Bool) a', Ag n ((d, .bool v) :: l) a' → K v → wpList P ops Q rest a' w) : wpList P ops Q (⟨some d, .load T x, ty, pos, af, none⟩ :: rest) a w := by
  obtain ⟨v, hc, hK⟩ := hh
  exact ld_ A hd h hT hc fun a' A' => k v a' A' hK
theorem ldS_ {K : ByteArray → Prop} (A : Ag n l a) (hd : Nat.blt d n = true) (h : opd l x = some (.pointer (some b))) (hT : isScal P T = true) (hh : ldS w b K)
    (k : ∀ (v : ByteArray) a', Ag n ((d, .string v) :: l) a' → K v → wpList P ops Q rest a' w) : wpList P ops Q (⟨some d, .load T x, ty, pos, af, none⟩ :: rest) a w := by
  obtain ⟨v, hc, hK⟩ := hh
  exact ld_ A hd h hT hc fun a' A' => k v a' A' hK
theorem ldP_ {K : Option Addr → Prop} (A : Ag n l a) (hd : Nat.blt d n = true) (h : opd l x = some (.pointer (some b))) (hT : isScal P T = true) (hh : ldP w b K)
    (k : ∀ (v : Option Addr) a', Ag n ((d, .pointer v) :: l) a' → K v → wpList P ops Q rest a' w) : wpList P ops Q (⟨some d, .load T x, ty, pos, af, none⟩ :: rest) a w := by
  obtain ⟨v, hc, hK⟩ := hh
  exact ld_ A hd h hT hc fun a' A' => k v a' A' hK
theorem ldM_ {K : Option Nat → Prop} (A : Ag n l a) (hd : Nat.blt d n = true) (h : opd l x = some (.pointer (some b))) (hT : isScal P T = true) (hh : ldM w b K)
    (k : ∀ (v : Option Nat) a', Ag n ((d, .map v) :: l) a' → K v → wpList P ops Q rest a' w) : wpList P ops Q (⟨some d, .load T x, ty, pos, af, none⟩ :: rest) a w := by
  obtain ⟨v, hc, hK⟩ := hh
  exact ld_ A hd h hT hc fun a' A' => k v a' A' hK
theorem ldL_ {K : Sl → Prop} (A : Ag n l a) (hd : Nat.blt d n = true) (h : opd l x = some (.pointer (some b))) (hT : isScal P T = true) (hh : ldL w b K)
    (k : ∀ (v : Sl) a', Ag n ((d, v.v) :: l) a' → K v → wpList P ops Q rest a' w) : wpList P ops Q (⟨some d, .load T x, ty, pos, af, none⟩ :: rest) a w := by
  obtain ⟨v, hc, hK⟩ := hh
  exact ld_ A hd h hT hc fun a' A' => k v a' A' hK
theorem ldF_ {K : Option (Nat × Value) → Prop} (A : Ag n l a) (hd : Nat.blt d n = true) (h : opd l x = some (.pointer (some b))) (hT : isScal P T = true) (hh : ldF w b K)
    (k : ∀ (v : Option (Nat × Value)) a', Ag n ((d, ifc v) :: l) a' → K v → wpList P ops Q rest a' w) : wpList P ops Q (⟨some d, .load T x, ty, pos, af, none⟩ :: rest) a w := by
  obtain ⟨v, hc, hK⟩ := hh
  exact ld_ A hd h hT hc fun a' A' => k v a' A' hK
theorem ldV_ {K : Value → Prop} (A : Ag n l a) (hd : Nat.blt d n = true) (h : opd l x = some (.pointer (some b))) (hT : isScal P T = true) (hh : ldV w b K)
    (k : ∀ (v : Value) a', Ag n ((d, v) :: l) a' → K v → wpList P ops Q rest a' w) : wpList P ops Q (⟨some d, .load T x, ty, pos, af, none⟩ :: rest) a w := by
  obtain ⟨v, hc, hK⟩ := hh
  exact ld_ A hd h hT hc fun a' A' => k v a' A' hK
theorem ldN_ {kd : IntKind} {K : Int → Prop} (A : Ag n l a) (hd : Nat.blt d n = true) (h : opd l x = some (.pointer (some b))) (hT : isScal P T = true) (hh : ldN kd w b K)
    (k : ∀ v a', Ag n ((d, .int kd v) :: l) a' → K v → wpList P ops Q rest a' w) : wpList P ops Q (⟨some d, .load T x, ty, pos, af, none⟩ :: rest) a w := by
  obtain ⟨v, hc, hK⟩ := hh
  exact ld_ A hd h hT hc fun a' A' => k v a' A' hK
/-- an aggregate's load: its cells are those of one x -/
def ldT {α : Type} (cells : α → List Value) (w : World) (p : Addr) (K : α → Prop) : Prop := ∃ x, CellsAt w p 0 (cells x) ∧ K x
theorem ldT_ {α : Type} {cells : α → List Value} {m : Nat} {K : α → Prop} (A : Ag n l a) (hd : Nat.blt d n = true) (h : opd l x = some (.pointer (some b))) (hT : isAggr P T = true) (hs : szOf P T = some m) (hl : ∀ x, (cells x).length = m) (hh : ldT cells w b K)
    (k : ∀ v a', Ag n ((d, .agg (cells v).toArray) :: l) a' → K v → wpList P ops Q rest a' w) : wpList P ops Q (⟨some d, .load T x, ty, pos, af, none⟩ :: rest) a w := by
  obtain ⟨v, hc, hK⟩ := hh
  exact lda_ (cells v) A hd h hT hs (hl v) hc fun a' A' => k v a' A' hK
end typed

/-! ### blocks -/
end
end Go.Low
namespace Go
/-- block b holds o from now on -/
def World.put (w : World) (b : Nat) (o : Obj) : World := { w with heap := w.heap.setIfInBounds b o }
end Go
namespace Go.Low
open Go
section
variable {P : Program} {ops : Array Oper} {Q : Exit → Act → World → Prop} {a : Act} {w : World} {rest : List Oper} {n d s t ty : Nat} {l : Env} {pos : String} {af : Array Edge}
theorem heap_put (w : World) (b : Nat) (o : Obj) (k : Nat) : (w.put b o).heap[k]? = if k = b ∧ b < w.heap.size then some o else w.heap[k]? := by
  unfold World.put
  simp only [Array.getElem?_setIfInBounds]
  by_cases h : b = k
  · subst h
    by_cases h2 : b < w.heap.size <;> simp [h2]
  · simp [h, Ne.symm h]
@[simp] theorem size_put (w : World) (b : Nat) (o : Obj) : (w.put b o).heap.size = w.heap.size := by simp [World.put]
theorem heap_alloc (w : World) (o : Obj) (k : Nat) : (w.alloc o).heap[k]? = if k = w.heap.size then some o else w.heap[k]? := by
  unfold World.alloc
  simp only [Array.getElem?_push]
@[simp] theorem heap_drew (w : World) : w.drew.heap = w.heap := rfl
def splice (cur : Array Value) (o : Nat) (vs : List Value) : Array Value := (cur.toList.take o ++ vs ++ cur.toList.drop (o + vs.length)).toArray
theorem setRow_put {g : Nat} {cur cur' : Array Value} {t : Nat} {fr : Nat × Nat} (h : w.heap[g]? = some (.cells cur t fr)) : w.setRow g cur' = w.put g (.cells cur' t fr) := by
  have hlt : g < w.heap.size := (Array.getElem?_eq_some_iff.1 h).1
  unfold World.setRow World.put
  congr 1
  apply Array.ext_getElem?
  intro k
  simp only [Array.getElem?_modify, Array.getElem?_setIfInBounds]
  by_cases e : g = k
  · subst e
    have hv : w.heap[g] = .cells cur t fr := (Array.getElem?_eq_some_iff.1 h).2
    simp [hlt, hv]
  · simp [e]

/-! ### stores -/
def st (w : World) (p : Addr) (vs : List Value) (K : World → Prop) : Prop :=
  ∃ cur T, w.heap[p.block]? = some (.cells cur T (0, 0)) ∧ p.spot = none ∧ p.off + vs.length ≤ cur.size ∧ K (w.put p.block (.cells (splice cur p.off vs) T))
theorem run_storeAt {T m : Nat} {b : Addr} {v : Value} {K : World → Prop} {vs : List Value} (hs : szOf P T = some m) (hv : v.cells = vs.toArray) (hm : vs.length = m) (h1 : ∀ v ∈ vs, v.oneCell' = true) (h : st w b vs K) :
    ∃ w', (Instr.storeAt T (.pointer (some b)) v).run P w = .ok () w' ∧ K w' := by
  obtain ⟨cur, T', hb, hsp, hle, hK⟩ := h
  obtain ⟨bb, o, sp⟩ := b
  simp only at hsp hb hle
  subst hsp
  subst hm
  refine ⟨_, ?_, hK⟩
  have := run_storeCells_at P bb o T' vs 0 cur w hb (by simpa using hle) h1
  simp only [Instr.storeAt, Instr.sureAddr, storeVar, Sem.run_bind, Sem.run_pure, Result.andThen_ok, run_szOf hs, hv]
  simp only [List.size_toArray, ne_eq, not_true_eq_false, if_false, this, setRow_put hb]
  simp [splice, this, setRow_put hb]
theorem st_ {x y : Operand} {T m : Nat} {b : Addr} {v : Value} {K : World → Prop} {vs : List Value} (A : Ag n l a) (h : opd l x = some (.pointer (some b))) (hy : opd l y = some v)
    (hs : szOf P T = some m) (hv : v.cells = vs.toArray) (hm : vs.length = m) (h1 : ∀ v ∈ vs, v.oneCell' = true) (hh : st w b vs K)
    (k : ∀ w' a', Ag n l a' → K w' → wpList P ops Q rest a' w') : wpList P ops Q (⟨none, .store T x y, ty, pos, af, none⟩ :: rest) a w := by
  obtain ⟨w', hr, hK⟩ := run_storeAt hs hv hm h1 hh
  exact op_none A (by simp [execOp, A.opd h, A.opd hy, hr]) fun a' A' => k w' a' A' hK

/-! ### new blocks -/
def al (w : World) (T : Nat) (cs : Array Value) (K : Nat → World → Prop) : Prop := K w.heap.size (w.alloc (.cells cs T))
theorem al_ {T : Nat} {z : Value} {K : Nat → World → Prop} {cs : Array Value} (A : Ag n l a) (hd : Nat.blt d n = true) (hz : zerOf P T = some z) (hc : z.cells = cs) (hh : al w T cs K)
    (k : ∀ b w' a', Ag n ((d, .pointer (some ⟨b, 0, none⟩)) :: l) a' → K b w' → wpList P ops Q rest a' w') : wpList P ops Q (⟨some d, .alloc T, ty, pos, af, none⟩ :: rest) a w := by
  subst hc
  exact op_val A hd (by simp [execOp, Instr.alloc, run_zerOf hz, newVar, newRow]) fun a' A' => k _ _ a' A' hh
theorem bx_ {T : Nat} {x : Operand} {v : Value} {K : Nat → World → Prop} {cs : Array Value} (A : Ag n l a) (hd : Nat.blt d n = true) (h : opd l x = some v) (hc : v.cells = cs) (hh : al w T cs K)
    (k : ∀ b w' a', Ag n ((d, .pointer (some ⟨b, 0, none⟩)) :: l) a' → K b w' → wpList P ops Q rest a' w') : wpList P ops Q (⟨some d, .box T x, ty, pos, af, none⟩ :: rest) a w := by
  subst hc
  exact op_val A hd (by simp [execOp, A.opd h, Instr.box, newVar, newRow]) fun a' A' => k _ _ a' A' hh
def opNe (d : Nat) : Operand → Bool
  | .tmp t => !Nat.beq d t
  | _ => true
/-- a new variable and its first value in one -/
theorem an_ {T m : Nat} {z : Value} {y : Operand} {v : Value} {K : Nat → World → Prop} {vs : List Value} {ty2 : Nat} {pos2 : String} {af2 : Array Edge} (A : Ag n l a) (hd : Nat.blt d n = true) (hz : zerOf P T = some z) (hzs : z.cells.size = m) (hy : opd l y = some v)
    (hne : opNe d y = true)
    (hs : szOf P T = some m) (hv : v.cells = vs.toArray) (hm : vs.length = m) (h1 : ∀ v ∈ vs, v.oneCell' = true) (hh : al w T vs.toArray K)
    (k : ∀ b w' a', Ag n ((d, .pointer (some ⟨b, 0, none⟩)) :: l) a' → K b w' → wpList P ops Q rest a' w') :
    wpList P ops Q (⟨some d, .alloc T, ty, pos, af, none⟩ :: ⟨none, .store T (.tmp d) y, ty2, pos2, af2, none⟩ :: rest) a w := by
  refine al_ (K := fun b w' => b = w.heap.size ∧ w' = w.alloc (.cells z.cells T)) A hd hz rfl ⟨rfl, rfl⟩ fun b w' a' A' hw => ?_
  obtain ⟨rfl, rfl⟩ := hw
  have hy' : opd ((d, .pointer (some ⟨w.heap.size, 0, none⟩)) :: l) y = some v := by
    cases y with
    | tmp t =>
      simp only [opd, look] at hy ⊢
      have : Nat.beq d t = false := by simpa [opNe] using hne
      rw [this, cond_false, hy]
    | const u => exact hy
    | global g => exact hy
    | func f => exact hy
  have hx : opd ((d, Value.pointer (some ⟨w.heap.size, 0, none⟩)) :: l) (.tmp d) = some (.pointer (some ⟨w.heap.size, 0, none⟩)) := by simp [opd, look]
  refine st_ (K := fun w' => w' = w.alloc (.cells vs.toArray T)) A' hx hy' hs hv hm h1 ⟨z.cells, T, by rw [heap_alloc]; simp, rfl, by simp [hzs, hm], ?_⟩ fun w' a' A' hw => ?_
  · unfold World.put World.alloc splice
    congr 1
    apply Array.ext_getElem?
    intro k
    simp only [Array.getElem?_setIfInBounds, Array.getElem?_push, Array.size_push]
    by_cases e : w.heap.size = k
    · subst e
      simp [hzs, hm]
    · simp [e, Ne.symm e]
  · subst hw
    exact k _ _ a' A' hh

/-! ### operations that only reckon: the value by its run -/
theorem pv_ {op : Op} {v : Value} (A : Ag n l a) (hd : Nat.blt d n = true) (hrun : (execOp a.eval ⟨some d, op, ty, pos, af, none⟩).run P w = .ok (.value v) w)
    (k : ∀ a', Ag n ((d, v) :: l) a' → wpList P ops Q rest a' w) : wpList P ops Q (⟨some d, op, ty, pos, af, none⟩ :: rest) a w := op_val A hd hrun k

section bin
variable {x y : Operand} {t yt : TypeId} {kd : IntKind} {i j : Int}
theorem run_bin {op : BinOp} {u v r : Value} (A : Ag n l a) (hx : opd l x = some u) (hy : opd l y = some v) (hg : ∀ ox oy, (eqGuard op t ox oy u v).run P w = .ok () w) (hr : (binOp op t u v).run P w = .ok r w) :
    (execOp a.eval ⟨some d, .binOp op t x y yt, ty, pos, af, none⟩).run P w = .ok (.value r) w := by
  simp [execOp, A.opd hx, A.opd hy, hg, hr]
theorem bi_ {op : BinOp} {u v r : Value} (A : Ag n l a) (hd : Nat.blt d n = true) (hx : opd l x = some u) (hy : opd l y = some v) (hg : ∀ ox oy, (eqGuard op t ox oy u v).run P w = .ok () w) (hr : (binOp op t u v).run P w = .ok r w)
    (k : ∀ a', Ag n ((d, r) :: l) a' → wpList P ops Q rest a' w) : wpList P ops Q (⟨some d, .binOp op t x y yt, ty, pos, af, none⟩ :: rest) a w := pv_ A hd (run_bin A hx hy hg hr) k
theorem add_ (A : Ag n l a) (hd : Nat.blt d n = true) (hx : opd l x = some (.int .i64 i)) (hy : opd l y = some (.int .i64 j)) (k : ∀ a', Ag n ((d, .int .i64 (w64 (i + j))) :: l) a' → wpList P ops Q rest a' w) :
    wpList P ops Q (⟨some d, .binOp .add t x y yt, ty, pos, af, none⟩ :: rest) a w := bi_ A hd hx hy (fun _ _ => rfl) (by rw [binOp_add]; rfl) k
theorem sub_ (A : Ag n l a) (hd : Nat.blt d n = true) (hx : opd l x = some (.int .i64 i)) (hy : opd l y = some (.int .i64 j)) (k : ∀ a', Ag n ((d, .int .i64 (w64 (i - j))) :: l) a' → wpList P ops Q rest a' w) :
    wpList P ops Q (⟨some d, .binOp .sub t x y yt, ty, pos, af, none⟩ :: rest) a w := bi_ A hd hx hy (fun _ _ => rfl) (by rw [binOp_sub]; rfl) k
theorem mul_ (A : Ag n l a) (hd : Nat.blt d n = true) (hx : opd l x = some (.int .i64 i)) (hy : opd l y = some (.int .i64 j)) (k : ∀ a', Ag n ((d, .int .i64 (w64 (i * j))) :: l) a' → wpList P ops Q rest a' w) :
    wpList P ops Q (⟨some d, .binOp .mul t x y yt, ty, pos, af, none⟩ :: rest) a w := bi_ A hd hx hy (fun _ _ => rfl) (by rw [binOp_mul]; rfl) k
theorem quo_ (A : Ag n l a) (hd : Nat.blt d n = true) (hx : opd l x = some (.int .i64 i)) (hy : opd l y = some (.int .i64 j)) {X : Prop} (hh : j ≠ 0 ∧ X) (k : ∀ a', Ag n ((d, .int .i64 (w64 (i.tdiv j))) :: l) a' → X → wpList P ops Q rest a' w) :
    wpList P ops Q (⟨some d, .binOp .quo t x y yt, ty, pos, af, none⟩ :: rest) a w := bi_ A hd hx hy (fun _ _ => rfl) (by rw [binOp_quo]; simp [Op.intDiv, hh.1]; rfl) fun a' A' => k a' A' hh.2
theorem rem_ (A : Ag n l a) (hd : Nat.blt d n = true) (hx : opd l x = some (.int kd i)) (hy : opd l y = some (.int kd j)) {X : Prop} (hh : j ≠ 0 ∧ X) (k : ∀ a', Ag n ((d, .int kd (i.tmod j)) :: l) a' → X → wpList P ops Q rest a' w) :
    wpList P ops Q (⟨some d, .binOp .rem t x y yt, ty, pos, af, none⟩ :: rest) a w := bi_ A hd hx hy (fun _ _ => rfl) (by rw [binOp_rem]; simp [Op.intDiv, hh.1]) fun a' A' => k a' A' hh.2
/-- arithmetic of another kind -/
theorem addk_ (A : Ag n l a) (hd : Nat.blt d n = true) (hx : opd l x = some (.int kd i)) (hy : opd l y = some (.int kd j)) (k : ∀ a', Ag n ((d, .int kd (kd.wrap (i + j))) :: l) a' → wpList P ops Q rest a' w) :
    wpList P ops Q (⟨some d, .binOp .add t x y yt, ty, pos, af, none⟩ :: rest) a w := bi_ A hd hx hy (fun _ _ => rfl) (by rw [binOp_add]; simp [Op.intArith]) k
theorem subk_ (A : Ag n l a) (hd : Nat.blt d n = true) (hx : opd l x = some (.int kd i)) (hy : opd l y = some (.int kd j)) (k : ∀ a', Ag n ((d, .int kd (kd.wrap (i - j))) :: l) a' → wpList P ops Q rest a' w) :
    wpList P ops Q (⟨some d, .binOp .sub t x y yt, ty, pos, af, none⟩ :: rest) a w := bi_ A hd hx hy (fun _ _ => rfl) (by rw [binOp_sub]; simp [Op.intArith]) k
theorem and_ (A : Ag n l a) (hd : Nat.blt d n = true) (hx : opd l x = some (.int kd i)) (hy : opd l y = some (.int kd j)) (k : ∀ a', Ag n ((d, .int kd (bits .and kd i j)) :: l) a' → wpList P ops Q rest a' w) :
    wpList P ops Q (⟨some d, .binOp .and t x y yt, ty, pos, af, none⟩ :: rest) a w := bi_ A hd hx hy (fun _ _ => rfl) (by rw [binOp_and, intBits_and]; rfl) k
theorem eq_ (A : Ag n l a) (hd : Nat.blt d n = true) (hx : opd l x = some (.int kd i)) (hy : opd l y = some (.int kd j)) (k : ∀ a', Ag n ((d, .bool (decide (i = j))) :: l) a' → wpList P ops Q rest a' w) :
    wpList P ops Q (⟨some d, .binOp .eql t x y yt, ty, pos, af, none⟩ :: rest) a w := bi_ A hd hx hy (fun _ _ => rfl) (by rw [binOp_eql]; simp; rfl) k
theorem ne_ (A : Ag n l a) (hd : Nat.blt d n = true) (hx : opd l x = some (.int kd i)) (hy : opd l y = some (.int kd j)) (k : ∀ a', Ag n ((d, .bool (!decide (i = j))) :: l) a' → wpList P ops Q rest a' w) :
    wpList P ops Q (⟨some d, .binOp .neq t x y yt, ty, pos, af, none⟩ :: rest) a w := bi_ A hd hx hy (fun _ _ => rfl) (by rw [binOp_neq]; simp; rfl) k
theorem lt_ (A : Ag n l a) (hd : Nat.blt d n = true) (hx : opd l x = some (.int kd i)) (hy : opd l y = some (.int kd j)) (k : ∀ a', Ag n ((d, .bool (decide (i < j))) :: l) a' → wpList P ops Q rest a' w) :
    wpList P ops Q (⟨some d, .binOp .lss t x y yt, ty, pos, af, none⟩ :: rest) a w := bi_ A hd hx hy (fun _ _ => rfl) (by rw [binOp_lss]; rfl) k
theorem le_ (A : Ag n l a) (hd : Nat.blt d n = true) (hx : opd l x = some (.int kd i)) (hy : opd l y = some (.int kd j)) (k : ∀ a', Ag n ((d, .bool (decide (i ≤ j))) :: l) a' → wpList P ops Q rest a' w) :
    wpList P ops Q (⟨some d, .binOp .leq t x y yt, ty, pos, af, none⟩ :: rest) a w := bi_ A hd hx hy (fun _ _ => rfl) (by rw [binOp_leq]; rfl) k
theorem gt_ (A : Ag n l a) (hd : Nat.blt d n = true) (hx : opd l x = some (.int kd i)) (hy : opd l y = some (.int kd j)) (k : ∀ a', Ag n ((d, .bool (decide (j < i))) :: l) a' → wpList P ops Q rest a' w) :
    wpList P ops Q (⟨some d, .binOp .gtr t x y yt, ty, pos, af, none⟩ :: rest) a w := bi_ A hd hx hy (fun _ _ => rfl) (by rw [binOp_gtr]; rfl) k
theorem ge_ (A : Ag n l a) (hd : Nat.blt d n = true) (hx : opd l x = some (.int kd i)) (hy : opd l y = some (.int kd j)) (k : ∀ a', Ag n ((d, .bool (decide (j ≤ i))) :: l) a' → wpList P ops Q rest a' w) :
    wpList P ops Q (⟨some d, .binOp .geq t x y yt, ty, pos, af, none⟩ :: rest) a w := bi_ A hd hx hy (fun _ _ => rfl) (by rw [binOp_geq]; rfl) k
/-! bools, strings, pointers, slices, maps, interfaces -/
variable {p q : ByteArray} {b c : Bool}
def slt (p q : ByteArray) : Bool := Op.bytesLess p.data.toList q.data.toList
theorem toList_beq (p q : ByteArray) : (p.toList == q.toList) = decide (p = q) := by
  rw [Bool.eq_iff_iff]
  simp only [beq_iff_eq, decide_eq_true_eq, tl]
  constructor
  · intro h
    exact ByteArray.ext (Array.toList_inj.1 h)
  · rintro rfl; rfl
theorem seq_ (A : Ag n l a) (hd : Nat.blt d n = true) (hx : opd l x = some (.string p)) (hy : opd l y = some (.string q)) (k : ∀ a', Ag n ((d, .bool (decide (p = q))) :: l) a' → wpList P ops Q rest a' w) :
    wpList P ops Q (⟨some d, .binOp .eql t x y yt, ty, pos, af, none⟩ :: rest) a w := bi_ A hd hx hy (fun _ _ => rfl) (by simp [binOp, Op.stringOp, toList_beq]) k
theorem sne_ (A : Ag n l a) (hd : Nat.blt d n = true) (hx : opd l x = some (.string p)) (hy : opd l y = some (.string q)) (k : ∀ a', Ag n ((d, .bool (!decide (p = q))) :: l) a' → wpList P ops Q rest a' w) :
    wpList P ops Q (⟨some d, .binOp .neq t x y yt, ty, pos, af, none⟩ :: rest) a w := bi_ A hd hx hy (fun _ _ => rfl) (by simp [binOp, Op.stringOp, toList_beq]) k
theorem slt_ (A : Ag n l a) (hd : Nat.blt d n = true) (hx : opd l x = some (.string p)) (hy : opd l y = some (.string q)) (k : ∀ a', Ag n ((d, .bool (slt p q)) :: l) a' → wpList P ops Q rest a' w) :
    wpList P ops Q (⟨some d, .binOp .lss t x y yt, ty, pos, af, none⟩ :: rest) a w := bi_ A hd hx hy (fun _ _ => rfl) (by simp [binOp, Op.stringOp, slt, tl]) k
theorem sle_ (A : Ag n l a) (hd : Nat.blt d n = true) (hx : opd l x = some (.string p)) (hy : opd l y = some (.string q)) (k : ∀ a', Ag n ((d, .bool (slt p q || decide (p = q))) :: l) a' → wpList P ops Q rest a' w) :
    wpList P ops Q (⟨some d, .binOp .leq t x y yt, ty, pos, af, none⟩ :: rest) a w := bi_ A hd hx hy (fun _ _ => rfl) (by simp [binOp, Op.stringOp, slt, toList_beq]; simp [tl]) k
theorem sgt_ (A : Ag n l a) (hd : Nat.blt d n = true) (hx : opd l x = some (.string p)) (hy : opd l y = some (.string q)) (k : ∀ a', Ag n ((d, .bool (!(slt p q || decide (p = q)))) :: l) a' → wpList P ops Q rest a' w) :
    wpList P ops Q (⟨some d, .binOp .gtr t x y yt, ty, pos, af, none⟩ :: rest) a w := bi_ A hd hx hy (fun _ _ => rfl) (by simp [binOp, Op.stringOp, slt, toList_beq]; simp [tl]) k
theorem sadd_ (A : Ag n l a) (hd : Nat.blt d n = true) (hx : opd l x = some (.string p)) (hy : opd l y = some (.string q)) {X : Prop} (hh : p.size + q.size < 9223372036854775808 ∧ X) (k : ∀ a', Ag n ((d, .string (p ++ q)) :: l) a' → X → wpList P ops Q rest a' w) :
    wpList P ops Q (⟨some d, .binOp .add t x y yt, ty, pos, af, none⟩ :: rest) a w := bi_ A hd hx hy (fun _ _ => rfl) (by
      have h : ¬ ((p.size + q.size : Nat) : Int) > IntKind.i64.max := by rw [IntKind.max_i64]; have := hh.1; omega
      simp only [binOp, Op.stringOp]
      rw [if_neg h]; rfl) fun a' A' => k a' A' hh.2
end bin
theorem not_ {x : Operand} {b : Bool} {t : TypeId} (A : Ag n l a) (hd : Nat.blt d n = true) (hx : opd l x = some (.bool b)) (k : ∀ a', Ag n ((d, .bool (!b)) :: l) a' → wpList P ops Q rest a' w) :
    wpList P ops Q (⟨some d, .unOp .not t x, ty, pos, af, none⟩ :: rest) a w := pv_ A hd (by simp [execOp, A.opd hx, Op.unary]) k
theorem pkt_ {c x y : Operand} {v : Value} (A : Ag n l a) (hd : Nat.blt d n = true) (hc : opd l c = some (.bool true)) (hx : opd l x = some v) (k : ∀ a', Ag n ((d, v) :: l) a' → wpList P ops Q rest a' w) :
    wpList P ops Q (⟨some d, .pick c x y, ty, pos, af, none⟩ :: rest) a w := pv_ A hd (by simp [execOp, A.opd hc, A.opd hx, asBool]) k
theorem pkf_ {c x y : Operand} {v : Value} (A : Ag n l a) (hd : Nat.blt d n = true) (hc : opd l c = some (.bool false)) (hx : opd l y = some v) (k : ∀ a', Ag n ((d, v) :: l) a' → wpList P ops Q rest a' w) :
    wpList P ops Q (⟨some d, .pick c x y, ty, pos, af, none⟩ :: rest) a w := pv_ A hd (by simp [execOp, A.opd hc, A.opd hx, asBool]) k
theorem ex_ {x : Operand} {vs : Array Value} {i : Nat} {v : Value} (A : Ag n l a) (hd : Nat.blt d n = true) (hx : opd l x = some (.tuple vs)) (hv : vs[i]? = some v) (k : ∀ a', Ag n ((d, v) :: l) a' → wpList P ops Q rest a' w) :
    wpList P ops Q (⟨some d, .extract x i, ty, pos, af, none⟩ :: rest) a w := pv_ A hd (by simp [execOp, A.opd hx, Instr.extract, hv]) k
theorem mi_ {x : Operand} {T : Nat} {v : Value} (A : Ag n l a) (hd : Nat.blt d n = true) (hx : opd l x = some v) (hT : ∀ ms, P.underlying T ≠ some (.interface ms)) (hu : (P.underlying T).isSome = true) (k : ∀ a', Ag n ((d, ifc (some (T, v))) :: l) a' → wpList P ops Q rest a' w) :
    wpList P ops Q (⟨some d, .makeInterface T x, ty, pos, af, none⟩ :: rest) a w := pv_ A hd (by
      obtain ⟨dd, hdd⟩ := Option.isSome_iff_exists.1 hu
      cases dd <;> first | (exact absurd hdd (hT _)) | simp [execOp, A.opd hx, Instr.makeInterface, run_underlying hdd, ifc]) k

/-! ### lengths, indexes, cuts -/
section slices
variable {x y : Operand} {t e sz : Nat} {p : Option Addr} {m c : Nat} {i : Int} {s : ByteArray}
theorem lenl_ (A : Ag n l a) (hd : Nat.blt d n = true) (hx : opd l x = some (.slice p m c)) (ht : elOf P t = some (e, sz)) (k : ∀ a', Ag n ((d, .int .i64 m) :: l) a' → wpList P ops Q rest a' w) :
    wpList P ops Q (⟨some d, .call { callee := .builtin .len, args := #[x], argTypes := #[t] }, ty, pos, af, none⟩ :: rest) a w := pv_ A hd (by
      unfold elOf at ht
      cases hu : P.underlying t with
      | none => simp [hu] at ht
      | some dd => cases dd <;> simp [hu] at ht; simp [execOp, A.opd hx, resolve, invoke, builtin, Builtin.len_, run_underlying hu, goInt]) k
theorem lens_ (A : Ag n l a) (hd : Nat.blt d n = true) (hx : opd l x = some (.string s)) (ht : P.underlying t = some .string) (k : ∀ a', Ag n ((d, .int .i64 s.size) :: l) a' → wpList P ops Q rest a' w) :
    wpList P ops Q (⟨some d, .call { callee := .builtin .len, args := #[x], argTypes := #[t] }, ty, pos, af, none⟩ :: rest) a w := pv_ A hd (by
      simp [execOp, A.opd hx, resolve, invoke, builtin, Builtin.len_, run_underlying ht, goInt]) k
/-- the address of an element -/
def ix (p : Option Addr) (m sz : Nat) (i : Int) (K : Addr → Prop) : Prop := ∃ b, p = some b ∧ 0 ≤ i ∧ i < m ∧ K (b.add (i.toNat * sz))
theorem ix_ {kd : IntKind} {K : Addr → Prop} (A : Ag n l a) (hd : Nat.blt d n = true) (hx : opd l x = some (.slice p m c)) (hy : opd l y = some (.int kd i)) (ht : elOf P t = some (e, sz)) (hh : ix p m sz i K)
    (k : ∀ b a', Ag n ((d, .pointer (some b)) :: l) a' → K b → wpList P ops Q rest a' w) : wpList P ops Q (⟨some d, .indexAddr t x y, ty, pos, af, none⟩ :: rest) a w := by
  obtain ⟨b, rfl, h0, h1, hK⟩ := hh
  refine op_val A hd ?_ fun a' A' => k _ a' A' hK
  unfold elOf at ht
  cases hu : P.underlying t with
  | none => simp [hu] at ht
  | some dd =>
    cases dd <;> simp [hu] at ht
    obtain ⟨hs, rfl⟩ := ht
    simp [execOp, A.opd hx, A.opd hy, Instr.indexAt, asIntOf, run_underlying hu, h0, h1, run_szOf hs]
theorem sx_ {kd : IntKind} {K : Int → Prop} (A : Ag n l a) (hd : Nat.blt d n = true) (hx : opd l x = some (.string s)) (hy : opd l y = some (.int kd i)) (ht : P.underlying t = some .string) (hh : 0 ≤ i ∧ ∃ h : i.toNat < s.size, K (s[i.toNat].toNat : Int))
    (k : ∀ u a', Ag n ((d, .int .u8 u) :: l) a' → K u → wpList P ops Q rest a' w) : wpList P ops Q (⟨some d, .index t x y, ty, pos, af, none⟩ :: rest) a w := by
  obtain ⟨h0, h1, hK⟩ := hh
  refine op_val A hd ?_ fun a' A' => k _ a' A' hK
  simp [execOp, A.opd hx, A.opd hy, Instr.index, asIntOf, run_underlying ht, h0, h1]

/-- a string's cut -/
def bnd (l : Env) (o : Option Operand) (d : Int) : Option Int := match o with
  | none => some d
  | some x => match opd l x with
    | some (.int _ i) => some i
    | _ => none
theorem run_bound {o : Option Operand} {lo dft : Int} {y : Nat} {code : BoundsCode} (A : Ag n l a) (h : bnd l o dft = some lo) (h0 : 0 ≤ lo) (h1 : lo ≤ y) : match o with
    | some x => (Instr.sliceBound (a.eval x) y code).run P w = .ok lo.toNat w
    | none => lo = dft := by
  cases o with
  | none => simp [bnd] at h; exact h.symm
  | some x =>
    simp only [bnd] at h
    cases hx : opd l x with
    | none => simp [hx] at h
    | some v =>
      cases v <;> simp [hx] at h
      subst h
      simp [A.opd hx, Instr.sliceBound, asIntOf, h0, h1]
def cutS (s : ByteArray) (i j : Int) (K : ByteArray → Prop) : Prop := 0 ≤ i ∧ i ≤ j ∧ j ≤ s.size ∧ K (s.extract i.toNat j.toNat)
theorem cuts_ {lo hi : Option Operand} {i j : Int} {K : ByteArray → Prop} (A : Ag n l a) (hd : Nat.blt d n = true) (hx : opd l x = some (.string s)) (ht : P.underlying t = some .string)
    (hl : bnd l lo 0 = some i) (hh : bnd l hi s.size = some j) (hk : cutS s i j K)
    (k : ∀ u a', Ag n ((d, .string u) :: l) a' → K u → wpList P ops Q rest a' w) : wpList P ops Q (⟨some d, .slice t x lo hi none, ty, pos, af, none⟩ :: rest) a w := by
  obtain ⟨h0, h1, h2, hK⟩ := hk
  refine op_val A hd ?_ fun a' A' => k _ a' A' hK
  have b1 := run_bound (P := P) (w := w) (y := s.size) (code := .sliceAlen) A hh (by omega) h2
  have b0 := run_bound (P := P) (w := w) (y := j.toNat) (code := .sliceB) A hl h0 (by omega)
  cases lo with
  | none =>
    simp only at b0; subst b0
    cases hi with
    | none => simp only at b1; subst b1; simp [execOp, A.opd hx, Instr.sliceAt, Instr.slice, run_underlying ht, Instr.sliceBounds]
    | some y => simp only at b1; simp [execOp, A.opd hx, Instr.sliceAt, Instr.slice, run_underlying ht, Instr.sliceBounds, b1]
  | some z =>
    simp only at b0
    cases hi with
    | none => simp only at b1; subst b1; simp at b0; simp [execOp, A.opd hx, Instr.sliceAt, Instr.slice, run_underlying ht, Instr.sliceBounds, b0]
    | some y => simp only at b1; simp [execOp, A.opd hx, Instr.sliceAt, Instr.slice, run_underlying ht, Instr.sliceBounds, b1, b0]
/-- a slice's cut: where it begins -/
def cutAt (p : Option Addr) (c sz i : Nat) : Option Addr := if c = i then p else p.map (·.add (i * sz))
def cutL (s : Sl) (sz : Nat) (i j q : Int) (K : Sl → Prop) : Prop := 0 ≤ i ∧ i ≤ j ∧ j ≤ q ∧ q ≤ s.c ∧ K ⟨cutAt s.p q.toNat sz i.toNat, j.toNat - i.toNat, q.toNat - i.toNat⟩
theorem cutl_ {lo hi mx : Option Operand} {i j q : Int} {K : Sl → Prop} (A : Ag n l a) (hd : Nat.blt d n = true) (hx : opd l x = some (.slice p m c)) (ht : elOf P t = some (e, sz)) (hu : P.underlying t = some (.slice e))
    (hl : bnd l lo 0 = some i) (hh : bnd l hi m = some j) (hm : bnd l mx c = some q) (hmx : mx.isSome = true → hi.isSome = true) (hk : cutL ⟨p, m, c⟩ sz i j q K)
    (k : ∀ s' a', Ag n ((d, Sl.v s') :: l) a' → K s' → wpList P ops Q rest a' w) : wpList P ops Q (⟨some d, .slice t x lo hi mx, ty, pos, af, none⟩ :: rest) a w := by
  obtain ⟨h0, h1, h2, h3, hK⟩ := hk
  simp only at h3 hK
  refine op_val A hd (v := Sl.v ⟨cutAt p q.toNat sz i.toNat, j.toNat - i.toNat, q.toNat - i.toNat⟩) ?_ fun a' A' => k _ a' A' hK
  have hs : szOf P e = some sz := by
    unfold elOf at ht; simp [hu] at ht; exact ht
  have b2 := fun code => run_bound (P := P) (w := w) (y := c) (code := code) A hm (by omega) h3
  have b1 := fun code => run_bound (P := P) (w := w) (y := q.toNat) (code := code) A hh (by omega) (by omega)
  have b0 := fun code => run_bound (P := P) (w := w) (y := j.toNat) (code := code) A hl h0 (by omega)
  cases mx with
  | none =>
    have e2 := b2 .index
    simp only at e2
    subst e2
    simp only [Int.toNat_natCast] at b1
    cases lo with
    | none =>
      have e0 := b0 .index
      simp only at e0; subst e0
      cases hi with
      | none => have e1 := b1 .index; simp only at e1; subst e1; simp [execOp, A.opd hx, Instr.sliceAt, Instr.slice, run_underlying hu, Instr.sliceBounds, run_szOf hs, cutAt, Sl.v]
      | some y => simp only at b1; simp [execOp, A.opd hx, Instr.sliceAt, Instr.slice, run_underlying hu, Instr.sliceBounds, b1, run_szOf hs, cutAt, Sl.v]
    | some z =>
      simp only at b0
      cases hi with
      | none => have e1 := b1 .index; simp only at e1; subst e1; simp at b0; simp [execOp, A.opd hx, Instr.sliceAt, Instr.slice, run_underlying hu, Instr.sliceBounds, b0, run_szOf hs, cutAt, Sl.v]
      | some y => simp only at b1; simp [execOp, A.opd hx, Instr.sliceAt, Instr.slice, run_underlying hu, Instr.sliceBounds, b1, b0, run_szOf hs, cutAt, Sl.v]
  | some u =>
    simp only at b2
    cases hi with
    | none => simp at hmx
    | some y =>
      simp only at b1
      cases lo with
      | none => have e0 := b0 .index; simp only at e0; subst e0; simp [execOp, A.opd hx, Instr.sliceAt, Instr.slice, run_underlying hu, Instr.sliceBounds, b2, b1, run_szOf hs, cutAt, Sl.v]
      | some z => simp only at b0; simp [execOp, A.opd hx, Instr.sliceAt, Instr.slice, run_underlying hu, Instr.sliceBounds, b2, b1, b0, run_szOf hs, cutAt, Sl.v]
end slices

/-! ### maps -/
open Go.MapKept (IsKey findNow_spec)
def keyIs : Value → Value → Bool
  | .int j a, .int k b => j == k && a == b
  | .string a, .string b => decide (a = b)
  | .bool a, .bool b => a == b
  | _, _ => false
theorem keyIs_iff {td : TypeDesc} {u v : Value} (hu : IsKey td u) (hv : IsKey td v) : keyIs u v = true ↔ u = v := by
  cases td <;> cases u <;> cases v <;> simp_all [IsKey, keyIs]
def mgetI : List MapEntry → Value → Nat → Option (Nat × Value)
  | [], _, _ => none
  | e :: r, k, i => if keyIs e.key k then some (i, e.val) else mgetI r k (i + 1)
/-- what a map holds under a key -/
def mget (es : Array MapEntry) (k : Value) : Option Value := (mgetI es.toList k 0).map (·.2)
/-- its entries behind a store -/
def mset (es : Array MapEntry) (c : Nat) (k v : Value) : Obj := match mgetI es.toList k 0 with
  | some (i, _) => .map (es.modify i fun e => { e with key := k, val := v }) c
  | none => .map (es.push { key := k, val := v, born := c }) (c + 1)
def mdel (es : Array MapEntry) (c : Nat) (k : Value) : Obj := match mgetI es.toList k 0 with
  | some (i, _) => .map (es.eraseIdxIfInBounds i) c
  | none => .map es c
theorem findNow_mgetI {td : TypeDesc} {k : Value} (hk : IsKey td k) : ∀ (es : List MapEntry) (i : Nat), (∀ e ∈ es, IsKey td e.key) → Instr.findNow td k es i = some (mgetI es k i)
  | [], i, _ => rfl
  | e :: r, i, h => by
    have he := h e (by simp)
    obtain ⟨b, hb, hiff⟩ := MapKept.sameNow_of_keys hk he
    have ih := findNow_mgetI hk r (i + 1) (fun x hx => h x (by simp [hx]))
    cases b with
    | true =>
      have : e.key = k := (hiff.1 rfl).symm
      simp [Instr.findNow, hb, mgetI, (keyIs_iff he hk).2 this]
    | false =>
      have hne : ¬ k = e.key := fun h => by have := hiff.2 h; cases this
      have : keyIs e.key k = false := by
        cases hq : keyIs e.key k with
        | false => rfl
        | true => exact absurd ((keyIs_iff he hk).1 hq).symm hne
      simp [Instr.findNow, hb, mgetI, this, ih]
/-- the entries of a map that is read: none of nil's -/
def mes (w : World) (td : TypeDesc) (m : Option Nat) (es : Array MapEntry) : Prop := (m = none ∧ es = #[] ∨ ∃ b c, m = some b ∧ w.heap[b]? = some (.map es c)) ∧ ∀ e ∈ es.toList, IsKey td e.key
def mapOf (P : Program) (t : TypeId) : Option (Nat × Nat) := match P.underlying t with
  | some (.map k e) => some (k, e)
  | _ => none
theorem run_lookup {T kt et : Nat} {td : TypeDesc} {m : Option Nat} {es : Array MapEntry} {key z : Value} {ok : Bool} (hT : P.underlying T = some (.map kt et)) (hk : P.underlying kt = some td) (hz : zerOf P et = some z) (hkey : IsKey td key) (hm : mes w td m es) :
    (Instr.lookup T (.map m) key ok).run P w = .ok (if ok then .tuple #[(mget es key).getD z, .bool (mget es key).isSome] else (mget es key).getD z) w := by
  obtain ⟨hm, hks⟩ := hm
  have hf := findNow_mgetI hkey es.toList 0 hks
  have hc := fun e => MapKept.run_checkKey (P := P) (w := w) hk hkey e 9999
  have hfk := MapKept.run_findKey (P := P) (w := w) (l := es.toList) hk hf
  rcases hm with ⟨rfl, rfl⟩ | ⟨b, c, rfl, hb⟩
  · simp [mgetI] at hfk
    simp [Instr.lookup, run_underlying hT, hc, hfk, run_zerOf hz, mget, mgetI]
  · simp only [Instr.lookup, Sem.run_bind, run_underlying hT, Result.andThen_ok, MapKept.run_getObj_map (P := P) hb, Sem.run_pure, hc, hfk]
    cases hq : mgetI es.toList key 0 with
    | none => cases ok <;> simp [mget, hq, run_zerOf hz]
    | some x => cases ok <;> simp [mget, hq]
theorem lk_ {x y : Operand} {T kt et : Nat} {td : TypeDesc} {m : Option Nat} {es : Array MapEntry} {key z : Value} (A : Ag n l a) (hd : Nat.blt d n = true) (hx : opd l x = some (.map m)) (hy : opd l y = some key)
    (hT : P.underlying T = some (.map kt et)) (hk : P.underlying kt = some td) (hz : zerOf P et = some z) (hkey : IsKey td key) (hm : mes w td m es)
    (k : ∀ a', Ag n ((d, (mget es key).getD z) :: l) a' → wpList P ops Q rest a' w) : wpList P ops Q (⟨some d, .lookup T x y false, ty, pos, af, none⟩ :: rest) a w :=
  op_val A hd (by simp [execOp, A.opd hx, A.opd hy, run_lookup hT hk hz hkey hm]) k
theorem lkk_ {x y : Operand} {T kt et : Nat} {td : TypeDesc} {m : Option Nat} {es : Array MapEntry} {key z : Value} (A : Ag n l a) (hd : Nat.blt d n = true) (hx : opd l x = some (.map m)) (hy : opd l y = some key)
    (hT : P.underlying T = some (.map kt et)) (hk : P.underlying kt = some td) (hz : zerOf P et = some z) (hkey : IsKey td key) (hm : mes w td m es)
    (k : ∀ a', Ag n ((d, .tuple #[(mget es key).getD z, .bool (mget es key).isSome]) :: l) a' → wpList P ops Q rest a' w) : wpList P ops Q (⟨some d, .lookup T x y true, ty, pos, af, none⟩ :: rest) a w :=
  op_val A hd (by simp [execOp, A.opd hx, A.opd hy, run_lookup hT hk hz hkey hm]) k
def mu (w : World) (td : TypeDesc) (m : Option Nat) (key v : Value) (K : World → Prop) : Prop := ∃ b es c, m = some b ∧ w.heap[b]? = some (.map es c) ∧ (∀ e ∈ es.toList, IsKey td e.key) ∧ K (w.put b (mset es c key v))
theorem mgetI_get {es : List MapEntry} {k : Value} {i j : Nat} {v : Value} (h : mgetI es k i = some (j, v)) : ∃ q e, j = i + q ∧ es[q]? = some e ∧ keyIs e.key k = true ∧ e.val = v := by
  induction es generalizing i with
  | nil => simp [mgetI] at h
  | cons e r ih =>
    simp only [mgetI] at h
    split at h
    · rename_i hk
      injection h with h
      injection h with h1 h2
      exact ⟨0, e, by omega, rfl, hk, h2⟩
    · obtain ⟨q, e', h1, h2, h3⟩ := ih h
      exact ⟨q + 1, e', by omega, by simpa using h2, h3⟩
theorem mu_ {x y z : Operand} {T kt et : Nat} {td : TypeDesc} {m : Option Nat} {key v : Value} {K : World → Prop} (A : Ag n l a) (hx : opd l x = some (.map m)) (hy : opd l y = some key) (hv : opd l z = some v)
    (hT : P.underlying T = some (.map kt et)) (hk : P.underlying kt = some td) (hkey : IsKey td key) (hh : mu w td m key v K)
    (k : ∀ w' a', Ag n l a' → K w' → wpList P ops Q rest a' w') : wpList P ops Q (⟨none, .mapUpdate T x y z, ty, pos, af, none⟩ :: rest) a w := by
  obtain ⟨b, es, c, rfl, hb, hks, hK⟩ := hh
  refine op_none A ?_ fun a' A' => k _ a' A' hK
  have hf := findNow_mgetI hkey es.toList 0 hks
  have hc := fun e => MapKept.run_checkKey (P := P) (w := w) hk hkey e 9999
  have hfk := MapKept.run_findKey (P := P) (w := w) (l := es.toList) hk hf
  simp only [execOp, A.opd hx, A.opd hy, A.opd hv, Instr.mapUpdate, Sem.run_bind, run_underlying hT, Result.andThen_ok, MapKept.run_getObj_map (P := P) hb, hc, hfk]
  cases hq : mgetI es.toList key 0 with
  | none => simp [MapKept.run_setObj_map (P := P) _ hb, mset, hq, World.put]
  | some x =>
    obtain ⟨j, u⟩ := x
    obtain ⟨q, e, h1, h2, h3, h4⟩ := mgetI_get hq
    have hj : es[j]? = some e := by rw [h1]; simpa using h2
    have he : e.key = key := (keyIs_iff (hks e (List.mem_of_getElem? h2)) hkey).1 h3
    simp [hj, he, MapKept.run_keyThatStays (P := P) hkey, MapKept.run_setObj_map (P := P) _ hb, mset, hq, World.put]
theorem lenm_ {x : Operand} {T kt et : Nat} {td : TypeDesc} {m : Option Nat} {es : Array MapEntry} (A : Ag n l a) (hd : Nat.blt d n = true) (hx : opd l x = some (.map m)) (hT : P.underlying T = some (.map kt et)) (hm : mes w td m es)
    (k : ∀ a', Ag n ((d, .int .i64 es.size) :: l) a' → wpList P ops Q rest a' w) : wpList P ops Q (⟨some d, .call { callee := .builtin .len, args := #[x], argTypes := #[T] }, ty, pos, af, none⟩ :: rest) a w := by
  refine op_val A hd ?_ k
  obtain ⟨⟨rfl, rfl⟩ | ⟨b, c, rfl, hb⟩, _⟩ := hm
  · simp [execOp, A.opd hx, resolve, invoke, builtin, Builtin.len_, run_underlying hT, goInt]
  · simp [execOp, A.opd hx, resolve, invoke, builtin, Builtin.len_, run_underlying hT, MapKept.run_getObj_map (P := P) hb, goInt]
def mk (w : World) (K : Nat → World → Prop) : Prop := K w.heap.size (w.alloc (.map #[] 0))
theorem mk_ {T : Nat} {K : Nat → World → Prop} (A : Ag n l a) (hd : Nat.blt d n = true) (hh : mk w K)
    (k : ∀ b w' a', Ag n ((d, .map (some b)) :: l) a' → K b w' → wpList P ops Q rest a' w') : wpList P ops Q (⟨some d, .makeMap T none, ty, pos, af, none⟩ :: rest) a w :=
  op_val A hd (by simp [execOp, Instr.makeMap]) fun a' A' => k _ _ a' A' hh

/-! ### calls -/
def bodied (P : Program) (f : FuncId) : Bool := match P.funcs[f]? with
  | some fn => !(fn.name == "runtime.NumGoroutine") && fn.body.isSome
  | none => false
theorem run_callFunc {f : FuncId} {args : Array Value} (h : bodied P f = true) : (callFunc f args).run P w = .ok (.enter f args) w := by
  unfold bodied at h
  cases hf : P.funcs[f]? with
  | none => simp [hf] at h
  | some fn =>
    simp [hf] at h
    obtain ⟨h1, h2⟩ := h
    have hb : ¬ fn.body = none := by intro hq; simp [hq] at h2
    simp [callFunc, hf, h1, hb]
def opds (l : Env) : List Operand → Option (List Value)
  | [] => some []
  | x :: r => match opd l x, opds l r with
    | some v, some vs => some (v :: vs)
    | _, _ => none
theorem Ag.opds {xs : List Operand} {vs : List Value} (A : Ag n l a) (h : opds l xs = some vs) : xs.map a.eval = vs := by
  induction xs generalizing vs with
  | nil => simp [Low.opds] at h; subst h; rfl
  | cons x r ih =>
    simp only [Low.opds] at h
    cases hx : Low.opd l x with
    | none => simp [hx] at h
    | some v =>
      cases hr : Low.opds l r with
      | none => simp [hx, hr] at h
      | some us =>
        simp [hx, hr] at h
        subst h
        simp [A.opd hx, ih hr]
/-- a call that returns -/
def cl (P : Program) (f : FuncId) (args : List Value) (w : World) (K : Value → World → Prop) : Prop := Calls P f args.toArray w fun e w' => ∃ v, e = .returned v ∧ K v w'
theorem cl_ {f : FuncId} {xs : List Operand} {ts : Array TypeId} {vs : List Value} {K : Value → World → Prop} (A : Ag n l a) (hd : Nat.blt d n = true) (hf : bodied P f = true) (hx : opds l xs = some vs) (hh : cl P f vs w K)
    (k : ∀ v w' a', Ag n ((d, v) :: l) a' → K v w' → wpList P ops Q rest a' w') :
    wpList P ops Q (⟨some d, .call { callee := .value (.func f), args := xs.toArray, argTypes := ts }, ty, pos, af, none⟩ :: rest) a w := by
  refine wpList_plain rfl fun K' hK' => ?_
  have : (execOp a.eval ⟨some d, .call { callee := .value (.func f), args := xs.toArray, argTypes := ts }, ty, pos, af, none⟩).run P w = .ok (.enter f vs.toArray) w := by
    simp [execOp, resolve, Act.eval, Deferred.ofValue, invoke, A.opds hx, run_callFunc hf]
  unfold Oper.wp
  rw [this]
  refine Calls.mono hh ?_
  rintro e w' ⟨v, rfl, hK⟩
  exact hK' _ _ (k v w' _ (A.put hd v) hK)
theorem cl0_ {f : FuncId} {xs : List Operand} {ts : Array TypeId} {vs : List Value} {K : Value → World → Prop} (A : Ag n l a) (hf : bodied P f = true) (hx : opds l xs = some vs) (hh : cl P f vs w K)
    (k : ∀ v w' a', Ag n l a' → K v w' → wpList P ops Q rest a' w') :
    wpList P ops Q (⟨none, .call { callee := .value (.func f), args := xs.toArray, argTypes := ts }, ty, pos, af, none⟩ :: rest) a w := by
  refine wpList_plain rfl fun K' hK' => ?_
  have : (execOp a.eval ⟨none, .call { callee := .value (.func f), args := xs.toArray, argTypes := ts }, ty, pos, af, none⟩).run P w = .ok (.enter f vs.toArray) w := by
    simp [execOp, resolve, Act.eval, Deferred.ofValue, invoke, A.opds hx, run_callFunc hf]
  unfold Oper.wp
  rw [this]
  refine Calls.mono hh ?_
  rintro e w' ⟨v, rfl, hK⟩
  exact hK' _ _ (k v w' _ A hK)

/-! ### guards -/
theorem wanted_of {o : Oper} {j : Nat} {b want : Bool} {t : Nat} (A : Ag n l a) (ht : t < n) (hj : (ops[j]?).bind (·.dst) = some t) (hl : look l t = some (.bool b)) : Region.wanted { o with guard := some (j, want) } (yielded ops a.tmps) = (b == want) := by
  have h1 : a.tmps[t]? = some (.bool b) := by
    have h := A.get t _ hl
    have hs : t < a.tmps.size := by rw [A.size]; exact ht
    simp [Array.getD_eq_getD_getElem?, Array.getElem?_eq_getElem hs] at h
    simp [Array.getElem?_eq_getElem hs, h]
  have hy : yielded ops a.tmps j = some b := by simp [yielded, hj, h1]
  simp only [Region.wanted, hy]
  cases b <;> cases want <;> rfl
theorem unwanted_of {o : Oper} {j : Nat} {want : Bool} {t : Nat} (A : Ag n l a) (ht : t < n) (hj : (ops[j]?).bind (·.dst) = some t) (hl : look l t = some undef) : Region.wanted { o with guard := some (j, want) } (yielded ops a.tmps) = false := by
  have h1 : a.tmps[t]? = some undef := by
    have h := A.get t _ hl
    have hs : t < a.tmps.size := by rw [A.size]; exact ht
    simp [Array.getD_eq_getD_getElem?, Array.getElem?_eq_getElem hs] at h
    simp [Array.getElem?_eq_getElem hs, h]
  have hy : yielded ops a.tmps j = none := by simp [yielded, hj, h1, undef]
  simp [Region.wanted, hy]
/-- the guard lets it by -/
theorem gy_ {op : Op} {dst : Option Tmp} {j t : Nat} {want : Bool} (A : Ag n l a) (ht : Nat.blt t n = true) (hj : (ops[j]?).bind (·.dst) = some t) (hl : look l t = some (.bool want))
    (h : wpList P ops Q (⟨dst, op, ty, pos, af, none⟩ :: rest) a w) : wpList P ops Q (⟨dst, op, ty, pos, af, some (j, want)⟩ :: rest) a w := by
  have hw := wanted_of (o := ⟨dst, op, ty, pos, af, none⟩) (want := want) A (by simpa using ht) hj hl
  simp only [wpList] at h ⊢
  have h1 : Region.wanted ⟨dst, op, ty, pos, af, some (j, want)⟩ (yielded ops a.tmps) = true := by rw [hw]; simp
  have h2 : Region.wanted ⟨dst, op, ty, pos, af, none⟩ (yielded ops a.tmps) = true := rfl
  rw [if_pos h2] at h
  rw [if_pos h1]
  exact h
/-- .. doesn't -/
theorem gn_ {op : Op} {j t : Nat} {b want : Bool} (A : Ag n l a) (hd : Nat.blt d n = true) (ht : Nat.blt t n = true) (hj : (ops[j]?).bind (·.dst) = some t) (hl : look l t = some (.bool b)) (hb : (b == want) = false)
    (k : ∀ a', Ag n ((d, undef) :: l) a' → wpList P ops Q rest a' w) : wpList P ops Q (⟨some d, op, ty, pos, af, some (j, want)⟩ :: rest) a w := by
  have hw := wanted_of (o := ⟨some d, op, ty, pos, af, none⟩) (want := want) A (by simpa using ht) hj hl
  simp only [wpList]
  rw [if_neg (by rw [hw, hb]; simp)]
  exact k _ (A.put hd _)
theorem gu_ {op : Op} {j t : Nat} {want : Bool} (A : Ag n l a) (hd : Nat.blt d n = true) (ht : Nat.blt t n = true) (hj : (ops[j]?).bind (·.dst) = some t) (hl : look l t = some undef)
    (k : ∀ a', Ag n ((d, undef) :: l) a' → wpList P ops Q rest a' w) : wpList P ops Q (⟨some d, op, ty, pos, af, some (j, want)⟩ :: rest) a w := by
  have hw := unwanted_of (o := ⟨some d, op, ty, pos, af, none⟩) (want := want) A (by simpa using ht) hj hl
  simp only [wpList]
  rw [if_neg (by rw [hw]; simp)]
  exact k _ (A.put hd _)
/-- two ways -/
theorem two_ {b : Bool} {X Y : Prop} {G : Prop} (h : (b = true → X) ∧ (b = false → Y)) (hx : b = true → X → G) (hy : b = false → Y → G) : G := by
  cases hb : b with
  | true => exact hx hb (h.1 hb)
  | false => exact hy hb (h.2 hb)

/-! ### the code around -/
theorem sq_ {x y : Code} {a : Act} (h : x.wp P (Exit.then (y.wp P Q) Q) a w) : (Code.seq x y).wp P Q a w := wp_seq h
theorem rg_ {id : Nat} {os : List Oper} (h : ∀ R : Exit → Act → World → Prop, (∀ a w, Q .normal a w → R .normal a w) → wpList P os.toArray R os a w) : (Code.region id os.toArray false).wp P Q a w := wp_region_lit (h Q fun _ _ h => h)
theorem wn_ {R : Exit → Act → World → Prop} (hR : ∀ a w, Q .normal a w → R .normal a w) (h : Q .normal a w) : wpList P ops R [] a w := hR _ _ h
theorem cd_ {c : Operand} {x y : Code} {b : Bool} (A : Ag n l a) (hc : opd l c = some (.bool b)) (hx : b = true → x.wp P Q a w) (hy : b = false → y.wp P Q a w) : (Code.cond c x y).wp P Q a w := wp_cond_split (A.opd hc) hx hy
/-- a loop: what holds at each round's head, and what goes down -/
def Lp {σ : Type} (body : σ → World → (σ → World → Prop) → Prop) (s : σ) (w : World) : Prop :=
  ∃ (I : σ → World → Prop) (μ : σ → World → Nat), I s w ∧ ∀ s w, I s w → body s w fun s' w' => I s' w' ∧ μ s' w' < μ s w
theorem lp_ {σ : Type} {c : Code} {E : σ → Env} {body : σ → World → (σ → World → Prop) → Prop} {s : σ} (A : Ag n (E s) a) (h : Lp body s w)
    (round : ∀ (N : σ → World → Prop) s w a, body s w N → Ag n (E s) a → c.wp P (Exit.then (fun a' w' => ∃ s', Ag n (E s') a' ∧ N s' w') Q) a w) : (Code.loop c).wp P Q a w := by
  obtain ⟨I, μ, h0, hstep⟩ := h
  intro b k cs
  have key : ∀ m s a w, μ s w = m → I s w → Ag n (E s) a →
      ∃ e a' w', Q e a' w' ∧ Arrives P (lone (b.at a (.code c :: .inLoop c :: k)) cs w) b k cs e a' w' := by
    intro m
    induction m using Nat.strongRecOn with
    | _ m ih =>
      intro s a w hm hI hA
      obtain ⟨e, a₁, w₁, hq, harr⟩ := round _ s w a (hstep s w hI) hA b (.inLoop c :: k) cs
      cases e with
      | normal =>
        obtain ⟨s', hA', hI', hlt⟩ := hq
        obtain ⟨e₂, a₂, w₂, hq₂, harr₂⟩ := ih (μ s' w₁) (hm ▸ hlt) s' a₁ w₁ rfl hI' hA'
        exact ⟨e₂, a₂, w₂, hq₂, .of_steps (Steps.trans harr (.one step_inLoop)) harr₂⟩
      | exit id => exact ⟨_, a₁, w₁, hq, .pass (x := .inLoop c) rfl (fun _ _ => .inl (by simp)) harr⟩
      | goto l => exact ⟨_, a₁, w₁, hq, .pass (x := .inLoop c) rfl (fun _ _ => .inl (by simp)) harr⟩
      | ret => exact ⟨_, a₁, w₁, hq, .pass (x := .inLoop c) rfl (fun _ _ => .inl (by simp)) harr⟩
      | panic ch => exact ⟨_, a₁, w₁, hq, .pass (x := .inLoop c) rfl (fun _ _ => .inl (by simp)) harr⟩
      | outgrown => exact ⟨_, a₁, w₁, hq, .pass (x := .inLoop c) rfl (fun _ _ => .inl (by simp)) harr⟩
  obtain ⟨e, a', w', hq, harr⟩ := key _ s a w rfl h0 A
  exact ⟨e, a', w', hq, .of_steps (.one step_loop) harr⟩
/-- where ways meet: J is what is known there -/
def Jn {α : Type} (rest : α → World → Prop) (body : (α → World → Prop) → Prop) : Prop := ∃ J : α → World → Prop, (∀ x w, J x w → rest x w) ∧ body J
theorem Jn.self {α : Type} {rest : α → World → Prop} {body : (α → World → Prop) → Prop} (h : body rest) : Jn rest body := ⟨rest, fun _ _ h => h, h⟩

/-! ### a function -/
theorem fn_ {f : FuncId} {fn : Func} {c : Code} {args : List Value} {R : Ending → World → Prop} {nt : Nat} (hf : P.funcs[f]? = some fn) (hb : fn.body = some c) (hn : fn.ntmps = nt) (hl : Nat.ble args.length nt = true)
    (h : ∀ a, Ag nt (args.zipIdx.map fun p => (p.2, p.1)) a → c.wp P (bodyPost P fn R) a w) : Calls P f args.toArray w R := by
  subst hn
  refine calls_of_wp hf hb (h _ ?_)
  have hl' : args.length ≤ fn.ntmps := Nat.le_of_ble_eq_true hl
  refine ⟨by simp; omega, rfl, fun t v hv => ?_⟩
  have key : ∀ (xs : List Value) (i : Nat), look ((xs.zipIdx i).map fun p => (p.2, p.1)) t = some v → i ≤ t ∧ xs[t - i]? = some v := by
    intro xs
    induction xs with
    | nil => intro i h; simp [look] at h
    | cons x r ih =>
      intro i h
      simp only [List.zipIdx_cons, List.map_cons, look] at h
      cases e : Nat.beq i t with
      | true =>
        rw [e, cond_true] at h
        have : i = t := Nat.eq_of_beq_eq_true e
        subst this
        exact ⟨Nat.le_refl _, by simpa using h⟩
      | false =>
        rw [e, cond_false] at h
        obtain ⟨h1, h2⟩ := ih (i + 1) h
        have e2 : t - i = (t - (i + 1)) + 1 := by omega
        exact ⟨by omega, by rw [e2]; simpa using h2⟩
  obtain ⟨_, h2⟩ := key args 0 hv
  simp only [Nat.sub_zero] at h2
  have hlt := (List.getElem?_eq_some_iff.1 h2).1
  simp [Array.getD_eq_getD_getElem?, Array.getElem?_append, hlt]
  simp [List.getElem?_eq_getElem hlt] at h2
  exact h2
theorem rt_ {fn : Func} {R : Ending → World → Prop} {v : Value} (A : Ag n l a) (hr : ∀ a, Ag n l a → (results fn a.tmps).run P w = .ok v w) (h : R (.returned v) w) : bodyPost P fn R .ret a w := ⟨A.defers, v, hr a A, h⟩
theorem rn_ {fn : Func} {R : Ending → World → Prop} {v : Value} (A : Ag n l a) (hr : ∀ a, Ag n l a → (results fn a.tmps).run P w = .ok v w) (h : R (.returned v) w) : bodyPost P fn R .normal a w := ⟨A.defers, v, hr a A, h⟩
theorem res0 {fn : Func} (h : fn.results = #[]) (a : Act) (_ : Ag n l a) : (results fn a.tmps).run P w = .ok (.tuple #[]) w := results_none h _ _ _
theorem res1 {fn : Func} {t : Nat} {v : Value} (h : fn.results = #[.tmp t]) (hv : look l t = some v) (a : Act) (A : Ag n l a) : (results fn a.tmps).run P w = .ok v w := by rw [results_tmp h, A.get t v hv]
theorem res2 {fn : Func} {t u : Nat} {v v' : Value} (h : fn.results = #[.tmp t, .tmp u]) (hv : look l t = some v) (hv' : look l u = some v') (a : Act) (A : Ag n l a) : (results fn a.tmps).run P w = .ok (.tuple #[v, v']) w := by rw [results_tmp2 h, A.get t v hv, A.get u v' hv']

/-! ### append -/
def byOf (P : Program) (t : TypeId) : Option Nat := (P.info? t).map (·.bytes)
/-- what is appended reads as 'new' -/
def srcAt (w : World) : Value → Nat → Nat → List Value → Prop
  | .slice p m _, sz, k, new => k = m ∧ new.length = m * sz ∧ (p = none → m = 0) ∧ ∀ b, p = some b → CellsAt w b 0 new
  | .string s, _, k, new => k = s.size ∧ new = s.data.toList.map fun x => .int .u8 x.toNat
  | _, _, _, _ => False
/-- an append of m elements, 'new' their cells -/
def app (w : World) (e sz bts : Nat) (z : Array Value) (p : Option Addr) (m c : Nat) (src : Value) (K : Sl → World → Prop) : Prop :=
  ∃ k new, srcAt w src sz k new ∧ (∀ v ∈ new, v.oneCell' = true) ∧
  (m + k ≤ c → (p = none → K ⟨none, m + k, c⟩ w) ∧ ∀ b, p = some b → st w (b.add (m * sz)) new (fun w' => K ⟨some b, m + k, c⟩ w')) ∧
  (c < m + k → (m + k) * bts ≤ 140737488355328 ∧ m + k < 9223372036854775808 ∧ ∃ old : List Value, old.length = m * sz ∧ (p = none → m = 0) ∧ (∀ b, p = some b → CellsAt w b 0 old) ∧
    ∀ cap, m + k ≤ cap → cap < 9223372036854775808 → K ⟨some ⟨w.heap.size, 0, none⟩, m + k, cap⟩ (w.drew.alloc (.cells ((old ++ new).toArray ++ Builtin.zeroCells z (cap - (m + k))) e)))
theorem CellsAt.drew {b : Addr} {cs : List Value} : ∀ {i : Nat}, CellsAt w b i cs → CellsAt w.drew b i cs := by
  induction cs with
  | nil => intro i h; trivial
  | cons c r ih => intro i h; exact ⟨h.1, ih h.2⟩
theorem run_loadC {b : Addr} {cs : List Value} {m : Nat} (hl : cs.length = m) (hc : CellsAt w b 0 cs) : (loadCells b m).run P w = .ok cs.toArray w := by
  subst hl
  exact run_loadCells_list w b cs fun j v hj => by simpa using hc.get j v hj
theorem run_lenOf {src : Value} {sz k : Nat} {new : List Value} (h : srcAt w src sz k new) : (Builtin.lenOf src).run P w = .ok k w := by
  cases src <;> simp only [srcAt] at h
  · obtain ⟨rfl, _⟩ := h; rfl
  · obtain ⟨rfl, _⟩ := h; rfl
theorem run_first {src : Value} {sz k : Nat} {new : List Value} (h : srcAt w src sz k new) : (Builtin.firstCells sz k src).run P w = .ok new.toArray w := by
  cases src <;> simp only [srcAt] at h
  · obtain ⟨rfl, rfl⟩ := h
    simp [Builtin.firstCells]
    apply Array.ext'
    simp
  · rename_i p m c
    obtain ⟨rfl, hl, hn, hc⟩ := h
    cases p with
    | none =>
      have hm := hn rfl
      subst hm
      simp at hl
      subst hl
      simp [Builtin.firstCells]
    | some b => simp [Builtin.firstCells, run_loadC hl (hc b rfl)]
theorem srcAt.drew {src : Value} {sz k : Nat} {new : List Value} (h : srcAt w src sz k new) : srcAt w.drew src sz k new := by
  cases src <;> simp only [srcAt] at h ⊢
  · exact h
  · exact ⟨h.1, h.2.1, h.2.2.1, fun b hb => (h.2.2.2 b hb).drew⟩
theorem run_stC {b : Addr} {vs : List Value} {K : World → Prop} (h1 : ∀ v ∈ vs, v.oneCell' = true) (h : st w b vs K) : ∃ w', (storeCells b vs).run P w = .ok () w' ∧ K w' := by
  obtain ⟨cur, T', hb, hsp, hle, hK⟩ := h
  obtain ⟨bb, o, sp⟩ := b
  simp only at hsp hb hle
  subst hsp
  refine ⟨_, ?_, hK⟩
  have := run_storeCells_at P bb o T' vs 0 cur w hb (by simpa using hle) h1
  rw [this, setRow_put hb]
  simp [splice]
theorem run_append {T T2 e e2 sz bts : Nat} {z : Value} {p : Option Addr} {m c : Nat} {src : Value} {K : Sl → World → Prop} (hT : P.underlying T = some (.slice e)) (hT2 : P.underlying T2 = some (.slice e2) ∨ P.underlying T2 = some .string)
    (hs : szOf P e = some sz) (hb : byOf P e = some bts) (hz : zerOf P e = some z) (hzs : z.cells.size = sz) (hh : app w e sz bts z.cells p m c src K) :
    ∃ (s' : Sl) (w' : World), (Builtin.append_ #[T, T2] ty #[.slice p m c, src]).run P w = .ok s'.v w' ∧ K s' w' := by
  obtain ⟨k, new, hsrc, h1, hfit, hgrow⟩ := hh
  obtain ⟨i, hi⟩ : ∃ i, P.info? e = some i := by
    unfold szOf at hs
    cases hq : P.info? e with
    | none => simp [hq] at hs
    | some i => exact ⟨i, rfl⟩
  have hib : i.bytes = bts := by simpa [byOf, hi] using hb
  have hlen := run_lenOf (P := P) hsrc
  by_cases hle : m + k ≤ c
  · obtain ⟨h0, h2⟩ := hfit hle
    have hfs := run_first (P := P) hsrc
    cases p with
    | none =>
      refine ⟨⟨none, m + k, c⟩, w, ?_, h0 rfl⟩
      rcases hT2 with hT2 | hT2 <;> simp [Builtin.append_, run_underlying hT, run_underlying hT2, run_szOf hs, hlen, hfs, hle, Sl.v]
    | some b =>
      obtain ⟨w', hr, hK⟩ := run_stC (P := P) h1 (h2 b rfl)
      refine ⟨⟨some b, m + k, c⟩, w', ?_, hK⟩
      rcases hT2 with hT2 | hT2 <;> simp [Builtin.append_, run_underlying hT, run_underlying hT2, run_szOf hs, hlen, hfs, hle, hr, Sl.v]
  · obtain ⟨hbytes, h63, old, hol, hpn, hoc, hK⟩ := hgrow (by omega)
    have h48 : ¬ (281474976710656 < Builtin.nextslicecap (m + k) c * bts) := by
      have := growslice_fits (need := m + k) (old := c) (bytes := bts) (by omega) hbytes
      omega
    have hlt := Nat.mod_lt (w.tape w.drawn (.appendCap (m + k) c e)) (show 0 < 2 ^ 63 - (m + k) by omega)
    have hfs := run_first (P := P) hsrc.drew
    have hfo : (Builtin.firstCells sz m (.slice p m c)).run P w.drew = .ok old.toArray w.drew :=
      run_first (w := w.drew) (src := .slice p m c) ⟨rfl, hol, hpn, fun b hb => (hoc b hb).drew⟩
    refine ⟨⟨some ⟨w.heap.size, 0, none⟩, m + k, m + k + w.tape w.drawn (.appendCap (m + k) c e) % (2 ^ 63 - (m + k))⟩, _, ?_, hK (m + k + w.tape w.drawn (.appendCap (m + k) c e) % (2 ^ 63 - (m + k))) (by omega) (by omega)⟩
    have h63' : ¬ ((m + k : Nat) : Int) > 9223372036854775807 := by omega
    rcases hT2 with hT2 | hT2 <;> simp [Builtin.append_, run_underlying hT, run_underlying hT2, run_szOf hs, hlen, hle, typeInfo, hi, hib, h48, Question.forced, Question.cut, hfo, hfs, run_zerOf hz, newRow, Sl.v] <;> (rw [if_neg (by omega), ← List.append_toArray, Array.append_assoc])
theorem app_ {x y : Operand} {T T2 e e2 sz bts : Nat} {z : Value} {p : Option Addr} {m c : Nat} {src : Value} {K : Sl → World → Prop} (A : Ag n l a) (hd : Nat.blt d n = true) (hx : opd l x = some (.slice p m c)) (hy : opd l y = some src)
    (hT : P.underlying T = some (.slice e)) (hT2 : P.underlying T2 = some (.slice e2) ∨ P.underlying T2 = some .string)
    (hs : szOf P e = some sz) (hb : byOf P e = some bts) (hz : zerOf P e = some z) (hzs : z.cells.size = sz) (hh : app w e sz bts z.cells p m c src K)
    (k : ∀ s' w' a', Ag n ((d, Sl.v s') :: l) a' → K s' w' → wpList P ops Q rest a' w') :
    wpList P ops Q (⟨some d, .call { callee := .builtin .append, args := #[x, y], argTypes := #[T, T2] }, ty, pos, af, none⟩ :: rest) a w := by
  obtain ⟨s', w', hr, hK⟩ := run_append (ty := ty) hT hT2 hs hb hz hzs hh
  exact op_val A hd (by simp [execOp, A.opd hx, A.opd hy, resolve, invoke, builtin, hr]) fun a' A' => k s' w' a' A' hK

/-! ### literals -/
theorem bd_ {T : Nat} {ps : List (Nat × Operand)} {is : List Nat} {vs : List Value} {v : Value} (A : Ag n l a) (hd : Nat.blt d n = true) (hx : opds l (ps.map (·.2)) = some vs) (hi : ps.map (·.1) = is) (hb : ∀ w, (Instr.build T (is.zip vs).toArray).run P w = .ok v w)
    (k : ∀ a', Ag n ((d, v) :: l) a' → wpList P ops Q rest a' w) : wpList P ops Q (⟨some d, .build T ps.toArray, ty, pos, af, none⟩ :: rest) a w := by
  subst hi
  refine op_val A hd ?_ k
  have h := A.opds hx
  have : (ps.toArray.map fun x => (x.1, a.eval x.2)) = ((ps.map (·.1)).zip vs).toArray := by
    rw [← h]
    simp [List.zip_map, List.zip_eq_zipWith, List.zipWith_self] 
  simp only [execOp]
  rw [show (ps.toArray.map fun x => match x with | (i, x) => (i, a.eval x)) = ((ps.map (·.1)).zip vs).toArray from this]
  simp [hb]
theorem bs_ {T e len : Nat} {ps : List (Nat × Operand)} {is : List Nat} {vs : List Value} {cs : Array Value} {K : Nat → World → Prop} (A : Ag n l a) (hd : Nat.blt d n = true) (hx : opds l (ps.map (·.2)) = some vs) (hi : ps.map (·.1) = is)
    (hb : ∀ w, (Instr.buildSlice T len (is.zip vs).toArray).run P w = .ok (.slice (some ⟨w.heap.size, 0, none⟩) len len) (w.alloc (.cells cs e))) (hh : al w e cs K)
    (k : ∀ b w' a', Ag n ((d, .slice (some ⟨b, 0, none⟩) len len) :: l) a' → K b w' → wpList P ops Q rest a' w') : wpList P ops Q (⟨some d, .buildSlice T len ps.toArray, ty, pos, af, none⟩ :: rest) a w := by
  subst hi
  refine op_val A hd ?_ fun a' A' => k _ _ a' A' hh
  have h := A.opds hx
  have : (ps.toArray.map fun x => (x.1, a.eval x.2)) = ((ps.map (·.1)).zip vs).toArray := by
    rw [← h]
    simp [List.zip_map, List.zip_eq_zipWith, List.zipWith_self]
  simp only [execOp]
  rw [show (ps.toArray.map fun x => match x with | (i, x) => (i, a.eval x)) = ((ps.map (·.1)).zip vs).toArray from this]
  simp [hb]

/-! ### calls, typed; loops and joins of several variables; leaves -/
def cl0 (P : Program) (f : FuncId) (args : List Value) (w : World) (K : World → Prop) : Prop := Calls P f args.toArray w fun e w' => e = .returned (.tuple #[]) ∧ K w'
def cl1 {α : Type} (P : Program) (f : FuncId) (args : List Value) (w : World) (m0 : α → Value) (K : α → World → Prop) : Prop := Calls P f args.toArray w fun e w' => ∃ x0, e = .returned (m0 x0) ∧ K x0 w'
def cl2 {α β : Type} (P : Program) (f : FuncId) (args : List Value) (w : World) (m0 : α → Value) (m1 : β → Value) (K : α → β → World → Prop) : Prop := Calls P f args.toArray w fun e w' => ∃ x0 x1, e = .returned (.tuple #[m0 x0, m1 x1]) ∧ K x0 x1 w'
def cl3 {α β γ : Type} (P : Program) (f : FuncId) (args : List Value) (w : World) (m0 : α → Value) (m1 : β → Value) (m2 : γ → Value) (K : α → β → γ → World → Prop) : Prop := Calls P f args.toArray w fun e w' => ∃ x0 x1 x2, e = .returned (.tuple #[m0 x0, m1 x1, m2 x2]) ∧ K x0 x1 x2 w'
def cl4 {α β γ δ : Type} (P : Program) (f : FuncId) (args : List Value) (w : World) (m0 : α → Value) (m1 : β → Value) (m2 : γ → Value) (m3 : δ → Value) (K : α → β → γ → δ → World → Prop) : Prop := Calls P f args.toArray w fun e w' => ∃ x0 x1 x2 x3, e = .returned (.tuple #[m0 x0, m1 x1, m2 x2, m3 x3]) ∧ K x0 x1 x2 x3 w'
theorem c0_ {f : FuncId} {xs : List Operand} {ts : Array TypeId} {vs : List Value} {K : World → Prop} (A : Ag n l a) (hf : bodied P f = true) (hx : opds l xs = some vs) (hh : cl0 P f vs w K)
    (k : ∀ w' a', Ag n l a' → K w' → wpList P ops Q rest a' w') :
    wpList P ops Q (⟨none, .call { callee := .value (.func f), args := xs.toArray, argTypes := ts }, ty, pos, af, none⟩ :: rest) a w :=
  cl0_ (K := fun v w' => v = .tuple #[] ∧ K w') A hf hx (Calls.mono hh fun e w' h => ⟨_, h.1, rfl, h.2⟩) fun v w' a' A' h => k w' a' A' h.2
theorem c0d_ {f : FuncId} {xs : List Operand} {ts : Array TypeId} {vs : List Value} {K : World → Prop} (A : Ag n l a) (hd : Nat.blt d n = true) (hf : bodied P f = true) (hx : opds l xs = some vs) (hh : cl0 P f vs w K)
    (k : ∀ w' a', Ag n ((d, .tuple #[]) :: l) a' → K w' → wpList P ops Q rest a' w') :
    wpList P ops Q (⟨some d, .call { callee := .value (.func f), args := xs.toArray, argTypes := ts }, ty, pos, af, none⟩ :: rest) a w :=
  cl_ (K := fun v w' => v = .tuple #[] ∧ K w') A hd hf hx (Calls.mono hh fun e w' h => ⟨_, h.1, rfl, h.2⟩) fun v w' a' A' h => by
    obtain ⟨rfl, h⟩ := h
    exact k w' a' A' h
theorem c1_ {α : Type} {m0 : α → Value} {f : FuncId} {xs : List Operand} {ts : Array TypeId} {vs : List Value} {K : α → World → Prop} (A : Ag n l a) (hd : Nat.blt d n = true) (hf : bodied P f = true) (hx : opds l xs = some vs) (hh : cl1 P f vs w m0 K)
    (k : ∀ x0 w' a', Ag n ((d, m0 x0) :: l) a' → K x0 w' → wpList P ops Q rest a' w') :
    wpList P ops Q (⟨some d, .call { callee := .value (.func f), args := xs.toArray, argTypes := ts }, ty, pos, af, none⟩ :: rest) a w :=
  cl_ (K := fun v w' => ∃ x0, v = m0 x0 ∧ K x0 w') A hd hf hx (Calls.mono hh fun e w' h => by
    obtain ⟨x0, h1, h2⟩ := h
    exact ⟨_, h1, x0, rfl, h2⟩) fun v w' a' A' h => by
    obtain ⟨x0, rfl, h⟩ := h
    exact k x0 w' a' A' h
theorem c1n_ {α : Type} {m0 : α → Value} {f : FuncId} {xs : List Operand} {ts : Array TypeId} {vs : List Value} {K : α → World → Prop} (A : Ag n l a) (hf : bodied P f = true) (hx : opds l xs = some vs) (hh : cl1 P f vs w m0 K)
    (k : ∀ x0 w' a', Ag n l a' → K x0 w' → wpList P ops Q rest a' w') :
    wpList P ops Q (⟨none, .call { callee := .value (.func f), args := xs.toArray, argTypes := ts }, ty, pos, af, none⟩ :: rest) a w :=
  cl0_ (K := fun v w' => ∃ x0, v = m0 x0 ∧ K x0 w') A hf hx (Calls.mono hh fun e w' h => by
    obtain ⟨x0, h1, h2⟩ := h
    exact ⟨_, h1, x0, rfl, h2⟩) fun v w' a' A' h => by
    obtain ⟨x0, rfl, h⟩ := h
    exact k x0 w' a' A' h
theorem c2_ {α β : Type} {m0 : α → Value} {m1 : β → Value} {f : FuncId} {xs : List Operand} {ts : Array TypeId} {vs : List Value} {K : α → β → World → Prop} (A : Ag n l a) (hd : Nat.blt d n = true) (hf : bodied P f = true) (hx : opds l xs = some vs) (hh : cl2 P f vs w m0 m1 K)
    (k : ∀ x0 x1 w' a', Ag n ((d, .tuple #[m0 x0, m1 x1]) :: l) a' → K x0 x1 w' → wpList P ops Q rest a' w') :
    wpList P ops Q (⟨some d, .call { callee := .value (.func f), args := xs.toArray, argTypes := ts }, ty, pos, af, none⟩ :: rest) a w :=
  cl_ (K := fun v w' => ∃ x0 x1, v = .tuple #[m0 x0, m1 x1] ∧ K x0 x1 w') A hd hf hx (Calls.mono hh fun e w' h => by
    obtain ⟨x0, x1, h1, h2⟩ := h
    exact ⟨_, h1, x0, x1, rfl, h2⟩) fun v w' a' A' h => by
    obtain ⟨x0, x1, rfl, h⟩ := h
    exact k x0 x1 w' a' A' h
theorem c2n_ {α β : Type} {m0 : α → Value} {m1 : β → Value} {f : FuncId} {xs : List Operand} {ts : Array TypeId} {vs : List Value} {K : α → β → World → Prop} (A : Ag n l a) (hf : bodied P f = true) (hx : opds l xs = some vs) (hh : cl2 P f vs w m0 m1 K)
    (k : ∀ x0 x1 w' a', Ag n l a' → K x0 x1 w' → wpList P ops Q rest a' w') :
    wpList P ops Q (⟨none, .call { callee := .value (.func f), args := xs.toArray, argTypes := ts }, ty, pos, af, none⟩ :: rest) a w :=
  cl0_ (K := fun v w' => ∃ x0 x1, v = .tuple #[m0 x0, m1 x1] ∧ K x0 x1 w') A hf hx (Calls.mono hh fun e w' h => by
    obtain ⟨x0, x1, h1, h2⟩ := h
    exact ⟨_, h1, x0, x1, rfl, h2⟩) fun v w' a' A' h => by
    obtain ⟨x0, x1, rfl, h⟩ := h
    exact k x0 x1 w' a' A' h
theorem c3_ {α β γ : Type} {m0 : α → Value} {m1 : β → Value} {m2 : γ → Value} {f : FuncId} {xs : List Operand} {ts : Array TypeId} {vs : List Value} {K : α → β → γ → World → Prop} (A : Ag n l a) (hd : Nat.blt d n = true) (hf : bodied P f = true) (hx : opds l xs = some vs) (hh : cl3 P f vs w m0 m1 m2 K)
    (k : ∀ x0 x1 x2 w' a', Ag n ((d, .tuple #[m0 x0, m1 x1, m2 x2]) :: l) a' → K x0 x1 x2 w' → wpList P ops Q rest a' w') :
    wpList P ops Q (⟨some d, .call { callee := .value (.func f), args := xs.toArray, argTypes := ts }, ty, pos, af, none⟩ :: rest) a w :=
  cl_ (K := fun v w' => ∃ x0 x1 x2, v = .tuple #[m0 x0, m1 x1, m2 x2] ∧ K x0 x1 x2 w') A hd hf hx (Calls.mono hh fun e w' h => by
    obtain ⟨x0, x1, x2, h1, h2⟩ := h
    exact ⟨_, h1, x0, x1, x2, rfl, h2⟩) fun v w' a' A' h => by
    obtain ⟨x0, x1, x2, rfl, h⟩ := h
    exact k x0 x1 x2 w' a' A' h
theorem c3n_ {α β γ : Type} {m0 : α → Value} {m1 : β → Value} {m2 : γ → Value} {f : FuncId} {xs : List Operand} {ts : Array TypeId} {vs : List Value} {K : α → β → γ → World → Prop} (A : Ag n l a) (hf : bodied P f = true) (hx : opds l xs = some vs) (hh : cl3 P f vs w m0 m1 m2 K)
    (k : ∀ x0 x1 x2 w' a', Ag n l a' → K x0 x1 x2 w' → wpList P ops Q rest a' w') :
    wpList P ops Q (⟨none, .call { callee := .value (.func f), args := xs.toArray, argTypes := ts }, ty, pos, af, none⟩ :: rest) a w :=
  cl0_ (K := fun v w' => ∃ x0 x1 x2, v = .tuple #[m0 x0, m1 x1, m2 x2] ∧ K x0 x1 x2 w') A hf hx (Calls.mono hh fun e w' h => by
    obtain ⟨x0, x1, x2, h1, h2⟩ := h
    exact ⟨_, h1, x0, x1, x2, rfl, h2⟩) fun v w' a' A' h => by
    obtain ⟨x0, x1, x2, rfl, h⟩ := h
    exact k x0 x1 x2 w' a' A' h
theorem c4_ {α β γ δ : Type} {m0 : α → Value} {m1 : β → Value} {m2 : γ → Value} {m3 : δ → Value} {f : FuncId} {xs : List Operand} {ts : Array TypeId} {vs : List Value} {K : α → β → γ → δ → World → Prop} (A : Ag n l a) (hd : Nat.blt d n = true) (hf : bodied P f = true) (hx : opds l xs = some vs) (hh : cl4 P f vs w m0 m1 m2 m3 K)
    (k : ∀ x0 x1 x2 x3 w' a', Ag n ((d, .tuple #[m0 x0, m1 x1, m2 x2, m3 x3]) :: l) a' → K x0 x1 x2 x3 w' → wpList P ops Q rest a' w') :
    wpList P ops Q (⟨some d, .call { callee := .value (.func f), args := xs.toArray, argTypes := ts }, ty, pos, af, none⟩ :: rest) a w :=
  cl_ (K := fun v w' => ∃ x0 x1 x2 x3, v = .tuple #[m0 x0, m1 x1, m2 x2, m3 x3] ∧ K x0 x1 x2 x3 w') A hd hf hx (Calls.mono hh fun e w' h => by
    obtain ⟨x0, x1, x2, x3, h1, h2⟩ := h
    exact ⟨_, h1, x0, x1, x2, x3, rfl, h2⟩) fun v w' a' A' h => by
    obtain ⟨x0, x1, x2, x3, rfl, h⟩ := h
    exact k x0 x1 x2 x3 w' a' A' h
theorem c4n_ {α β γ δ : Type} {m0 : α → Value} {m1 : β → Value} {m2 : γ → Value} {m3 : δ → Value} {f : FuncId} {xs : List Operand} {ts : Array TypeId} {vs : List Value} {K : α → β → γ → δ → World → Prop} (A : Ag n l a) (hf : bodied P f = true) (hx : opds l xs = some vs) (hh : cl4 P f vs w m0 m1 m2 m3 K)
    (k : ∀ x0 x1 x2 x3 w' a', Ag n l a' → K x0 x1 x2 x3 w' → wpList P ops Q rest a' w') :
    wpList P ops Q (⟨none, .call { callee := .value (.func f), args := xs.toArray, argTypes := ts }, ty, pos, af, none⟩ :: rest) a w :=
  cl0_ (K := fun v w' => ∃ x0 x1 x2 x3, v = .tuple #[m0 x0, m1 x1, m2 x2, m3 x3] ∧ K x0 x1 x2 x3 w') A hf hx (Calls.mono hh fun e w' h => by
    obtain ⟨x0, x1, x2, x3, h1, h2⟩ := h
    exact ⟨_, h1, x0, x1, x2, x3, rfl, h2⟩) fun v w' a' A' h => by
    obtain ⟨x0, x1, x2, x3, rfl, h⟩ := h
    exact k x0 x1 x2 x3 w' a' A' h
def Jn0 (rest : World → Prop) (body : (World → Prop) → Prop) : Prop := ∃ J : World → Prop, (∀ w, J w → rest w) ∧ body J
theorem jn0_ {x y : Code} {rest : World → Prop} {body : (World → Prop) → Prop} (E : Env) (h : Jn0 rest body) (hy : ∀ w a, rest w → Ag n E a → y.wp P Q a w)
    (hx : ∀ J : World → Prop, body J → x.wp P (Exit.then (fun a w => J w ∧ Ag n E a) Q) a w) : (Code.seq x y).wp P Q a w := by
  obtain ⟨J, hJ, hb⟩ := h
  refine wp_seq (Code.wp_mono (fun e a w q => ?_) (hx J hb))
  cases e <;> first | exact q | (obtain ⟨hj, hA⟩ := q; exact hy _ _ (hJ _ hj) hA)
theorem Jn0.self {rest : World → Prop} {body : (World → Prop) → Prop} (h : body rest) : Jn0 rest body := ⟨rest, fun _ h => h, h⟩
def Lp0 (body : World → (World → Prop) → Prop)  (w : World) : Prop :=
  ∃ (I : World → Prop) (μ : World → Nat), I  w ∧ ∀ w, I w → body w fun  w' => I  w' ∧ μ  w' < μ w
theorem lp0_ {c : Code} (E : Env) {body : World → (World → Prop) → Prop}  (A : Ag n E a) (h : Lp0 body  w)
    (round : ∀ (N : World → Prop) w a, body w N → Ag n E a → c.wp P (Exit.then (fun a' w' => N w' ∧ Ag n E a') Q) a w) : (Code.loop c).wp P Q a w := by
  obtain ⟨I, μ, h0, hs⟩ := h
  refine lp_ (σ := Unit) (E := fun s => E) (body := fun s w N => body  w fun w => N () w) (s := ()) A
    ⟨fun s w => I  w, fun s w => μ  w, h0, fun s w hI => hs  w hI⟩ fun N s w a hb hA => ?_
  refine Code.wp_mono (fun e a w q => ?_) (round (fun w => N () w)  w a hb hA)
  cases e <;> first | exact q | (obtain ⟨h1, h2⟩ := q; exact ⟨(), h2, h1⟩)
def Jn1 {α : Type} (rest : α → World → Prop) (body : (α → World → Prop) → Prop) : Prop := ∃ J : α → World → Prop, (∀ x0 w, J x0 w → rest x0 w) ∧ body J
theorem jn1_ {α : Type} {x y : Code} {rest : α → World → Prop} {body : (α → World → Prop) → Prop} (E : α → Env) (h : Jn1 rest body) (hy : ∀ x0 w a, rest x0 w → Ag n (E x0) a → y.wp P Q a w)
    (hx : ∀ J : α → World → Prop, body J → x.wp P (Exit.then (fun a w => ∃ x0, J x0 w ∧ Ag n (E x0) a) Q) a w) : (Code.seq x y).wp P Q a w := by
  obtain ⟨J, hJ, hb⟩ := h
  refine wp_seq (Code.wp_mono (fun e a w q => ?_) (hx J hb))
  cases e <;> first | exact q | (obtain ⟨x0, hj, hA⟩ := q; exact hy x0 _ _ (hJ x0 _ hj) hA)
theorem Jn1.self {α : Type} {rest : α → World → Prop} {body : (α → World → Prop) → Prop} (h : body rest) : Jn1 rest body := ⟨rest, fun x0 _ h => h, h⟩
def Lp1 {α : Type} (body : α → World → (α → World → Prop) → Prop) (s0 : α) (w : World) : Prop :=
  ∃ (I : α → World → Prop) (μ : α → World → Nat), I s0 w ∧ ∀ x0 w, I x0 w → body x0 w fun y0 w' => I y0 w' ∧ μ y0 w' < μ x0 w
theorem lp1_ {α : Type} {c : Code} (E : α → Env) {body : α → World → (α → World → Prop) → Prop} {s0 : α} (h : Lp1 body s0 w) (A : Ag n (E s0) a)
    (round : ∀ (N : α → World → Prop) x0 w a, body x0 w N → Ag n (E x0) a → c.wp P (Exit.then (fun a' w' => ∃ x0, N x0 w' ∧ Ag n (E x0) a') Q) a w) : (Code.loop c).wp P Q a w := by
  obtain ⟨I, μ, h0, hs⟩ := h
  refine lp_ (σ := α) (E := fun s => E s) (body := fun s w N => body s w fun x0 w => N (x0) w) (s := (s0)) A
    ⟨fun s w => I s w, fun s w => μ s w, h0, fun s w hI => hs s w hI⟩ fun N s w a hb hA => ?_
  refine Code.wp_mono (fun e a w q => ?_) (round (fun x0 w => N (x0) w) s w a hb hA)
  cases e <;> first | exact q | (obtain ⟨x0, h1, h2⟩ := q; exact ⟨(x0), h2, h1⟩)
def Jn2 {α β : Type} (rest : α → β → World → Prop) (body : (α → β → World → Prop) → Prop) : Prop := ∃ J : α → β → World → Prop, (∀ x0 x1 w, J x0 x1 w → rest x0 x1 w) ∧ body J
theorem jn2_ {α β : Type} {x y : Code} {rest : α → β → World → Prop} {body : (α → β → World → Prop) → Prop} (E : α → β → Env) (h : Jn2 rest body) (hy : ∀ x0 x1 w a, rest x0 x1 w → Ag n (E x0 x1) a → y.wp P Q a w)
    (hx : ∀ J : α → β → World → Prop, body J → x.wp P (Exit.then (fun a w => ∃ x0 x1, J x0 x1 w ∧ Ag n (E x0 x1) a) Q) a w) : (Code.seq x y).wp P Q a w := by
  obtain ⟨J, hJ, hb⟩ := h
  refine wp_seq (Code.wp_mono (fun e a w q => ?_) (hx J hb))
  cases e <;> first | exact q | (obtain ⟨x0, x1, hj, hA⟩ := q; exact hy x0 x1 _ _ (hJ x0 x1 _ hj) hA)
theorem Jn2.self {α β : Type} {rest : α → β → World → Prop} {body : (α → β → World → Prop) → Prop} (h : body rest) : Jn2 rest body := ⟨rest, fun x0 x1 _ h => h, h⟩
def Lp2 {α β : Type} (body : α → β → World → (α → β → World → Prop) → Prop) (s0 : α) (s1 : β) (w : World) : Prop :=
  ∃ (I : α → β → World → Prop) (μ : α → β → World → Nat), I s0 s1 w ∧ ∀ x0 x1 w, I x0 x1 w → body x0 x1 w fun y0 y1 w' => I y0 y1 w' ∧ μ y0 y1 w' < μ x0 x1 w
theorem lp2_ {α β : Type} {c : Code} (E : α → β → Env) {body : α → β → World → (α → β → World → Prop) → Prop} {s0 : α} {s1 : β} (h : Lp2 body s0 s1 w) (A : Ag n (E s0 s1) a)
    (round : ∀ (N : α → β → World → Prop) x0 x1 w a, body x0 x1 w N → Ag n (E x0 x1) a → c.wp P (Exit.then (fun a' w' => ∃ x0 x1, N x0 x1 w' ∧ Ag n (E x0 x1) a') Q) a w) : (Code.loop c).wp P Q a w := by
  obtain ⟨I, μ, h0, hs⟩ := h
  refine lp_ (σ := α × β) (E := fun s => E s.1 s.2) (body := fun s w N => body s.1 s.2 w fun x0 x1 w => N (x0, x1) w) (s := (s0, s1)) A
    ⟨fun s w => I s.1 s.2 w, fun s w => μ s.1 s.2 w, h0, fun s w hI => hs s.1 s.2 w hI⟩ fun N s w a hb hA => ?_
  refine Code.wp_mono (fun e a w q => ?_) (round (fun x0 x1 w => N (x0, x1) w) s.1 s.2 w a hb hA)
  cases e <;> first | exact q | (obtain ⟨x0, x1, h1, h2⟩ := q; exact ⟨(x0, x1), h2, h1⟩)
def Jn3 {α β γ : Type} (rest : α → β → γ → World → Prop) (body : (α → β → γ → World → Prop) → Prop) : Prop := ∃ J : α → β → γ → World → Prop, (∀ x0 x1 x2 w, J x0 x1 x2 w → rest x0 x1 x2 w) ∧ body J
theorem jn3_ {α β γ : Type} {x y : Code} {rest : α → β → γ → World → Prop} {body : (α → β → γ → World → Prop) → Prop} (E : α → β → γ → Env) (h : Jn3 rest body) (hy : ∀ x0 x1 x2 w a, rest x0 x1 x2 w → Ag n (E x0 x1 x2) a → y.wp P Q a w)
    (hx : ∀ J : α → β → γ → World → Prop, body J → x.wp P (Exit.then (fun a w => ∃ x0 x1 x2, J x0 x1 x2 w ∧ Ag n (E x0 x1 x2) a) Q) a w) : (Code.seq x y).wp P Q a w := by
  obtain ⟨J, hJ, hb⟩ := h
  refine wp_seq (Code.wp_mono (fun e a w q => ?_) (hx J hb))
  cases e <;> first | exact q | (obtain ⟨x0, x1, x2, hj, hA⟩ := q; exact hy x0 x1 x2 _ _ (hJ x0 x1 x2 _ hj) hA)
theorem Jn3.self {α β γ : Type} {rest : α → β → γ → World → Prop} {body : (α → β → γ → World → Prop) → Prop} (h : body rest) : Jn3 rest body := ⟨rest, fun x0 x1 x2 _ h => h, h⟩
def Lp3 {α β γ : Type} (body : α → β → γ → World → (α → β → γ → World → Prop) → Prop) (s0 : α) (s1 : β) (s2 : γ) (w : World) : Prop :=
  ∃ (I : α → β → γ → World → Prop) (μ : α → β → γ → World → Nat), I s0 s1 s2 w ∧ ∀ x0 x1 x2 w, I x0 x1 x2 w → body x0 x1 x2 w fun y0 y1 y2 w' => I y0 y1 y2 w' ∧ μ y0 y1 y2 w' < μ x0 x1 x2 w
theorem lp3_ {α β γ : Type} {c : Code} (E : α → β → γ → Env) {body : α → β → γ → World → (α → β → γ → World → Prop) → Prop} {s0 : α} {s1 : β} {s2 : γ} (h : Lp3 body s0 s1 s2 w) (A : Ag n (E s0 s1 s2) a)
    (round : ∀ (N : α → β → γ → World → Prop) x0 x1 x2 w a, body x0 x1 x2 w N → Ag n (E x0 x1 x2) a → c.wp P (Exit.then (fun a' w' => ∃ x0 x1 x2, N x0 x1 x2 w' ∧ Ag n (E x0 x1 x2) a') Q) a w) : (Code.loop c).wp P Q a w := by
  obtain ⟨I, μ, h0, hs⟩ := h
  refine lp_ (σ := α × β × γ) (E := fun s => E s.1 s.2.1 s.2.2) (body := fun s w N => body s.1 s.2.1 s.2.2 w fun x0 x1 x2 w => N (x0, x1, x2) w) (s := (s0, s1, s2)) A
    ⟨fun s w => I s.1 s.2.1 s.2.2 w, fun s w => μ s.1 s.2.1 s.2.2 w, h0, fun s w hI => hs s.1 s.2.1 s.2.2 w hI⟩ fun N s w a hb hA => ?_
  refine Code.wp_mono (fun e a w q => ?_) (round (fun x0 x1 x2 w => N (x0, x1, x2) w) s.1 s.2.1 s.2.2 w a hb hA)
  cases e <;> first | exact q | (obtain ⟨x0, x1, x2, h1, h2⟩ := q; exact ⟨(x0, x1, x2), h2, h1⟩)
def Jn4 {α β γ δ : Type} (rest : α → β → γ → δ → World → Prop) (body : (α → β → γ → δ → World → Prop) → Prop) : Prop := ∃ J : α → β → γ → δ → World → Prop, (∀ x0 x1 x2 x3 w, J x0 x1 x2 x3 w → rest x0 x1 x2 x3 w) ∧ body J
theorem jn4_ {α β γ δ : Type} {x y : Code} {rest : α → β → γ → δ → World → Prop} {body : (α → β → γ → δ → World → Prop) → Prop} (E : α → β → γ → δ → Env) (h : Jn4 rest body) (hy : ∀ x0 x1 x2 x3 w a, rest x0 x1 x2 x3 w → Ag n (E x0 x1 x2 x3) a → y.wp P Q a w)
    (hx : ∀ J : α → β → γ → δ → World → Prop, body J → x.wp P (Exit.then (fun a w => ∃ x0 x1 x2 x3, J x0 x1 x2 x3 w ∧ Ag n (E x0 x1 x2 x3) a) Q) a w) : (Code.seq x y).wp P Q a w := by
  obtain ⟨J, hJ, hb⟩ := h
  refine wp_seq (Code.wp_mono (fun e a w q => ?_) (hx J hb))
  cases e <;> first | exact q | (obtain ⟨x0, x1, x2, x3, hj, hA⟩ := q; exact hy x0 x1 x2 x3 _ _ (hJ x0 x1 x2 x3 _ hj) hA)
theorem Jn4.self {α β γ δ : Type} {rest : α → β → γ → δ → World → Prop} {body : (α → β → γ → δ → World → Prop) → Prop} (h : body rest) : Jn4 rest body := ⟨rest, fun x0 x1 x2 x3 _ h => h, h⟩
def Lp4 {α β γ δ : Type} (body : α → β → γ → δ → World → (α → β → γ → δ → World → Prop) → Prop) (s0 : α) (s1 : β) (s2 : γ) (s3 : δ) (w : World) : Prop :=
  ∃ (I : α → β → γ → δ → World → Prop) (μ : α → β → γ → δ → World → Nat), I s0 s1 s2 s3 w ∧ ∀ x0 x1 x2 x3 w, I x0 x1 x2 x3 w → body x0 x1 x2 x3 w fun y0 y1 y2 y3 w' => I y0 y1 y2 y3 w' ∧ μ y0 y1 y2 y3 w' < μ x0 x1 x2 x3 w
theorem lp4_ {α β γ δ : Type} {c : Code} (E : α → β → γ → δ → Env) {body : α → β → γ → δ → World → (α → β → γ → δ → World → Prop) → Prop} {s0 : α} {s1 : β} {s2 : γ} {s3 : δ} (h : Lp4 body s0 s1 s2 s3 w) (A : Ag n (E s0 s1 s2 s3) a)
    (round : ∀ (N : α → β → γ → δ → World → Prop) x0 x1 x2 x3 w a, body x0 x1 x2 x3 w N → Ag n (E x0 x1 x2 x3) a → c.wp P (Exit.then (fun a' w' => ∃ x0 x1 x2 x3, N x0 x1 x2 x3 w' ∧ Ag n (E x0 x1 x2 x3) a') Q) a w) : (Code.loop c).wp P Q a w := by
  obtain ⟨I, μ, h0, hs⟩ := h
  refine lp_ (σ := α × β × γ × δ) (E := fun s => E s.1 s.2.1 s.2.2.1 s.2.2.2) (body := fun s w N => body s.1 s.2.1 s.2.2.1 s.2.2.2 w fun x0 x1 x2 x3 w => N (x0, x1, x2, x3) w) (s := (s0, s1, s2, s3)) A
    ⟨fun s w => I s.1 s.2.1 s.2.2.1 s.2.2.2 w, fun s w => μ s.1 s.2.1 s.2.2.1 s.2.2.2 w, h0, fun s w hI => hs s.1 s.2.1 s.2.2.1 s.2.2.2 w hI⟩ fun N s w a hb hA => ?_
  refine Code.wp_mono (fun e a w q => ?_) (round (fun x0 x1 x2 x3 w => N (x0, x1, x2, x3) w) s.1 s.2.1 s.2.2.1 s.2.2.2 w a hb hA)
  cases e <;> first | exact q | (obtain ⟨x0, x1, x2, x3, h1, h2⟩ := q; exact ⟨(x0, x1, x2, x3), h2, h1⟩)
def Jn5 {α β γ δ ε : Type} (rest : α → β → γ → δ → ε → World → Prop) (body : (α → β → γ → δ → ε → World → Prop) → Prop) : Prop := ∃ J : α → β → γ → δ → ε → World → Prop, (∀ x0 x1 x2 x3 x4 w, J x0 x1 x2 x3 x4 w → rest x0 x1 x2 x3 x4 w) ∧ body J
theorem jn5_ {α β γ δ ε : Type} {x y : Code} {rest : α → β → γ → δ → ε → World → Prop} {body : (α → β → γ → δ → ε → World → Prop) → Prop} (E : α → β → γ → δ → ε → Env) (h : Jn5 rest body) (hy : ∀ x0 x1 x2 x3 x4 w a, rest x0 x1 x2 x3 x4 w → Ag n (E x0 x1 x2 x3 x4) a → y.wp P Q a w)
    (hx : ∀ J : α → β → γ → δ → ε → World → Prop, body J → x.wp P (Exit.then (fun a w => ∃ x0 x1 x2 x3 x4, J x0 x1 x2 x3 x4 w ∧ Ag n (E x0 x1 x2 x3 x4) a) Q) a w) : (Code.seq x y).wp P Q a w := by
  obtain ⟨J, hJ, hb⟩ := h
  refine wp_seq (Code.wp_mono (fun e a w q => ?_) (hx J hb))
  cases e <;> first | exact q | (obtain ⟨x0, x1, x2, x3, x4, hj, hA⟩ := q; exact hy x0 x1 x2 x3 x4 _ _ (hJ x0 x1 x2 x3 x4 _ hj) hA)
theorem Jn5.self {α β γ δ ε : Type} {rest : α → β → γ → δ → ε → World → Prop} {body : (α → β → γ → δ → ε → World → Prop) → Prop} (h : body rest) : Jn5 rest body := ⟨rest, fun x0 x1 x2 x3 x4 _ h => h, h⟩
def Lp5 {α β γ δ ε : Type} (body : α → β → γ → δ → ε → World → (α → β → γ → δ → ε → World → Prop) → Prop) (s0 : α) (s1 : β) (s2 : γ) (s3 : δ) (s4 : ε) (w : World) : Prop :=
  ∃ (I : α → β → γ → δ → ε → World → Prop) (μ : α → β → γ → δ → ε → World → Nat), I s0 s1 s2 s3 s4 w ∧ ∀ x0 x1 x2 x3 x4 w, I x0 x1 x2 x3 x4 w → body x0 x1 x2 x3 x4 w fun y0 y1 y2 y3 y4 w' => I y0 y1 y2 y3 y4 w' ∧ μ y0 y1 y2 y3 y4 w' < μ x0 x1 x2 x3 x4 w
theorem lp5_ {α β γ δ ε : Type} {c : Code} (E : α → β → γ → δ → ε → Env) {body : α → β → γ → δ → ε → World → (α → β → γ → δ → ε → World → Prop) → Prop} {s0 : α} {s1 : β} {s2 : γ} {s3 : δ} {s4 : ε} (h : Lp5 body s0 s1 s2 s3 s4 w) (A : Ag n (E s0 s1 s2 s3 s4) a)
    (round : ∀ (N : α → β → γ → δ → ε → World → Prop) x0 x1 x2 x3 x4 w a, body x0 x1 x2 x3 x4 w N → Ag n (E x0 x1 x2 x3 x4) a → c.wp P (Exit.then (fun a' w' => ∃ x0 x1 x2 x3 x4, N x0 x1 x2 x3 x4 w' ∧ Ag n (E x0 x1 x2 x3 x4) a') Q) a w) : (Code.loop c).wp P Q a w := by
  obtain ⟨I, μ, h0, hs⟩ := h
  refine lp_ (σ := α × β × γ × δ × ε) (E := fun s => E s.1 s.2.1 s.2.2.1 s.2.2.2.1 s.2.2.2.2) (body := fun s w N => body s.1 s.2.1 s.2.2.1 s.2.2.2.1 s.2.2.2.2 w fun x0 x1 x2 x3 x4 w => N (x0, x1, x2, x3, x4) w) (s := (s0, s1, s2, s3, s4)) A
    ⟨fun s w => I s.1 s.2.1 s.2.2.1 s.2.2.2.1 s.2.2.2.2 w, fun s w => μ s.1 s.2.1 s.2.2.1 s.2.2.2.1 s.2.2.2.2 w, h0, fun s w hI => hs s.1 s.2.1 s.2.2.1 s.2.2.2.1 s.2.2.2.2 w hI⟩ fun N s w a hb hA => ?_
  refine Code.wp_mono (fun e a w q => ?_) (round (fun x0 x1 x2 x3 x4 w => N (x0, x1, x2, x3, x4) w) s.1 s.2.1 s.2.2.1 s.2.2.2.1 s.2.2.2.2 w a hb hA)
  cases e <;> first | exact q | (obtain ⟨x0, x1, x2, x3, x4, h1, h2⟩ := q; exact ⟨(x0, x1, x2, x3, x4), h2, h1⟩)
def Jn6 {α β γ δ ε ζ : Type} (rest : α → β → γ → δ → ε → ζ → World → Prop) (body : (α → β → γ → δ → ε → ζ → World → Prop) → Prop) : Prop := ∃ J : α → β → γ → δ → ε → ζ → World → Prop, (∀ x0 x1 x2 x3 x4 x5 w, J x0 x1 x2 x3 x4 x5 w → rest x0 x1 x2 x3 x4 x5 w) ∧ body J
theorem jn6_ {α β γ δ ε ζ : Type} {x y : Code} {rest : α → β → γ → δ → ε → ζ → World → Prop} {body : (α → β → γ → δ → ε → ζ → World → Prop) → Prop} (E : α → β → γ → δ → ε → ζ → Env) (h : Jn6 rest body) (hy : ∀ x0 x1 x2 x3 x4 x5 w a, rest x0 x1 x2 x3 x4 x5 w → Ag n (E x0 x1 x2 x3 x4 x5) a → y.wp P Q a w)
    (hx : ∀ J : α → β → γ → δ → ε → ζ → World → Prop, body J → x.wp P (Exit.then (fun a w => ∃ x0 x1 x2 x3 x4 x5, J x0 x1 x2 x3 x4 x5 w ∧ Ag n (E x0 x1 x2 x3 x4 x5) a) Q) a w) : (Code.seq x y).wp P Q a w := by
  obtain ⟨J, hJ, hb⟩ := h
  refine wp_seq (Code.wp_mono (fun e a w q => ?_) (hx J hb))
  cases e <;> first | exact q | (obtain ⟨x0, x1, x2, x3, x4, x5, hj, hA⟩ := q; exact hy x0 x1 x2 x3 x4 x5 _ _ (hJ x0 x1 x2 x3 x4 x5 _ hj) hA)
theorem Jn6.self {α β γ δ ε ζ : Type} {rest : α → β → γ → δ → ε → ζ → World → Prop} {body : (α → β → γ → δ → ε → ζ → World → Prop) → Prop} (h : body rest) : Jn6 rest body := ⟨rest, fun x0 x1 x2 x3 x4 x5 _ h => h, h⟩
def Lp6 {α β γ δ ε ζ : Type} (body : α → β → γ → δ → ε → ζ → World → (α → β → γ → δ → ε → ζ → World → Prop) → Prop) (s0 : α) (s1 : β) (s2 : γ) (s3 : δ) (s4 : ε) (s5 : ζ) (w : World) : Prop :=
  ∃ (I : α → β → γ → δ → ε → ζ → World → Prop) (μ : α → β → γ → δ → ε → ζ → World → Nat), I s0 s1 s2 s3 s4 s5 w ∧ ∀ x0 x1 x2 x3 x4 x5 w, I x0 x1 x2 x3 x4 x5 w → body x0 x1 x2 x3 x4 x5 w fun y0 y1 y2 y3 y4 y5 w' => I y0 y1 y2 y3 y4 y5 w' ∧ μ y0 y1 y2 y3 y4 y5 w' < μ x0 x1 x2 x3 x4 x5 w
theorem lp6_ {α β γ δ ε ζ : Type} {c : Code} (E : α → β → γ → δ → ε → ζ → Env) {body : α → β → γ → δ → ε → ζ → World → (α → β → γ → δ → ε → ζ → World → Prop) → Prop} {s0 : α} {s1 : β} {s2 : γ} {s3 : δ} {s4 : ε} {s5 : ζ} (h : Lp6 body s0 s1 s2 s3 s4 s5 w) (A : Ag n (E s0 s1 s2 s3 s4 s5) a)
    (round : ∀ (N : α → β → γ → δ → ε → ζ → World → Prop) x0 x1 x2 x3 x4 x5 w a, body x0 x1 x2 x3 x4 x5 w N → Ag n (E x0 x1 x2 x3 x4 x5) a → c.wp P (Exit.then (fun a' w' => ∃ x0 x1 x2 x3 x4 x5, N x0 x1 x2 x3 x4 x5 w' ∧ Ag n (E x0 x1 x2 x3 x4 x5) a') Q) a w) : (Code.loop c).wp P Q a w := by
  obtain ⟨I, μ, h0, hs⟩ := h
  refine lp_ (σ := α × β × γ × δ × ε × ζ) (E := fun s => E s.1 s.2.1 s.2.2.1 s.2.2.2.1 s.2.2.2.2.1 s.2.2.2.2.2) (body := fun s w N => body s.1 s.2.1 s.2.2.1 s.2.2.2.1 s.2.2.2.2.1 s.2.2.2.2.2 w fun x0 x1 x2 x3 x4 x5 w => N (x0, x1, x2, x3, x4, x5) w) (s := (s0, s1, s2, s3, s4, s5)) A
    ⟨fun s w => I s.1 s.2.1 s.2.2.1 s.2.2.2.1 s.2.2.2.2.1 s.2.2.2.2.2 w, fun s w => μ s.1 s.2.1 s.2.2.1 s.2.2.2.1 s.2.2.2.2.1 s.2.2.2.2.2 w, h0, fun s w hI => hs s.1 s.2.1 s.2.2.1 s.2.2.2.1 s.2.2.2.2.1 s.2.2.2.2.2 w hI⟩ fun N s w a hb hA => ?_
  refine Code.wp_mono (fun e a w q => ?_) (round (fun x0 x1 x2 x3 x4 x5 w => N (x0, x1, x2, x3, x4, x5) w) s.1 s.2.1 s.2.2.1 s.2.2.2.1 s.2.2.2.2.1 s.2.2.2.2.2 w a hb hA)
  cases e <;> first | exact q | (obtain ⟨x0, x1, x2, x3, x4, x5, h1, h2⟩ := q; exact ⟨(x0, x1, x2, x3, x4, x5), h2, h1⟩)
def Jn7 {α β γ δ ε ζ η : Type} (rest : α → β → γ → δ → ε → ζ → η → World → Prop) (body : (α → β → γ → δ → ε → ζ → η → World → Prop) → Prop) : Prop := ∃ J : α → β → γ → δ → ε → ζ → η → World → Prop, (∀ x0 x1 x2 x3 x4 x5 x6 w, J x0 x1 x2 x3 x4 x5 x6 w → rest x0 x1 x2 x3 x4 x5 x6 w) ∧ body J
theorem jn7_ {α β γ δ ε ζ η : Type} {x y : Code} {rest : α → β → γ → δ → ε → ζ → η → World → Prop} {body : (α → β → γ → δ → ε → ζ → η → World → Prop) → Prop} (E : α → β → γ → δ → ε → ζ → η → Env) (h : Jn7 rest body) (hy : ∀ x0 x1 x2 x3 x4 x5 x6 w a, rest x0 x1 x2 x3 x4 x5 x6 w → Ag n (E x0 x1 x2 x3 x4 x5 x6) a → y.wp P Q a w)
    (hx : ∀ J : α → β → γ → δ → ε → ζ → η → World → Prop, body J → x.wp P (Exit.then (fun a w => ∃ x0 x1 x2 x3 x4 x5 x6, J x0 x1 x2 x3 x4 x5 x6 w ∧ Ag n (E x0 x1 x2 x3 x4 x5 x6) a) Q) a w) : (Code.seq x y).wp P Q a w := by
  obtain ⟨J, hJ, hb⟩ := h
  refine wp_seq (Code.wp_mono (fun e a w q => ?_) (hx J hb))
  cases e <;> first | exact q | (obtain ⟨x0, x1, x2, x3, x4, x5, x6, hj, hA⟩ := q; exact hy x0 x1 x2 x3 x4 x5 x6 _ _ (hJ x0 x1 x2 x3 x4 x5 x6 _ hj) hA)
theorem Jn7.self {α β γ δ ε ζ η : Type} {rest : α → β → γ → δ → ε → ζ → η → World → Prop} {body : (α → β → γ → δ → ε → ζ → η → World → Prop) → Prop} (h : body rest) : Jn7 rest body := ⟨rest, fun x0 x1 x2 x3 x4 x5 x6 _ h => h, h⟩
def Lp7 {α β γ δ ε ζ η : Type} (body : α → β → γ → δ → ε → ζ → η → World → (α → β → γ → δ → ε → ζ → η → World → Prop) → Prop) (s0 : α) (s1 : β) (s2 : γ) (s3 : δ) (s4 : ε) (s5 : ζ) (s6 : η) (w : World) : Prop :=
  ∃ (I : α → β → γ → δ → ε → ζ → η → World → Prop) (μ : α → β → γ → δ → ε → ζ → η → World → Nat), I s0 s1 s2 s3 s4 s5 s6 w ∧ ∀ x0 x1 x2 x3 x4 x5 x6 w, I x0 x1 x2 x3 x4 x5 x6 w → body x0 x1 x2 x3 x4 x5 x6 w fun y0 y1 y2 y3 y4 y5 y6 w' => I y0 y1 y2 y3 y4 y5 y6 w' ∧ μ y0 y1 y2 y3 y4 y5 y6 w' < μ x0 x1 x2 x3 x4 x5 x6 w
theorem lp7_ {α β γ δ ε ζ η : Type} {c : Code} (E : α → β → γ → δ → ε → ζ → η → Env) {body : α → β → γ → δ → ε → ζ → η → World → (α → β → γ → δ → ε → ζ → η → World → Prop) → Prop} {s0 : α} {s1 : β} {s2 : γ} {s3 : δ} {s4 : ε} {s5 : ζ} {s6 : η} (h : Lp7 body s0 s1 s2 s3 s4 s5 s6 w) (A : Ag n (E s0 s1 s2 s3 s4 s5 s6) a)
    (round : ∀ (N : α → β → γ → δ → ε → ζ → η → World → Prop) x0 x1 x2 x3 x4 x5 x6 w a, body x0 x1 x2 x3 x4 x5 x6 w N → Ag n (E x0 x1 x2 x3 x4 x5 x6) a → c.wp P (Exit.then (fun a' w' => ∃ x0 x1 x2 x3 x4 x5 x6, N x0 x1 x2 x3 x4 x5 x6 w' ∧ Ag n (E x0 x1 x2 x3 x4 x5 x6) a') Q) a w) : (Code.loop c).wp P Q a w := by
  obtain ⟨I, μ, h0, hs⟩ := h
  refine lp_ (σ := α × β × γ × δ × ε × ζ × η) (E := fun s => E s.1 s.2.1 s.2.2.1 s.2.2.2.1 s.2.2.2.2.1 s.2.2.2.2.2.1 s.2.2.2.2.2.2) (body := fun s w N => body s.1 s.2.1 s.2.2.1 s.2.2.2.1 s.2.2.2.2.1 s.2.2.2.2.2.1 s.2.2.2.2.2.2 w fun x0 x1 x2 x3 x4 x5 x6 w => N (x0, x1, x2, x3, x4, x5, x6) w) (s := (s0, s1, s2, s3, s4, s5, s6)) A
    ⟨fun s w => I s.1 s.2.1 s.2.2.1 s.2.2.2.1 s.2.2.2.2.1 s.2.2.2.2.2.1 s.2.2.2.2.2.2 w, fun s w => μ s.1 s.2.1 s.2.2.1 s.2.2.2.1 s.2.2.2.2.1 s.2.2.2.2.2.1 s.2.2.2.2.2.2 w, h0, fun s w hI => hs s.1 s.2.1 s.2.2.1 s.2.2.2.1 s.2.2.2.2.1 s.2.2.2.2.2.1 s.2.2.2.2.2.2 w hI⟩ fun N s w a hb hA => ?_
  refine Code.wp_mono (fun e a w q => ?_) (round (fun x0 x1 x2 x3 x4 x5 x6 w => N (x0, x1, x2, x3, x4, x5, x6) w) s.1 s.2.1 s.2.2.1 s.2.2.2.1 s.2.2.2.2.1 s.2.2.2.2.2.1 s.2.2.2.2.2.2 w a hb hA)
  cases e <;> first | exact q | (obtain ⟨x0, x1, x2, x3, x4, x5, x6, h1, h2⟩ := q; exact ⟨(x0, x1, x2, x3, x4, x5, x6), h2, h1⟩)
def Jn8 {α β γ δ ε ζ η θ : Type} (rest : α → β → γ → δ → ε → ζ → η → θ → World → Prop) (body : (α → β → γ → δ → ε → ζ → η → θ → World → Prop) → Prop) : Prop := ∃ J : α → β → γ → δ → ε → ζ → η → θ → World → Prop, (∀ x0 x1 x2 x3 x4 x5 x6 x7 w, J x0 x1 x2 x3 x4 x5 x6 x7 w → rest x0 x1 x2 x3 x4 x5 x6 x7 w) ∧ body J
theorem jn8_ {α β γ δ ε ζ η θ : Type} {x y : Code} {rest : α → β → γ → δ → ε → ζ → η → θ → World → Prop} {body : (α → β → γ → δ → ε → ζ → η → θ → World → Prop) → Prop} (E : α → β → γ → δ → ε → ζ → η → θ → Env) (h : Jn8 rest body) (hy : ∀ x0 x1 x2 x3 x4 x5 x6 x7 w a, rest x0 x1 x2 x3 x4 x5 x6 x7 w → Ag n (E x0 x1 x2 x3 x4 x5 x6 x7) a → y.wp P Q a w)
    (hx : ∀ J : α → β → γ → δ → ε → ζ → η → θ → World → Prop, body J → x.wp P (Exit.then (fun a w => ∃ x0 x1 x2 x3 x4 x5 x6 x7, J x0 x1 x2 x3 x4 x5 x6 x7 w ∧ Ag n (E x0 x1 x2 x3 x4 x5 x6 x7) a) Q) a w) : (Code.seq x y).wp P Q a w := by
  obtain ⟨J, hJ, hb⟩ := h
  refine wp_seq (Code.wp_mono (fun e a w q => ?_) (hx J hb))
  cases e <;> first | exact q | (obtain ⟨x0, x1, x2, x3, x4, x5, x6, x7, hj, hA⟩ := q; exact hy x0 x1 x2 x3 x4 x5 x6 x7 _ _ (hJ x0 x1 x2 x3 x4 x5 x6 x7 _ hj) hA)
theorem Jn8.self {α β γ δ ε ζ η θ : Type} {rest : α → β → γ → δ → ε → ζ → η → θ → World → Prop} {body : (α → β → γ → δ → ε → ζ → η → θ → World → Prop) → Prop} (h : body rest) : Jn8 rest body := ⟨rest, fun x0 x1 x2 x3 x4 x5 x6 x7 _ h => h, h⟩
def Lp8 {α β γ δ ε ζ η θ : Type} (body : α → β → γ → δ → ε → ζ → η → θ → World → (α → β → γ → δ → ε → ζ → η → θ → World → Prop) → Prop) (s0 : α) (s1 : β) (s2 : γ) (s3 : δ) (s4 : ε) (s5 : ζ) (s6 : η) (s7 : θ) (w : World) : Prop :=
  ∃ (I : α → β → γ → δ → ε → ζ → η → θ → World → Prop) (μ : α → β → γ → δ → ε → ζ → η → θ → World → Nat), I s0 s1 s2 s3 s4 s5 s6 s7 w ∧ ∀ x0 x1 x2 x3 x4 x5 x6 x7 w, I x0 x1 x2 x3 x4 x5 x6 x7 w → body x0 x1 x2 x3 x4 x5 x6 x7 w fun y0 y1 y2 y3 y4 y5 y6 y7 w' => I y0 y1 y2 y3 y4 y5 y6 y7 w' ∧ μ y0 y1 y2 y3 y4 y5 y6 y7 w' < μ x0 x1 x2 x3 x4 x5 x6 x7 w
theorem lp8_ {α β γ δ ε ζ η θ : Type} {c : Code} (E : α → β → γ → δ → ε → ζ → η → θ → Env) {body : α → β → γ → δ → ε → ζ → η → θ → World → (α → β → γ → δ → ε → ζ → η → θ → World → Prop) → Prop} {s0 : α} {s1 : β} {s2 : γ} {s3 : δ} {s4 : ε} {s5 : ζ} {s6 : η} {s7 : θ} (h : Lp8 body s0 s1 s2 s3 s4 s5 s6 s7 w) (A : Ag n (E s0 s1 s2 s3 s4 s5 s6 s7) a)
    (round : ∀ (N : α → β → γ → δ → ε → ζ → η → θ → World → Prop) x0 x1 x2 x3 x4 x5 x6 x7 w a, body x0 x1 x2 x3 x4 x5 x6 x7 w N → Ag n (E x0 x1 x2 x3 x4 x5 x6 x7) a → c.wp P (Exit.then (fun a' w' => ∃ x0 x1 x2 x3 x4 x5 x6 x7, N x0 x1 x2 x3 x4 x5 x6 x7 w' ∧ Ag n (E x0 x1 x2 x3 x4 x5 x6 x7) a') Q) a w) : (Code.loop c).wp P Q a w := by
  obtain ⟨I, μ, h0, hs⟩ := h
  refine lp_ (σ := α × β × γ × δ × ε × ζ × η × θ) (E := fun s => E s.1 s.2.1 s.2.2.1 s.2.2.2.1 s.2.2.2.2.1 s.2.2.2.2.2.1 s.2.2.2.2.2.2.1 s.2.2.2.2.2.2.2) (body := fun s w N => body s.1 s.2.1 s.2.2.1 s.2.2.2.1 s.2.2.2.2.1 s.2.2.2.2.2.1 s.2.2.2.2.2.2.1 s.2.2.2.2.2.2.2 w fun x0 x1 x2 x3 x4 x5 x6 x7 w => N (x0, x1, x2, x3, x4, x5, x6, x7) w) (s := (s0, s1, s2, s3, s4, s5, s6, s7)) A
    ⟨fun s w => I s.1 s.2.1 s.2.2.1 s.2.2.2.1 s.2.2.2.2.1 s.2.2.2.2.2.1 s.2.2.2.2.2.2.1 s.2.2.2.2.2.2.2 w, fun s w => μ s.1 s.2.1 s.2.2.1 s.2.2.2.1 s.2.2.2.2.1 s.2.2.2.2.2.1 s.2.2.2.2.2.2.1 s.2.2.2.2.2.2.2 w, h0, fun s w hI => hs s.1 s.2.1 s.2.2.1 s.2.2.2.1 s.2.2.2.2.1 s.2.2.2.2.2.1 s.2.2.2.2.2.2.1 s.2.2.2.2.2.2.2 w hI⟩ fun N s w a hb hA => ?_
  refine Code.wp_mono (fun e a w q => ?_) (round (fun x0 x1 x2 x3 x4 x5 x6 x7 w => N (x0, x1, x2, x3, x4, x5, x6, x7) w) s.1 s.2.1 s.2.2.1 s.2.2.2.1 s.2.2.2.2.1 s.2.2.2.2.2.1 s.2.2.2.2.2.2.1 s.2.2.2.2.2.2.2 w a hb hA)
  cases e <;> first | exact q | (obtain ⟨x0, x1, x2, x3, x4, x5, x6, x7, h1, h2⟩ := q; exact ⟨(x0, x1, x2, x3, x4, x5, x6, x7), h2, h1⟩)
theorem en_ {next : Act → World → Prop} (h : next a w) : Exit.then next Q .normal a w := h
theorem xs_ {next : Act → World → Prop} {i : Nat} (h : Q (.exit i) a w) : Exit.then next Q (.exit i) a w := h
theorem rs_ {next : Act → World → Prop} (h : Q .ret a w) : Exit.then next Q .ret a w := h
theorem eb_ {i : Nat} (h : Q .normal a w) : Exit.inBlock i Q .normal a w := h
theorem rb_ {i : Nat} (h : Q .ret a w) : Exit.inBlock i Q .ret a w := h
theorem xb_ {i : Nat} (h : Q .normal a w) : Exit.inBlock i Q (.exit i) a w := by simp only [Exit.inBlock, if_true]; exact h
theorem xo_ {i j : Nat} (hne : Nat.beq j i = false) (h : Q (.exit j) a w) : Exit.inBlock i Q (.exit j) a w := by
  have : ¬ j = i := by intro e; subst e; simp at hne
  simp only [Exit.inBlock, if_neg this]; exact h
theorem Ag.re (A : Ag n l a) {b v : Bool} (h : look l t = some (.bool b)) (hb : b = v) : Ag n ((t, .bool v) :: l) a := by
  subst hb
  refine ⟨A.size, A.defers, fun u x hu => ?_⟩
  simp only [look] at hu
  cases e : Nat.beq t u with
  | true =>
    rw [e, cond_true] at hu
    have := Nat.eq_of_beq_eq_true e
    subst this
    injection hu with hu
    subst hu
    exact A.get t _ h
  | false => rw [e, cond_false] at hu; exact A.get u x hu
theorem twd_ {p : Prop} [Decidable p] {X Y G : Prop} (h : (p → X) ∧ (¬ p → Y)) (hx : decide p = true → X → G) (hy : decide p = false → Y → G) : G := by
  by_cases hp : p
  · exact hx (by simpa using hp) (h.1 hp)
  · exact hy (by simpa using hp) (h.2 hp)
theorem twn_ {p : Prop} [Decidable p] {X Y G : Prop} (h : (p → X) ∧ (¬ p → Y)) (hx : (!decide p) = true → Y → G) (hy : (!decide p) = false → X → G) : G := by
  by_cases hp : p
  · exact hy (by simpa using hp) (h.1 hp)
  · exact hx (by simpa using hp) (h.2 hp)
theorem cdd_ {c : Operand} {x y : Code} {p : Prop} [Decidable p] {X Y : Prop} (A : Ag n l a) (hc : opd l c = some (.bool (decide p))) (h : (p → X) ∧ (¬ p → Y)) (hx : X → x.wp P Q a w) (hy : Y → y.wp P Q a w) : (Code.cond c x y).wp P Q a w := by
  by_cases hp : p
  · exact wp_cond_true (by rw [A.opd hc]; simp [hp]) (hx (h.1 hp))
  · exact wp_cond_false (by rw [A.opd hc]; simp [hp]) (hy (h.2 hp))
theorem cdn_ {c : Operand} {x y : Code} {p : Prop} [Decidable p] {X Y : Prop} (A : Ag n l a) (hc : opd l c = some (.bool (!decide p))) (h : (p → X) ∧ (¬ p → Y)) (hx : Y → x.wp P Q a w) (hy : X → y.wp P Q a w) : (Code.cond c x y).wp P Q a w := by
  by_cases hp : p
  · exact wp_cond_false (by rw [A.opd hc]; simp [hp]) (hy (h.1 hp))
  · exact wp_cond_true (by rw [A.opd hc]; simp [hp]) (hx (h.2 hp))
theorem cdb_ {c : Operand} {x y : Code} {b : Bool} {X Y : Prop} (A : Ag n l a) (hc : opd l c = some (.bool b)) (h : (b = true → X) ∧ (b = false → Y)) (hx : X → x.wp P Q a w) (hy : Y → y.wp P Q a w) : (Code.cond c x y).wp P Q a w := by
  cases b with
  | true => exact wp_cond_true (A.opd hc) (hx (h.1 rfl))
  | false => exact wp_cond_false (A.opd hc) (hy (h.2 rfl))
theorem cdt_ {c : Operand} {x y : Code} (A : Ag n l a) (hc : opd l c = some (.bool true)) (hx : x.wp P Q a w) : (Code.cond c x y).wp P Q a w := wp_cond_true (A.opd hc) hx
theorem cdf_ {c : Operand} {x y : Code} (A : Ag n l a) (hc : opd l c = some (.bool false)) (hy : y.wp P Q a w) : (Code.cond c x y).wp P Q a w := wp_cond_false (A.opd hc) hy

theorem one1 {v : Value} (h : v.oneCell' = true) : ∀ u ∈ [v], u.oneCell' = true := by
  intro u hu; simp at hu; subst hu; exact h
theorem ifc_one (o : Option (Nat × Value)) : (ifc o).oneCell' = true := by cases o <;> rfl
theorem ifc_cells (o : Option (Nat × Value)) : (ifc o).cells = [ifc o].toArray := by cases o <;> rfl
theorem nni_ {x : Operand} {o : Option (Nat × Value)} {X : Prop} (A : Ag n l a) (hd : Nat.blt d n = true) (h : opd l x = some (ifc o)) (hh : o ≠ none ∧ X)
    (k : ∀ a', Ag n ((d, ifc o) :: l) a' → X → wpList P ops Q rest a' w) : wpList P ops Q (⟨some d, .nilCheck x, ty, pos, af, none⟩ :: rest) a w := by
  obtain ⟨hn, hX⟩ := hh
  cases o with
  | none => exact absurd rfl hn
  | some p => exact op_val A hd (by simp [execOp, A.opd h, ifc]) fun a' A' => k a' A' hX
section more
variable {x y : Operand} {t yt e sz : Nat} {p q : Option Addr} {kd : IntKind} {i : Int}
def sx (s : ByteArray) (i : Int) (K : Int → Prop) : Prop := 0 ≤ i ∧ ∃ h : i.toNat < s.size, K (s[i.toNat].toNat : Int)
theorem run_eqv {u v : Value} {b : Bool} (hb : binOp .eql t u v = (do pure (.bool (← Op.equal t u v)))) (h : ∀ d, (Op.equalIn (d + 1) t u v).run P w = .ok b w) : (binOp .eql t u v).run P w = .ok (.bool b) w := by
  have h' : (Op.equal t u v).run P w = .ok b w := h 9999
  rw [hb]
  simp only [Sem.run_bind, h', Result.andThen_ok, Sem.run_pure]
theorem run_nev {u v : Value} {b : Bool} (hb : binOp .neq t u v = (do pure (.bool (!(← Op.equal t u v))))) (h : ∀ d, (Op.equalIn (d + 1) t u v).run P w = .ok b w) : (binOp .neq t u v).run P w = .ok (.bool (!b)) w := by
  have h' : (Op.equal t u v).run P w = .ok b w := h 9999
  rw [hb]
  simp only [Sem.run_bind, h', Result.andThen_ok, Sem.run_pure]
theorem equalIn_pn {pe d : Nat} (ht : P.underlying t = some (.pointer pe)) : (Op.equalIn (d + 1) t (.pointer p) (.pointer none)).run P w = .ok p.isNone w := by
  cases p <;> simp [Op.equalIn, run_underlying ht]
theorem equalIn_ln {m c d : Nat} (ht : P.underlying t = some (.slice e)) : (Op.equalIn (d + 1) t (.slice p m c) (.slice none 0 0)).run P w = .ok p.isNone w := by
  cases p <;> simp [Op.equalIn, run_underlying ht]
theorem equalIn_in {o : Option (Nat × Value)} {ms : Array (String × Nat)} {d : Nat} (ht : P.underlying t = some (.interface ms)) : (Op.equalIn (d + 1) t (ifc o) .nilIface).run P w = .ok o.isNone w := by
  cases o <;> simp [Op.equalIn, run_underlying ht, ifc]
theorem equalIn_bb {b c : Bool} {d : Nat} (ht : P.underlying t = some .bool) : (Op.equalIn (d + 1) t (.bool b) (.bool c)).run P w = .ok (b == c) w := by
  simp [Op.equalIn, run_underlying ht]
theorem peqn_ {pe : Nat} (A : Ag n l a) (hd : Nat.blt d n = true) (hx : opd l x = some (.pointer p)) (hy : opd l y = some (.pointer none)) (ht : P.underlying t = some (.pointer pe)) (k : ∀ a', Ag n ((d, .bool p.isNone) :: l) a' → wpList P ops Q rest a' w) :
    wpList P ops Q (⟨some d, .binOp .eql t x y yt, ty, pos, af, none⟩ :: rest) a w := bi_ A hd hx hy (fun _ _ => rfl) (run_eqv rfl fun d => equalIn_pn ht) k
theorem pnen_ {pe : Nat} (A : Ag n l a) (hd : Nat.blt d n = true) (hx : opd l x = some (.pointer p)) (hy : opd l y = some (.pointer none)) (ht : P.underlying t = some (.pointer pe)) (k : ∀ a', Ag n ((d, .bool (!p.isNone)) :: l) a' → wpList P ops Q rest a' w) :
    wpList P ops Q (⟨some d, .binOp .neq t x y yt, ty, pos, af, none⟩ :: rest) a w := bi_ A hd hx hy (fun _ _ => rfl) (run_nev rfl fun d => equalIn_pn ht) k
theorem leqn_ {m c : Nat} (A : Ag n l a) (hd : Nat.blt d n = true) (hx : opd l x = some (.slice p m c)) (hy : opd l y = some (.slice none 0 0)) (ht : P.underlying t = some (.slice e)) (k : ∀ a', Ag n ((d, .bool p.isNone) :: l) a' → wpList P ops Q rest a' w) :
    wpList P ops Q (⟨some d, .binOp .eql t x y yt, ty, pos, af, none⟩ :: rest) a w := bi_ A hd hx hy (fun _ _ => rfl) (run_eqv rfl fun d => equalIn_ln ht) k
theorem lnen_ {m c : Nat} (A : Ag n l a) (hd : Nat.blt d n = true) (hx : opd l x = some (.slice p m c)) (hy : opd l y = some (.slice none 0 0)) (ht : P.underlying t = some (.slice e)) (k : ∀ a', Ag n ((d, .bool (!p.isNone)) :: l) a' → wpList P ops Q rest a' w) :
    wpList P ops Q (⟨some d, .binOp .neq t x y yt, ty, pos, af, none⟩ :: rest) a w := bi_ A hd hx hy (fun _ _ => rfl) (run_nev rfl fun d => equalIn_ln ht) k
theorem ieqn_ {o : Option (Nat × Value)} {ms : Array (String × Nat)} (A : Ag n l a) (hd : Nat.blt d n = true) (hx : opd l x = some (ifc o)) (ht : P.underlying t = some (.interface ms)) (k : ∀ a', Ag n ((d, .bool o.isNone) :: l) a' → wpList P ops Q rest a' w) :
    wpList P ops Q (⟨some d, .binOp .eql t x (.const .nilIface) yt, ty, pos, af, none⟩ :: rest) a w := by
  refine pv_ A hd ?_ k
  have hr : (binOp .eql t (ifc o) .nilIface).run P w = .ok (.bool o.isNone) w := run_eqv (by cases o <;> rfl) fun d => equalIn_in ht
  have hg : eqGuard .eql t x (.const .nilIface) (ifc o) .nilIface = pure () := by cases o <;> cases x <;> rfl
  simp only [execOp, A.opd hx, show a.eval (.const .nilIface) = .nilIface from rfl, hg, Sem.run_bind, Sem.run_pure, Result.andThen_ok, hr]
theorem inen_ {o : Option (Nat × Value)} {ms : Array (String × Nat)} (A : Ag n l a) (hd : Nat.blt d n = true) (hx : opd l x = some (ifc o)) (ht : P.underlying t = some (.interface ms)) (k : ∀ a', Ag n ((d, .bool (!o.isNone)) :: l) a' → wpList P ops Q rest a' w) :
    wpList P ops Q (⟨some d, .binOp .neq t x (.const .nilIface) yt, ty, pos, af, none⟩ :: rest) a w := by
  refine pv_ A hd ?_ k
  have hr : (binOp .neq t (ifc o) .nilIface).run P w = .ok (.bool (!o.isNone)) w := run_nev (by cases o <;> rfl) fun d => equalIn_in ht
  have hg : eqGuard .neq t x (.const .nilIface) (ifc o) .nilIface = pure () := by cases o <;> cases x <;> rfl
  simp only [execOp, A.opd hx, show a.eval (.const .nilIface) = .nilIface from rfl, hg, Sem.run_bind, Sem.run_pure, Result.andThen_ok, hr]
theorem cv_ {T : Nat} {td : TypeDesc} {j : IntKind} (A : Ag n l a) (hd : Nat.blt d n = true) (hx : opd l x = some (.int j i)) (hs : P.underlying t = some td) (ht : P.underlying T = some (.int kd)) (k : ∀ a', Ag n ((d, .int kd (kd.wrap i)) :: l) a' → wpList P ops Q rest a' w) :
    wpList P ops Q (⟨some d, .convert t T x, ty, pos, af, none⟩ :: rest) a w := pv_ A hd (by simp [execOp, A.opd hx, convert, run_underlying hs, run_underlying ht, Conv.intToInt]) k
theorem cvs_ {T : Nat} {s : ByteArray} (A : Ag n l a) (hd : Nat.blt d n = true) (hx : opd l x = some (.string s)) (hs : P.underlying t = some .string) (ht : P.underlying T = some .string) (k : ∀ a', Ag n ((d, .string s) :: l) a' → wpList P ops Q rest a' w) :
    wpList P ops Q (⟨some d, .convert t T x, ty, pos, af, none⟩ :: rest) a w := pv_ A hd (by simp [execOp, A.opd hx, convert, run_underlying hs, run_underlying ht]) k
theorem sxx_ {s : ByteArray} {K : Int → Prop} (A : Ag n l a) (hd : Nat.blt d n = true) (hx : opd l x = some (.string s)) (hy : opd l y = some (.int kd i)) (ht : P.underlying t = some .string) (hh : sx s i K)
    (k : ∀ u a', Ag n ((d, .int .u8 u) :: l) a' → K u → wpList P ops Q rest a' w) : wpList P ops Q (⟨some d, .index t x y, ty, pos, af, none⟩ :: rest) a w := sx_ A hd hx hy ht hh k
/-- bools that are compared -/
theorem beq_ {b c : Bool} (A : Ag n l a) (hd : Nat.blt d n = true) (hx : opd l x = some (.bool b)) (hy : opd l y = some (.bool c)) (ht : P.underlying t = some .bool) (k : ∀ a', Ag n ((d, .bool (b == c)) :: l) a' → wpList P ops Q rest a' w) :
    wpList P ops Q (⟨some d, .binOp .eql t x y yt, ty, pos, af, none⟩ :: rest) a w := bi_ A hd hx hy (fun _ _ => rfl) (run_eqv rfl fun d => equalIn_bb ht) k
theorem bne_ {b c : Bool} (A : Ag n l a) (hd : Nat.blt d n = true) (hx : opd l x = some (.bool b)) (hy : opd l y = some (.bool c)) (ht : P.underlying t = some .bool) (k : ∀ a', Ag n ((d, .bool (!(b == c))) :: l) a' → wpList P ops Q rest a' w) :
    wpList P ops Q (⟨some d, .binOp .neq t x y yt, ty, pos, af, none⟩ :: rest) a w := bi_ A hd hx hy (fun _ _ => rfl) (run_nev rfl fun d => equalIn_bb ht) k
/-- an operation whose value a closed fact tells, whatever the world -/
theorem fv_ {op : Op} {v : Value} (A : Ag n l a) (hd : Nat.blt d n = true) (hr : ∀ w, (execOp a.eval ⟨some d, op, ty, pos, af, none⟩).run P w = .ok (.value v) w) (k : ∀ a', Ag n ((d, v) :: l) a' → wpList P ops Q rest a' w) :
    wpList P ops Q (⟨some d, op, ty, pos, af, none⟩ :: rest) a w := pv_ A hd (hr w) k
theorem fi_ {v r : Value} {T f : Nat} (A : Ag n l a) (hd : Nat.blt d n = true) (hx : opd l x = some v) (hr : ∀ w, (Instr.field T v f).run P w = .ok r w) (k : ∀ a', Ag n ((d, r) :: l) a' → wpList P ops Q rest a' w) :
    wpList P ops Q (⟨some d, .field T x f, ty, pos, af, none⟩ :: rest) a w := pv_ A hd (by simp [execOp, A.opd hx, hr]) k
end more
end
end Go.Low
