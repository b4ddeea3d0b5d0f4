/-
  Printed by wip/gen/gen.py: what the code does, operation by operation, in continuation style (W_..), and that the Go function does it (T_..).
-/
import Derived.Test.YtmmkhlalhalomaaLowE
set_option linter.unusedVariables false
set_option linter.unusedSimpArgs false
set_option maxRecDepth 100000
set_option maxHeartbeats 4000000
namespace Go.Proofs.Ytmmkhlalhalomaa
open Go Go.Low
structure S_api_Graph where
  Nodes : Sl
def S_api_Graph.cells (x : S_api_Graph) : List Value := [Sl.v (x.Nodes)]
def S_api_Graph.v (x : S_api_Graph) : Value := .agg (S_api_Graph.cells x).toArray
theorem S_api_Graph.len (x : S_api_Graph) : (S_api_Graph.cells x).length = 1 := rfl
theorem S_api_Graph.one (x : S_api_Graph) : ∀ v ∈ S_api_Graph.cells x, v.oneCell' = true := (one_cons rfl one_nil)
structure S_api_Time where
  Sec : Int
  Nano : Int
def S_api_Time.cells (x : S_api_Time) : List Value := [Value.int .i64 (x.Sec), Value.int .i64 (x.Nano)]
def S_api_Time.v (x : S_api_Time) : Value := .agg (S_api_Time.cells x).toArray
theorem S_api_Time.len (x : S_api_Time) : (S_api_Time.cells x).length = 2 := rfl
theorem S_api_Time.one (x : S_api_Time) : ∀ v ∈ S_api_Time.cells x, v.oneCell' = true := (one_cons rfl (one_cons rfl one_nil))
structure S_api_Node where
  Id : Int
  Kind : Int
  Mode : Int
  Uid : Int
  Gid : Int
  Mtime : S_api_Time
  Data : Sl
  Target : ByteArray
  Ents : Sl
def S_api_Node.cells (x : S_api_Node) : List Value := [Value.int .i64 (x.Id), Value.int .i64 (x.Kind), Value.int .i64 (x.Mode), Value.int .i64 (x.Uid), Value.int .i64 (x.Gid), Value.int .i64 (x.Mtime.Sec), Value.int .i64 (x.Mtime.Nano), Sl.v (x.Data), Value.string (x.Target), Sl.v (x.Ents)]
def S_api_Node.v (x : S_api_Node) : Value := .agg (S_api_Node.cells x).toArray
theorem S_api_Node.len (x : S_api_Node) : (S_api_Node.cells x).length = 10 := rfl
theorem S_api_Node.one (x : S_api_Node) : ∀ v ∈ S_api_Node.cells x, v.oneCell' = true := (one_cons rfl (one_cons rfl (one_cons rfl (one_cons rfl (one_cons rfl (one_cons rfl (one_cons rfl (one_cons rfl (one_cons rfl (one_cons rfl one_nil))))))))))
structure S_graph_lister where
  by_ : Option Nat
  out_ : Sl
  first_ : Option Nat
  bytes_ : Int
def S_graph_lister.cells (x : S_graph_lister) : List Value := [Value.map (x.by_), Sl.v (x.out_), Value.map (x.first_), Value.int .i64 (x.bytes_)]
def S_graph_lister.v (x : S_graph_lister) : Value := .agg (S_graph_lister.cells x).toArray
theorem S_graph_lister.len (x : S_graph_lister) : (S_graph_lister.cells x).length = 4 := rfl
theorem S_graph_lister.one (x : S_graph_lister) : ∀ v ∈ S_graph_lister.cells x, v.oneCell' = true := (one_cons rfl (one_cons rfl (one_cons rfl (one_cons rfl one_nil))))
structure S_valiseref14_step where
  At : Int
  Path : ByteArray
def S_valiseref14_step.cells (x : S_valiseref14_step) : List Value := [Value.int .i64 (x.At), Value.string (x.Path)]
def S_valiseref14_step.v (x : S_valiseref14_step) : Value := .agg (S_valiseref14_step.cells x).toArray
theorem S_valiseref14_step.len (x : S_valiseref14_step) : (S_valiseref14_step.cells x).length = 2 := rfl
theorem S_valiseref14_step.one (x : S_valiseref14_step) : ∀ v ∈ S_valiseref14_step.cells x, v.oneCell' = true := (one_cons rfl (one_cons rfl one_nil))
structure S_api_Line where
  Path : ByteArray
  Kind : Int
  Mode : Int
  Uid : Int
  Gid : Int
  Mtime : S_api_Time
  Data : Sl
  Target : ByteArray
  Peer : ByteArray
def S_api_Line.cells (x : S_api_Line) : List Value := [Value.string (x.Path), Value.int .i64 (x.Kind), Value.int .i64 (x.Mode), Value.int .i64 (x.Uid), Value.int .i64 (x.Gid), Value.int .i64 (x.Mtime.Sec), Value.int .i64 (x.Mtime.Nano), Sl.v (x.Data), Value.string (x.Target), Value.string (x.Peer)]
def S_api_Line.v (x : S_api_Line) : Value := .agg (S_api_Line.cells x).toArray
theorem S_api_Line.len (x : S_api_Line) : (S_api_Line.cells x).length = 10 := rfl
theorem S_api_Line.one (x : S_api_Line) : ∀ v ∈ S_api_Line.cells x, v.oneCell' = true := (one_cons rfl (one_cons rfl (one_cons rfl (one_cons rfl (one_cons rfl (one_cons rfl (one_cons rfl (one_cons rfl (one_cons rfl (one_cons rfl one_nil))))))))))
structure S_api_Ent where
  Name : ByteArray
  Id : Int
def S_api_Ent.cells (x : S_api_Ent) : List Value := [Value.string (x.Name), Value.int .i64 (x.Id)]
def S_api_Ent.v (x : S_api_Ent) : Value := .agg (S_api_Ent.cells x).toArray
theorem S_api_Ent.len (x : S_api_Ent) : (S_api_Ent.cells x).length = 2 := rfl
theorem S_api_Ent.one (x : S_api_Ent) : ∀ v ∈ S_api_Ent.cells x, v.oneCell' = true := (one_cons rfl (one_cons rfl one_nil))
structure S_graph_where where
  path_ : ByteArray
def S_graph_where.cells (x : S_graph_where) : List Value := [Value.string (x.path_)]
def S_graph_where.v (x : S_graph_where) : Value := .agg (S_graph_where.cells x).toArray
theorem S_graph_where.len (x : S_graph_where) : (S_graph_where.cells x).length = 1 := rfl
theorem S_graph_where.one (x : S_graph_where) : ∀ v ∈ S_graph_where.cells x, v.oneCell' = true := (one_cons rfl one_nil)
def S_api_Time.same (x y : S_api_Time) : Bool := decide (x.Sec = y.Sec) && (decide (x.Nano = y.Nano) && true)
def S_api_Ent.same (x y : S_api_Ent) : Bool := decide (x.Name = y.Name) && (decide (x.Id = y.Id) && true)
end Go.Proofs.Ytmmkhlalhalomaa
