/-
  Printed by wip/gen/gen.py: what the code does, operation by operation, in continuation style (W_..), and that the Go function does it (T_..).
-/
import Derived.Test.YtmmkhlalhalomaaProg
import Derived.Test.YtmmkhlalhalomaaGrTy
set_option linter.unusedVariables false
set_option linter.unusedSimpArgs false
set_option maxRecDepth 100000
set_option maxHeartbeats 4000000
namespace Go.Proofs.Ytmmkhlalhalomaa
open Go Go.Low
theorem ag24 : isAggr Try.prog 24 = true := by kernel_rfl
theorem ag37 : isAggr Try.prog 37 = true := by kernel_rfl
theorem ag40 : isAggr Try.prog 40 = true := by kernel_rfl
theorem ag43 : isAggr Try.prog 43 = true := by kernel_rfl
theorem ag62 : isAggr Try.prog 62 = true := by kernel_rfl
theorem ag66 : isAggr Try.prog 66 = true := by kernel_rfl
theorem bo10 : bodied Try.prog 10 = true := by kernel_rfl
theorem bo11 : bodied Try.prog 11 = true := by kernel_rfl
theorem bo12 : bodied Try.prog 12 = true := by kernel_rfl
theorem bo13 : bodied Try.prog 13 = true := by kernel_rfl
theorem bo14 : bodied Try.prog 14 = true := by kernel_rfl
theorem bo15 : bodied Try.prog 15 = true := by kernel_rfl
theorem bo16 : bodied Try.prog 16 = true := by kernel_rfl
theorem bo17 : bodied Try.prog 17 = true := by kernel_rfl
theorem bo18 : bodied Try.prog 18 = true := by kernel_rfl
theorem bo19 : bodied Try.prog 19 = true := by kernel_rfl
theorem bo20 : bodied Try.prog 20 = true := by kernel_rfl
theorem bo21 : bodied Try.prog 21 = true := by kernel_rfl
theorem bo22 : bodied Try.prog 22 = true := by kernel_rfl
theorem bo23 : bodied Try.prog 23 = true := by kernel_rfl
theorem bo24 : bodied Try.prog 24 = true := by kernel_rfl
theorem bo26 : bodied Try.prog 26 = true := by kernel_rfl
theorem bo27 : bodied Try.prog 27 = true := by kernel_rfl
theorem bo29 : bodied Try.prog 29 = true := by kernel_rfl
theorem bo30 : bodied Try.prog 30 = true := by kernel_rfl
theorem bo31 : bodied Try.prog 31 = true := by kernel_rfl
theorem bo32 : bodied Try.prog 32 = true := by kernel_rfl
theorem bo33 : bodied Try.prog 33 = true := by kernel_rfl
theorem bo34 : bodied Try.prog 34 = true := by kernel_rfl
theorem bo35 : bodied Try.prog 35 = true := by kernel_rfl
theorem bo36 : bodied Try.prog 36 = true := by kernel_rfl
theorem bo37 : bodied Try.prog 37 = true := by kernel_rfl
theorem bo38 : bodied Try.prog 38 = true := by kernel_rfl
theorem bo39 : bodied Try.prog 39 = true := by kernel_rfl
theorem bo4 : bodied Try.prog 4 = true := by kernel_rfl
theorem bo40 : bodied Try.prog 40 = true := by kernel_rfl
theorem bo42 : bodied Try.prog 42 = true := by kernel_rfl
theorem bo43 : bodied Try.prog 43 = true := by kernel_rfl
theorem bo44 : bodied Try.prog 44 = true := by kernel_rfl
theorem bo45 : bodied Try.prog 45 = true := by kernel_rfl
theorem bo46 : bodied Try.prog 46 = true := by kernel_rfl
theorem bo47 : bodied Try.prog 47 = true := by kernel_rfl
theorem bo48 : bodied Try.prog 48 = true := by kernel_rfl
theorem bo49 : bodied Try.prog 49 = true := by kernel_rfl
theorem bo5 : bodied Try.prog 5 = true := by kernel_rfl
theorem bo50 : bodied Try.prog 50 = true := by kernel_rfl
theorem bo52 : bodied Try.prog 52 = true := by kernel_rfl
theorem bo53 : bodied Try.prog 53 = true := by kernel_rfl
theorem bo56 : bodied Try.prog 56 = true := by kernel_rfl
theorem bo6 : bodied Try.prog 6 = true := by kernel_rfl
theorem bo7 : bodied Try.prog 7 = true := by kernel_rfl
theorem bo8 : bodied Try.prog 8 = true := by kernel_rfl
theorem bo9 : bodied Try.prog 9 = true := by kernel_rfl
theorem by3 : byOf Try.prog 3 = some 8 := by kernel_rfl
theorem by38 : byOf Try.prog 38 = some 24 := by kernel_rfl
theorem by40 : byOf Try.prog 40 = some 120 := by kernel_rfl
theorem by43 : byOf Try.prog 43 = some 120 := by kernel_rfl
theorem by5 : byOf Try.prog 5 = some 1 := by kernel_rfl
theorem by62 : byOf Try.prog 62 = some 24 := by kernel_rfl
theorem by66 : byOf Try.prog 66 = some 24 := by kernel_rfl
theorem by9 : byOf Try.prog 9 = some 16 := by kernel_rfl
theorem eg37 : Try.prog.eqGuardType Try.prog.depth 37 = false := by kernel_rfl
theorem eg66 : Try.prog.eqGuardType Try.prog.depth 66 = false := by kernel_rfl
theorem el22 : elOf Try.prog 22 = some (43, 10) := by kernel_rfl
theorem el27 : elOf Try.prog 27 = some (40, 10) := by kernel_rfl
theorem el35 : elOf Try.prog 35 = some (38, 1) := by kernel_rfl
theorem el38 : elOf Try.prog 38 = some (5, 1) := by kernel_rfl
theorem el41 : elOf Try.prog 41 = some (66, 2) := by kernel_rfl
theorem el49 : elOf Try.prog 49 = some (9, 1) := by kernel_rfl
theorem el63 : elOf Try.prog 63 = some (62, 2) := by kernel_rfl
theorem el74 : elOf Try.prog 74 = some (3, 1) := by kernel_rfl
theorem fo24_0 : fldOf Try.prog 24 0 = some 0 := by kernel_rfl
theorem fo37_0 : fldOf Try.prog 37 0 = some 0 := by kernel_rfl
theorem fo37_1 : fldOf Try.prog 37 1 = some 1 := by kernel_rfl
theorem fo40_0 : fldOf Try.prog 40 0 = some 0 := by kernel_rfl
theorem fo40_1 : fldOf Try.prog 40 1 = some 1 := by kernel_rfl
theorem fo40_2 : fldOf Try.prog 40 2 = some 2 := by kernel_rfl
theorem fo40_3 : fldOf Try.prog 40 3 = some 3 := by kernel_rfl
theorem fo40_4 : fldOf Try.prog 40 4 = some 4 := by kernel_rfl
theorem fo40_5 : fldOf Try.prog 40 5 = some 5 := by kernel_rfl
theorem fo40_6 : fldOf Try.prog 40 6 = some 7 := by kernel_rfl
theorem fo40_7 : fldOf Try.prog 40 7 = some 8 := by kernel_rfl
theorem fo40_8 : fldOf Try.prog 40 8 = some 9 := by kernel_rfl
theorem fo43_0 : fldOf Try.prog 43 0 = some 0 := by kernel_rfl
theorem fo43_1 : fldOf Try.prog 43 1 = some 1 := by kernel_rfl
theorem fo43_2 : fldOf Try.prog 43 2 = some 2 := by kernel_rfl
theorem fo43_3 : fldOf Try.prog 43 3 = some 3 := by kernel_rfl
theorem fo43_4 : fldOf Try.prog 43 4 = some 4 := by kernel_rfl
theorem fo43_5 : fldOf Try.prog 43 5 = some 5 := by kernel_rfl
theorem fo43_6 : fldOf Try.prog 43 6 = some 7 := by kernel_rfl
theorem fo43_7 : fldOf Try.prog 43 7 = some 8 := by kernel_rfl
theorem fo43_8 : fldOf Try.prog 43 8 = some 9 := by kernel_rfl
theorem fo58_0 : fldOf Try.prog 58 0 = some 0 := by kernel_rfl
theorem fo58_1 : fldOf Try.prog 58 1 = some 1 := by kernel_rfl
theorem fo58_2 : fldOf Try.prog 58 2 = some 2 := by kernel_rfl
theorem fo58_3 : fldOf Try.prog 58 3 = some 3 := by kernel_rfl
theorem fo62_0 : fldOf Try.prog 62 0 = some 0 := by kernel_rfl
theorem fo62_1 : fldOf Try.prog 62 1 = some 1 := by kernel_rfl
theorem fo66_0 : fldOf Try.prog 66 0 = some 0 := by kernel_rfl
theorem fo66_1 : fldOf Try.prog 66 1 = some 1 := by kernel_rfl
theorem mo : Try.prog.follows .mixedOrders = true := by kernel_rfl
theorem sc22 : isScal Try.prog 22 = true := by kernel_rfl
theorem sc27 : isScal Try.prog 27 = true := by kernel_rfl
theorem sc3 : isScal Try.prog 3 = true := by kernel_rfl
theorem sc38 : isScal Try.prog 38 = true := by kernel_rfl
theorem sc41 : isScal Try.prog 41 = true := by kernel_rfl
theorem sc5 : isScal Try.prog 5 = true := by kernel_rfl
theorem sc52 : isScal Try.prog 52 = true := by kernel_rfl
theorem sc56 : isScal Try.prog 56 = true := by kernel_rfl
theorem sc9 : isScal Try.prog 9 = true := by kernel_rfl
theorem sh37 : Try.prog.stoodInHeld 37 = false := by kernel_rfl
theorem sh66 : Try.prog.stoodInHeld 66 = false := by kernel_rfl
theorem sz22 : szOf Try.prog 22 = some 1 := by kernel_rfl
theorem sz24 : szOf Try.prog 24 = some 1 := by kernel_rfl
theorem sz27 : szOf Try.prog 27 = some 1 := by kernel_rfl
theorem sz3 : szOf Try.prog 3 = some 1 := by kernel_rfl
theorem sz37 : szOf Try.prog 37 = some 2 := by kernel_rfl
theorem sz38 : szOf Try.prog 38 = some 1 := by kernel_rfl
theorem sz40 : szOf Try.prog 40 = some 10 := by kernel_rfl
theorem sz41 : szOf Try.prog 41 = some 1 := by kernel_rfl
theorem sz43 : szOf Try.prog 43 = some 10 := by kernel_rfl
theorem sz5 : szOf Try.prog 5 = some 1 := by kernel_rfl
theorem sz58 : szOf Try.prog 58 = some 4 := by kernel_rfl
theorem sz62 : szOf Try.prog 62 = some 2 := by kernel_rfl
theorem sz66 : szOf Try.prog 66 = some 2 := by kernel_rfl
theorem sz9 : szOf Try.prog 9 = some 1 := by kernel_rfl
theorem un21 : Try.prog.underlying 21 = some (.int .i32) := by kernel_rfl
theorem un22 : Try.prog.underlying 22 = some (.slice 43) := by kernel_rfl
theorem un27 : Try.prog.underlying 27 = some (.slice 40) := by kernel_rfl
theorem un3 : Try.prog.underlying 3 = some (.int .i64) := by kernel_rfl
theorem un35 : Try.prog.underlying 35 = some (.slice 38) := by kernel_rfl
theorem un37 : Try.prog.underlying 37 = some (.struct #[⟨ "Sec", 3, 0, false, "", "", 0⟩, ⟨ "Nano", 3, 1, false, "", "", 8⟩]) := by kernel_rfl
theorem un38 : Try.prog.underlying 38 = some (.slice 5) := by kernel_rfl
theorem un41 : Try.prog.underlying 41 = some (.slice 66) := by kernel_rfl
theorem un49 : Try.prog.underlying 49 = some (.slice 9) := by kernel_rfl
theorem un5 : Try.prog.underlying 5 = some (.int .u8) := by kernel_rfl
theorem un52 : Try.prog.underlying 52 = some (.map 3 53) := by kernel_rfl
theorem un53 : Try.prog.underlying 53 = some (.pointer 43) := by kernel_rfl
theorem un56 : Try.prog.underlying 56 = some (.map 3 83) := by kernel_rfl
theorem un63 : Try.prog.underlying 63 = some (.slice 62) := by kernel_rfl
theorem un66 : Try.prog.underlying 66 = some (.struct #[⟨ "Name", 9, 0, false, "", "", 0⟩, ⟨ "Id", 3, 1, false, "", "", 16⟩]) := by kernel_rfl
theorem un69 : Try.prog.underlying 69 = some (.map 9 3) := by kernel_rfl
theorem un74 : Try.prog.underlying 74 = some (.slice 3) := by kernel_rfl
theorem un86 : Try.prog.underlying 86 = some (.int .u64) := by kernel_rfl
theorem un88 : Try.prog.underlying 88 = some (.map 3 3) := by kernel_rfl
theorem un9 : Try.prog.underlying 9 = some .string := by kernel_rfl
theorem ze24 : zerOf Try.prog 24 = some (.agg #[.slice none 0 0]) := by kernel_rfl
theorem ze3 : zerOf Try.prog 3 = some (.int .i64 0) := by kernel_rfl
theorem ze38 : zerOf Try.prog 38 = some (.slice none 0 0) := by kernel_rfl
theorem ze40 : zerOf Try.prog 40 = some (.agg #[.string ⟨#[]⟩, .int .i64 0, .int .i64 0, .int .i64 0, .int .i64 0, .int .i64 0, .int .i64 0, .slice none 0 0, .string ⟨#[]⟩, .string ⟨#[]⟩]) := by kernel_rfl
theorem ze43 : zerOf Try.prog 43 = some (.agg #[.int .i64 0, .int .i64 0, .int .i64 0, .int .i64 0, .int .i64 0, .int .i64 0, .int .i64 0, .slice none 0 0, .string ⟨#[]⟩, .slice none 0 0]) := by kernel_rfl
theorem ze5 : zerOf Try.prog 5 = some (.int .u8 0) := by kernel_rfl
theorem ze53 : zerOf Try.prog 53 = some (.pointer none) := by kernel_rfl
theorem ze58 : zerOf Try.prog 58 = some (.agg #[.map none, .slice none 0 0, .map none, .int .i64 0]) := by kernel_rfl
theorem ze62 : zerOf Try.prog 62 = some (.agg #[.int .i64 0, .string ⟨#[]⟩]) := by kernel_rfl
theorem ze66 : zerOf Try.prog 66 = some (.agg #[.string ⟨#[]⟩, .int .i64 0]) := by kernel_rfl
theorem ze83 : zerOf Try.prog 83 = some (.agg #[.string ⟨#[]⟩]) := by kernel_rfl
theorem ze9 : zerOf Try.prog 9 = some (.string ⟨#[]⟩) := by kernel_rfl
theorem S_api_Time.equal (d : Nat) (w : World) (x y : S_api_Time) : (Op.equalIn (d + 2) 37 (.agg (S_api_Time.cells x).toArray) (.agg (S_api_Time.cells y).toArray)).run Try.prog w = .ok (S_api_Time.same x y) w :=
  eqs_of (d := d + 1) un37 sh37 (eqf_cons rfl (part_scal sc3 rfl) (part_scal sc3 rfl) (eqs_int (d := d + 0) un3) (eqf_cons rfl (part_scal sc3 rfl) (part_scal sc3 rfl) (eqs_int (d := d + 0) un3) eqf_nil))
theorem S_api_Ent.equal (d : Nat) (w : World) (x y : S_api_Ent) : (Op.equalIn (d + 2) 66 (.agg (S_api_Ent.cells x).toArray) (.agg (S_api_Ent.cells y).toArray)).run Try.prog w = .ok (S_api_Ent.same x y) w :=
  eqs_of (d := d + 1) un66 sh66 (eqf_cons rfl (part_scal sc9 rfl) (part_scal sc9 rfl) (eqs_str (d := d + 0) un9) (eqf_cons rfl (part_scal sc3 rfl) (part_scal sc3 rfl) (eqs_int (d := d + 0) un3) eqf_nil))
end Go.Proofs.Ytmmkhlalhalomaa
