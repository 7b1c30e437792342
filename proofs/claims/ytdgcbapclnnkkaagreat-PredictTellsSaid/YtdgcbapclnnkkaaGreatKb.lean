/- Part 2 of the proof that the law holds for every input: the theorems of this part. Conditions: each theorem bears its own; the last has none. -/
import Derived.Test.YtdgcbapclnnkkaaGreatKa
set_option linter.all false
section
/- Printed by a program of this session (gen.py): the functions of the dump over typed primitives, and that they serve for the model's code. No condition. -/
set_option maxRecDepth 100000
set_option linter.unusedVariables false
namespace Go.Proofs.YtdgcbapclnnkkaaGreat.X
open Go
@[reducible] def ohead_Object_Small_s0 (k : ((Int × Bool) → K)) (x2 : Int) (x3 : Bool) : K :=
  k (x2, x3)
@[reducible] def ohead_Object_Small_s1 (k : ((Int × Bool) → K)) (o_1 : Addr) : K :=
  ldI .i64 (Addr.add o_1 0) fun x4_0 =>
  ldI .i64 (Addr.add o_1 1) fun x4_1 =>
  c_ohead_Object_Size (x4_0, x4_1) fun x5 =>
  c_class_Of x5 fun x6 =>
  ohead_Object_Small_s0 k x6.1 x6.2
@[reducible] def ohead_Object_Small (o : (Int × Int)) : M (Int × Bool) := fun k =>
  alK (.cells #[.int .i64 o.1, .int .i64 o.2] 68) fun b =>
  ohead_Object_Small_s1 k ⟨b, 0, none⟩
theorem ohead_Object_Small_ok (o : (Int × Int)) (k : (Int × Bool) → K) (w : World) (hyp_ : ohead_Object_Small o k w) : c_ohead_Object_Small o k w :=
  cl_of (P := Tryz.prog) Tryz.func78 rfl (by kernel_rfl)
  (RefK.seq [(1, .addr)] [] (fun z_ => [(1, .pointer (some z_.1))]) (fun z_ => ohead_Object_Small_s1 k z_.1) (by kernel_rfl) (fun _ => by kernel_rfl)
  (RefK.plain [] (by kernel_rfl))
  (fun ⟨o_1, _⟩ => RefK.seq [(2, .int .i64), (3, .bool)] [] (fun z_ => [(2, .int .i64 z_.1), (3, .bool z_.2.1)]) (fun z_ => ohead_Object_Small_s0 k z_.1 z_.2.1) (by kernel_rfl) (fun _ => by kernel_rfl)
  (RefK.plain [] (by kernel_rfl))
  (fun ⟨x2, x3, _⟩ => RefK.ret (by kernel_rfl)))) hyp_
@[reducible] def geom_Geometry_BlockOf_s0 (k : (Int → K)) (x4 : Int) : K :=
  k x4
@[reducible] def geom_Geometry_BlockOf_s1 (k : (Int → K)) (x4_1 : Int) : K :=
  k x4_1
@[reducible] def geom_Geometry_BlockOf_s2 (at_1 : Int) (k : (Int → K)) (x12 : Bool) : K :=
  brK x12
  (geom_Geometry_BlockOf_s1 k (-1))
  (geom_Geometry_BlockOf_s0 k (IntKind.wrap .i64 (Int.tdiv at_1 512)))
@[reducible] def geom_Geometry_BlockOf_s3 (at_1 : Int) (k : (Int → K)) (g_1 : Addr) : K :=
  brK (decide (at_1 < 0))
  (geom_Geometry_BlockOf_s2 at_1 k true)
  (ldI .i64 (Addr.add g_1 0) fun x9_0 =>
  c_geom_Geometry_Words x9_0 fun x10 =>
  geom_Geometry_BlockOf_s2 at_1 k (decide (at_1 ≥ x10)))
@[reducible] def geom_Geometry_BlockOf (g : Int) (at_1 : Int) : M Int := fun k =>
  alK (.cells #[.int .i64 g] 43) fun b =>
  geom_Geometry_BlockOf_s3 at_1 k ⟨b, 0, none⟩
theorem geom_Geometry_BlockOf_ok (g : Int) (at_1 : Int) (k : Int → K) (w : World) (hyp_ : geom_Geometry_BlockOf g at_1 k w) : c_geom_Geometry_BlockOf g at_1 k w :=
  cl_of (P := Tryz.prog) Tryz.func80 rfl (by kernel_rfl)
  (RefK.seq [(2, .addr)] [1] (fun z_ => [(2, .pointer (some z_.1)), (1, .int .i64 at_1)]) (fun z_ => geom_Geometry_BlockOf_s3 at_1 k z_.1) (by kernel_rfl) (fun _ => by kernel_rfl)
  (RefK.plain [] (by kernel_rfl))
  (fun ⟨g_1, _⟩ => RefK.seq [] [1] (fun z_ => [(1, .int .i64 at_1)]) (fun z_ => geom_Geometry_BlockOf_s0 k (IntKind.wrap .i64 (Int.tdiv at_1 512))) (by kernel_rfl) (fun _ => by kernel_rfl)
  (RefK.seq [(12, .bool)] [1] (fun z_ => [(12, .bool z_.1), (1, .int .i64 at_1)]) (fun z_ => geom_Geometry_BlockOf_s2 at_1 k z_.1) (by kernel_rfl) (fun _ => by kernel_rfl)
  (RefK.plain [2] (by kernel_rfl))
  (fun ⟨x12, _⟩ => RefK.cond (b := x12) (t1 := geom_Geometry_BlockOf_s1 k (-1)) (t2 := geom_Geometry_BlockOf_s0 k (IntKind.wrap .i64 (Int.tdiv at_1 512))) (by kernel_rfl) (by kernel_rfl) (fun w h => brK_spec w h) (RefK.seq [(4, .int .i64)] [] (fun z_ => [(4, .int .i64 z_.1)]) (fun z_ => geom_Geometry_BlockOf_s1 k z_.1) (by kernel_rfl) (fun _ => by kernel_rfl)
  (RefK.plain [] (by kernel_rfl))
  (fun ⟨x4_1, _⟩ => RefK.ret (by kernel_rfl))) (RefK.skip (by kernel_rfl))))
  (fun _ => RefK.seq [(4, .int .i64)] [] (fun z_ => [(4, .int .i64 z_.1)]) (fun z_ => geom_Geometry_BlockOf_s0 k z_.1) (by kernel_rfl) (fun _ => by kernel_rfl)
  (RefK.plain [] (by kernel_rfl))
  (fun ⟨x4, _⟩ => RefK.ret (by kernel_rfl))))) hyp_
@[reducible] def ohead_Object_Size_s0 (k : (Int → K)) (x2 : Int) : K :=
  k x2
@[reducible] def ohead_Object_Size_s1 (k : (Int → K)) (x2_1 : Int) : K :=
  k x2_1
@[reducible] def ohead_Object_Size_s2 (k : (Int → K)) (n : Int) (x14 : Bool) : K :=
  brK x14
  (ohead_Object_Size_s1 k 0)
  (ohead_Object_Size_s0 k n)
@[reducible] def ohead_Object_Size_s3 (k : (Int → K)) (n : Int) (e : Int) : K :=
  ohead_Object_Size_s2 k n (e != 0)
@[reducible] def ohead_Object_Size_s4 (k : (Int → K)) (o_1 : Addr) : K :=
  ldI .i64 (Addr.add o_1 0) fun x7 =>
  ldI .i64 (Addr.add o_1 1) fun x9 =>
  c_class_Size x7 x9 fun x10 =>
  ohead_Object_Size_s3 k x10.1 x10.2
@[reducible] def ohead_Object_Size (o : (Int × Int)) : M Int := fun k =>
  alK (.cells #[.int .i64 o.1, .int .i64 o.2] 68) fun b =>
  ohead_Object_Size_s4 k ⟨b, 0, none⟩
theorem ohead_Object_Size_ok (o : (Int × Int)) (k : Int → K) (w : World) (hyp_ : ohead_Object_Size o k w) : c_ohead_Object_Size o k w :=
  cl_of (P := Tryz.prog) Tryz.func86 rfl (by kernel_rfl)
  (RefK.seq [(1, .addr)] [] (fun z_ => [(1, .pointer (some z_.1))]) (fun z_ => ohead_Object_Size_s4 k z_.1) (by kernel_rfl) (fun _ => by kernel_rfl)
  (RefK.plain [] (by kernel_rfl))
  (fun ⟨o_1, _⟩ => RefK.seq [(3, .int .i64), (4, .int .i64)] [] (fun z_ => [(3, .int .i64 z_.1), (4, .int .i64 z_.2.1)]) (fun z_ => ohead_Object_Size_s3 k z_.1 z_.2.1) (by kernel_rfl) (fun _ => by kernel_rfl)
  (RefK.plain [] (by kernel_rfl))
  (fun ⟨n, e, _⟩ => RefK.seq [] [3] (fun z_ => [(3, .int .i64 n)]) (fun z_ => ohead_Object_Size_s0 k n) (by kernel_rfl) (fun _ => by kernel_rfl)
  (RefK.seq [(14, .bool)] [3] (fun z_ => [(14, .bool z_.1), (3, .int .i64 n)]) (fun z_ => ohead_Object_Size_s2 k n z_.1) (by kernel_rfl) (fun _ => by kernel_rfl)
  (RefK.plain [] (by kernel_rfl))
  (fun ⟨x14, _⟩ => RefK.cond (b := x14) (t1 := ohead_Object_Size_s1 k 0) (t2 := ohead_Object_Size_s0 k n) (by kernel_rfl) (by kernel_rfl) (fun w h => brK_spec w h) (RefK.seq [(2, .int .i64)] [] (fun z_ => [(2, .int .i64 z_.1)]) (fun z_ => ohead_Object_Size_s1 k z_.1) (by kernel_rfl) (fun _ => by kernel_rfl)
  (RefK.plain [] (by kernel_rfl))
  (fun ⟨x2_1, _⟩ => RefK.ret (by kernel_rfl))) (RefK.skip (by kernel_rfl))))
  (fun _ => RefK.seq [(2, .int .i64)] [] (fun z_ => [(2, .int .i64 z_.1)]) (fun z_ => ohead_Object_Size_s0 k z_.1) (by kernel_rfl) (fun _ => by kernel_rfl)
  (RefK.plain [] (by kernel_rfl))
  (fun ⟨x2, _⟩ => RefK.ret (by kernel_rfl)))))) hyp_
@[reducible] def geom_Geometry_Most_s0 (k : (Int → K)) (x2 : Int) : K :=
  k x2
@[reducible] def geom_Geometry_Most_s1 (k : (Int → K)) (g_1 : Addr) : K :=
  ldI .i64 (Addr.add g_1 0) fun x4 =>
  geom_Geometry_Most_s0 k (IntKind.wrap .i64 ((max2I 0 (IntKind.wrap .i64 (x4 - 1))) * 512))
@[reducible] def geom_Geometry_Most (g : Int) : M Int := fun k =>
  alK (.cells #[.int .i64 g] 43) fun b =>
  geom_Geometry_Most_s1 k ⟨b, 0, none⟩
theorem geom_Geometry_Most_ok (g : Int) (k : Int → K) (w : World) (hyp_ : geom_Geometry_Most g k w) : c_geom_Geometry_Most g k w :=
  cl_of (P := Tryz.prog) Tryz.func87 rfl (by kernel_rfl)
  (RefK.seq [(1, .addr)] [] (fun z_ => [(1, .pointer (some z_.1))]) (fun z_ => geom_Geometry_Most_s1 k z_.1) (by kernel_rfl) (fun _ => by kernel_rfl)
  (RefK.plain [] (by kernel_rfl))
  (fun ⟨g_1, _⟩ => RefK.seq [(2, .int .i64)] [] (fun z_ => [(2, .int .i64 z_.1)]) (fun z_ => geom_Geometry_Most_s0 k z_.1) (by kernel_rfl) (fun _ => by kernel_rfl)
  (RefK.plain [] (by kernel_rfl))
  (fun ⟨x2, _⟩ => RefK.ret (by kernel_rfl)))) hyp_
@[reducible] def ohead_Object_Blocks_s0 (k : (Int → K)) (x2 : Int) : K :=
  k x2
@[reducible] def ohead_Object_Blocks_s1 (k : (Int → K)) (o_1 : Addr) : K :=
  ldI .i64 (Addr.add o_1 0) fun x11_0 =>
  ldI .i64 (Addr.add o_1 1) fun x11_1 =>
  c_ohead_Object_Size (x11_0, x11_1) fun x12 =>
  c_bits_Up x12 512 fun x13 =>
  ohead_Object_Blocks_s0 k x13
@[reducible] def ohead_Object_Blocks_s2 (k : (Int → K)) (x2_1 : Int) : K :=
  k x2_1
@[reducible] def ohead_Object_Blocks_s3 (k : (Int → K)) (o_1 : Addr) (x10 : Bool) : K :=
  brK x10
  (ohead_Object_Blocks_s2 k 0)
  (ohead_Object_Blocks_s1 k o_1)
@[reducible] def ohead_Object_Blocks_s4 (k : (Int → K)) (o_1 : Addr) (ok : Bool) : K :=
  ohead_Object_Blocks_s3 k o_1 ok
@[reducible] def ohead_Object_Blocks_s5 (k : (Int → K)) (o_1 : Addr) : K :=
  ldI .i64 (Addr.add o_1 0) fun x6_0 =>
  ldI .i64 (Addr.add o_1 1) fun x6_1 =>
  c_ohead_Object_Small (x6_0, x6_1) fun x7 =>
  ohead_Object_Blocks_s4 k o_1 x7.2
@[reducible] def ohead_Object_Blocks (o : (Int × Int)) : M Int := fun k =>
  alK (.cells #[.int .i64 o.1, .int .i64 o.2] 68) fun b =>
  ohead_Object_Blocks_s5 k ⟨b, 0, none⟩
theorem ohead_Object_Blocks_ok (o : (Int × Int)) (k : Int → K) (w : World) (hyp_ : ohead_Object_Blocks o k w) : c_ohead_Object_Blocks o k w :=
  cl_of (P := Tryz.prog) Tryz.func88 rfl (by kernel_rfl)
  (RefK.seq [(1, .addr)] [] (fun z_ => [(1, .pointer (some z_.1))]) (fun z_ => ohead_Object_Blocks_s5 k z_.1) (by kernel_rfl) (fun _ => by kernel_rfl)
  (RefK.plain [] (by kernel_rfl))
  (fun ⟨o_1, _⟩ => RefK.seq [] [1] (fun z_ => [(1, .pointer (some o_1))]) (fun z_ => ohead_Object_Blocks_s1 k o_1) (by kernel_rfl) (fun _ => by kernel_rfl)
  (RefK.seq [(4, .bool)] [1] (fun z_ => [(4, .bool z_.1), (1, .pointer (some o_1))]) (fun z_ => ohead_Object_Blocks_s4 k o_1 z_.1) (by kernel_rfl) (fun _ => by kernel_rfl)
  (RefK.plain [] (by kernel_rfl))
  (fun ⟨ok, _⟩ => RefK.seq [(10, .bool)] [1] (fun z_ => [(10, .bool z_.1), (1, .pointer (some o_1))]) (fun z_ => ohead_Object_Blocks_s3 k o_1 z_.1) (by kernel_rfl) (fun _ => by kernel_rfl)
  (RefK.plain [] (by kernel_rfl))
  (fun ⟨x10, _⟩ => RefK.cond (b := x10) (t1 := ohead_Object_Blocks_s2 k 0) (t2 := ohead_Object_Blocks_s1 k o_1) (by kernel_rfl) (by kernel_rfl) (fun w h => brK_spec w h) (RefK.seq [(2, .int .i64)] [] (fun z_ => [(2, .int .i64 z_.1)]) (fun z_ => ohead_Object_Blocks_s2 k z_.1) (by kernel_rfl) (fun _ => by kernel_rfl)
  (RefK.plain [] (by kernel_rfl))
  (fun ⟨x2_1, _⟩ => RefK.ret (by kernel_rfl))) (RefK.skip (by kernel_rfl)))))
  (fun _ => RefK.seq [(2, .int .i64)] [] (fun z_ => [(2, .int .i64 z_.1)]) (fun z_ => ohead_Object_Blocks_s0 k z_.1) (by kernel_rfl) (fun _ => by kernel_rfl)
  (RefK.plain [] (by kernel_rfl))
  (fun ⟨x2, _⟩ => RefK.ret (by kernel_rfl))))) hyp_
@[reducible] def class_Words_s0 (k : (Int → K)) (x2 : Int) : K :=
  k x2
@[reducible] def class_Words_s1 (k_1 : Int) (k : (Int → K)) : K :=
  c_class_sizes fun x6 =>
  ixI .i64 x6.toArray 32 k_1 fun x8 =>
  class_Words_s0 k x8
@[reducible] def class_Words_s2 (k : (Int → K)) (x2_1 : Int) : K :=
  k x2_1
@[reducible] def class_Words_s3 (k_1 : Int) (k : (Int → K)) (x5 : Bool) : K :=
  brK x5
  (class_Words_s2 k 0)
  (class_Words_s1 k_1 k)
@[reducible] def class_Words_s4 (k_1 : Int) (k : (Int → K)) : K :=
  c_class_Right k_1 fun x4 =>
  class_Words_s3 k_1 k (!x4)
@[reducible] def class_Words (k_1 : Int) : M Int := fun k =>
  class_Words_s4 k_1 k
theorem class_Words_ok (k_1 : Int) (k : Int → K) (w : World) (hyp_ : class_Words k_1 k w) : c_class_Words k_1 k w :=
  cl_of (P := Tryz.prog) Tryz.func93 rfl (by kernel_rfl)
  (RefK.seq [] [0] (fun z_ => [(0, .int .i64 k_1)]) (fun z_ => class_Words_s4 k_1 k) (by kernel_rfl) (fun _ => by kernel_rfl)
  (RefK.plain [] (by kernel_rfl))
  (fun _ => RefK.seq [] [0] (fun z_ => [(0, .int .i64 k_1)]) (fun z_ => class_Words_s1 k_1 k) (by kernel_rfl) (fun _ => by kernel_rfl)
  (RefK.seq [(5, .bool)] [0] (fun z_ => [(5, .bool z_.1), (0, .int .i64 k_1)]) (fun z_ => class_Words_s3 k_1 k z_.1) (by kernel_rfl) (fun _ => by kernel_rfl)
  (RefK.plain [] (by kernel_rfl))
  (fun ⟨x5, _⟩ => RefK.cond (b := x5) (t1 := class_Words_s2 k 0) (t2 := class_Words_s1 k_1 k) (by kernel_rfl) (by kernel_rfl) (fun w h => brK_spec w h) (RefK.seq [(2, .int .i64)] [] (fun z_ => [(2, .int .i64 z_.1)]) (fun z_ => class_Words_s2 k z_.1) (by kernel_rfl) (fun _ => by kernel_rfl)
  (RefK.plain [] (by kernel_rfl))
  (fun ⟨x2_1, _⟩ => RefK.ret (by kernel_rfl))) (RefK.skip (by kernel_rfl))))
  (fun _ => RefK.seq [(2, .int .i64)] [] (fun z_ => [(2, .int .i64 z_.1)]) (fun z_ => class_Words_s0 k z_.1) (by kernel_rfl) (fun _ => by kernel_rfl)
  (RefK.plain [] (by kernel_rfl))
  (fun ⟨x2, _⟩ => RefK.ret (by kernel_rfl))))) hyp_
@[reducible] def class_Right_s0 (k : (Bool → K)) (x2 : Bool) : K :=
  k x2
@[reducible] def class_Right_s1 (k_1 : Int) (k : (Bool → K)) : K :=
  brK (decide (k_1 ≥ 0))
  (class_Right_s0 k (decide (k_1 < 32)))
  (class_Right_s0 k false)
@[reducible] def class_Right (k_1 : Int) : M Bool := fun k =>
  class_Right_s1 k_1 k
theorem class_Right_ok (k_1 : Int) (k : Bool → K) (w : World) (hyp_ : class_Right k_1 k w) : c_class_Right k_1 k w :=
  cl_of (P := Tryz.prog) Tryz.func100 rfl (by kernel_rfl)
  (RefK.seq [] [0] (fun z_ => [(0, .int .i64 k_1)]) (fun z_ => class_Right_s1 k_1 k) (by kernel_rfl) (fun _ => by kernel_rfl)
  (RefK.plain [] (by kernel_rfl))
  (fun _ => RefK.seq [(2, .bool)] [] (fun z_ => [(2, .bool z_.1)]) (fun z_ => class_Right_s0 k z_.1) (by kernel_rfl) (fun _ => by kernel_rfl)
  (RefK.plain [2] (by kernel_rfl))
  (fun ⟨x2, _⟩ => RefK.ret (by kernel_rfl)))) hyp_
@[reducible] def class_Cells_s0 (k : (Int → K)) (x2 : Int) : K :=
  k x2
@[reducible] def class_Cells_s1 (k_1 : Int) (k : (Int → K)) : K :=
  c_class_Words k_1 fun x7 =>
  nz x7 <|
  class_Cells_s0 k (IntKind.wrap .i64 (Int.tdiv 512 x7))
@[reducible] def class_Cells_s2 (k : (Int → K)) (x2_1 : Int) : K :=
  k x2_1
@[reducible] def class_Cells_s3 (k_1 : Int) (k : (Int → K)) (x5 : Bool) : K :=
  brK x5
  (class_Cells_s2 k 0)
  (class_Cells_s1 k_1 k)
@[reducible] def class_Cells_s4 (k_1 : Int) (k : (Int → K)) : K :=
  c_class_Right k_1 fun x4 =>
  class_Cells_s3 k_1 k (!x4)
@[reducible] def class_Cells (k_1 : Int) : M Int := fun k =>
  class_Cells_s4 k_1 k
theorem class_Cells_ok (k_1 : Int) (k : Int → K) (w : World) (hyp_ : class_Cells k_1 k w) : c_class_Cells k_1 k w :=
  cl_of (P := Tryz.prog) Tryz.func102 rfl (by kernel_rfl)
  (RefK.seq [] [0] (fun z_ => [(0, .int .i64 k_1)]) (fun z_ => class_Cells_s4 k_1 k) (by kernel_rfl) (fun _ => by kernel_rfl)
  (RefK.plain [] (by kernel_rfl))
  (fun _ => RefK.seq [] [0] (fun z_ => [(0, .int .i64 k_1)]) (fun z_ => class_Cells_s1 k_1 k) (by kernel_rfl) (fun _ => by kernel_rfl)
  (RefK.seq [(5, .bool)] [0] (fun z_ => [(5, .bool z_.1), (0, .int .i64 k_1)]) (fun z_ => class_Cells_s3 k_1 k z_.1) (by kernel_rfl) (fun _ => by kernel_rfl)
  (RefK.plain [] (by kernel_rfl))
  (fun ⟨x5, _⟩ => RefK.cond (b := x5) (t1 := class_Cells_s2 k 0) (t2 := class_Cells_s1 k_1 k) (by kernel_rfl) (by kernel_rfl) (fun w h => brK_spec w h) (RefK.seq [(2, .int .i64)] [] (fun z_ => [(2, .int .i64 z_.1)]) (fun z_ => class_Cells_s2 k z_.1) (by kernel_rfl) (fun _ => by kernel_rfl)
  (RefK.plain [] (by kernel_rfl))
  (fun ⟨x2_1, _⟩ => RefK.ret (by kernel_rfl))) (RefK.skip (by kernel_rfl))))
  (fun _ => RefK.seq [(2, .int .i64)] [] (fun z_ => [(2, .int .i64 z_.1)]) (fun z_ => class_Cells_s0 k z_.1) (by kernel_rfl) (fun _ => by kernel_rfl)
  (RefK.plain [] (by kernel_rfl))
  (fun ⟨x2, _⟩ => RefK.ret (by kernel_rfl))))) hyp_
@[reducible] def ohead_Decode_s0 (k : (((Int × Int) × Int) → K)) (x4 : Addr) (x5 : Int) : K :=
  ldI .i64 (Addr.add x4 0) fun x4_0 =>
  ldI .i64 (Addr.add x4 1) fun x4_1 =>
  k ((x4_0, x4_1), x5)
@[reducible] def ohead_Decode_s1 (k : (((Int × Int) × Int) → K)) (x4 : Addr) (o : Addr) : K :=
  ldI .i64 (Addr.add o 0) fun x34_0 =>
  ldI .i64 (Addr.add o 1) fun x34_1 =>
  stK (Addr.add x4 0) (.int .i64 x34_0) <|
  stK (Addr.add x4 1) (.int .i64 x34_1) <|
  ohead_Decode_s0 k x4 0
@[reducible] def ohead_Decode_s2 (k : (((Int × Int) × Int) → K)) (x4 : Addr) (x5_1 : Int) : K :=
  ldI .i64 (Addr.add x4 0) fun x4_0_1 =>
  ldI .i64 (Addr.add x4 1) fun x4_1_1 =>
  k ((x4_0_1, x4_1_1), x5_1)
@[reducible] def ohead_Decode_s3 (k : (((Int × Int) × Int) → K)) (x4 : Addr) : K :=
  stK (Addr.add x4 0) (.int .i64 0) <|
  stK (Addr.add x4 1) (.int .i64 0) <|
  ohead_Decode_s2 k x4 26
@[reducible] def ohead_Decode_s4 (k : (((Int × Int) × Int) → K)) (x4 : Addr) (o : Addr) (x32 : Bool) : K :=
  brK x32
  (ohead_Decode_s3 k x4)
  (ohead_Decode_s1 k x4 o)
@[reducible] def ohead_Decode_s5 (at_1 : Int) (w_1 : Int) (k : (((Int × Int) × Int) → K)) (x4 : Addr) (o : Addr) : K :=
  ldI .i64 (Addr.add o 0) fun x28_0 =>
  ldI .i64 (Addr.add o 1) fun x28_1 =>
  c_ohead_Object_Encode (x28_0, x28_1) at_1 fun x30 =>
  ohead_Decode_s4 k x4 o (x30 != w_1)
@[reducible] def ohead_Decode_s6 (at_1 : Int) (w_1 : Int) (k : (((Int × Int) × Int) → K)) (x4 : Addr) (x : Int) : K :=
  c_bits_Get x 8 6 fun x22 =>
  c_bits_Get x 14 15 fun x25 =>
  alK (.cells #[.int .i64 0, .int .i64 0] 68) fun b =>
  stK (Addr.add ⟨b, 0, none⟩ 0) (.int .i64 (IntKind.wrap .i64 x22)) <|
  stK (Addr.add ⟨b, 0, none⟩ 1) (.int .i64 (IntKind.wrap .i64 x25)) <|
  ohead_Decode_s5 at_1 w_1 k x4 ⟨b, 0, none⟩
@[reducible] def ohead_Decode_s7 (k : (((Int × Int) × Int) → K)) (x4 : Addr) (x5_2 : Int) : K :=
  ldI .i64 (Addr.add x4 0) fun x4_0_2 =>
  ldI .i64 (Addr.add x4 1) fun x4_1_2 =>
  k ((x4_0_2, x4_1_2), x5_2)
@[reducible] def ohead_Decode_s8 (k : (((Int × Int) × Int) → K)) (x4 : Addr) : K :=
  stK (Addr.add x4 0) (.int .i64 0) <|
  stK (Addr.add x4 1) (.int .i64 0) <|
  ohead_Decode_s7 k x4 25
@[reducible] def ohead_Decode_s9 (at_1 : Int) (w_1 : Int) (k : (((Int × Int) × Int) → K)) (x4 : Addr) (n : Int) (x17 : Bool) : K :=
  brK x17
  (ohead_Decode_s8 k x4)
  (ohead_Decode_s6 at_1 w_1 k x4 (IntKind.wrap .u64 n))
@[reducible] def ohead_Decode_s10 (at_1 : Int) (w_1 : Int) (k : (((Int × Int) × Int) → K)) (x4 : Addr) (n : Int) (ok : Bool) : K :=
  ohead_Decode_s9 at_1 w_1 k x4 n (!ok)
@[reducible] def ohead_Decode_s11 (at_1 : Int) (w_1 : Int) (k : (((Int × Int) × Int) → K)) (x4 : Addr) : K :=
  c_crc_Open w_1 at_1 fun x13 =>
  ohead_Decode_s10 at_1 w_1 k x4 x13.1 x13.2
@[reducible] def ohead_Decode (at_1 : Int) (w_1 : Int) : M ((Int × Int) × Int) := fun k =>
  alK (.cells #[.int .i64 0, .int .i64 0] 68) fun b_1 =>
  ohead_Decode_s11 at_1 w_1 k ⟨b_1, 0, none⟩
theorem ohead_Decode_ok (at_1 : Int) (w_1 : Int) (k : ((Int × Int) × Int) → K) (w : World) (hyp_ : ohead_Decode at_1 w_1 k w) : c_ohead_Decode at_1 w_1 k w :=
  cl_of (P := Tryz.prog) Tryz.func116 rfl (by kernel_rfl)
  (RefK.seq [(4, .addr)] [0, 1] (fun z_ => [(4, .pointer (some z_.1)), (0, .int .i64 at_1), (1, .int .u64 w_1)]) (fun z_ => ohead_Decode_s11 at_1 w_1 k z_.1) (by kernel_rfl) (fun _ => by kernel_rfl)
  (RefK.plain [] (by kernel_rfl))
  (fun ⟨x4, _⟩ => RefK.seq [(6, .int .u32), (7, .bool)] [0, 1, 4] (fun z_ => [(6, .int .u32 z_.1), (7, .bool z_.2.1), (0, .int .i64 at_1), (1, .int .u64 w_1), (4, .pointer (some x4))]) (fun z_ => ohead_Decode_s10 at_1 w_1 k x4 z_.1 z_.2.1) (by kernel_rfl) (fun _ => by kernel_rfl)
  (RefK.plain [] (by kernel_rfl))
  (fun ⟨n, ok, _⟩ => RefK.seq [] [0, 1, 4, 6] (fun z_ => [(0, .int .i64 at_1), (1, .int .u64 w_1), (4, .pointer (some x4)), (6, .int .u32 n)]) (fun z_ => ohead_Decode_s6 at_1 w_1 k x4 (IntKind.wrap .u64 n)) (by kernel_rfl) (fun _ => by kernel_rfl)
  (RefK.seq [(17, .bool)] [0, 1, 4, 6] (fun z_ => [(17, .bool z_.1), (0, .int .i64 at_1), (1, .int .u64 w_1), (4, .pointer (some x4)), (6, .int .u32 n)]) (fun z_ => ohead_Decode_s9 at_1 w_1 k x4 n z_.1) (by kernel_rfl) (fun _ => by kernel_rfl)
  (RefK.plain [] (by kernel_rfl))
  (fun ⟨x17, _⟩ => RefK.cond (b := x17) (t1 := ohead_Decode_s8 k x4) (t2 := ohead_Decode_s6 at_1 w_1 k x4 (IntKind.wrap .u64 n)) (by kernel_rfl) (by kernel_rfl) (fun w h => brK_spec w h) (RefK.seq [(5, .int .i64)] [4] (fun z_ => [(5, .int .i64 z_.1), (4, .pointer (some x4))]) (fun z_ => ohead_Decode_s7 k x4 z_.1) (by kernel_rfl) (fun _ => by kernel_rfl)
  (RefK.plain [] (by kernel_rfl))
  (fun ⟨x5_2, _⟩ => RefK.ret (by kernel_rfl))) (RefK.skip (by kernel_rfl))))
  (fun _ => RefK.seq [(8, .int .u64)] [0, 1, 4] (fun z_ => [(8, .int .u64 z_.1), (0, .int .i64 at_1), (1, .int .u64 w_1), (4, .pointer (some x4))]) (fun z_ => ohead_Decode_s6 at_1 w_1 k x4 z_.1) (by kernel_rfl) (fun _ => by kernel_rfl)
  (RefK.plain [] (by kernel_rfl))
  (fun ⟨x, _⟩ => RefK.seq [(9, .addr)] [0, 1, 4] (fun z_ => [(9, .pointer (some z_.1)), (0, .int .i64 at_1), (1, .int .u64 w_1), (4, .pointer (some x4))]) (fun z_ => ohead_Decode_s5 at_1 w_1 k x4 z_.1) (by kernel_rfl) (fun _ => by kernel_rfl)
  (RefK.plain [] (by kernel_rfl))
  (fun ⟨o, _⟩ => RefK.seq [] [4, 9] (fun z_ => [(4, .pointer (some x4)), (9, .pointer (some o))]) (fun z_ => ohead_Decode_s1 k x4 o) (by kernel_rfl) (fun _ => by kernel_rfl)
  (RefK.seq [(32, .bool)] [4, 9] (fun z_ => [(32, .bool z_.1), (4, .pointer (some x4)), (9, .pointer (some o))]) (fun z_ => ohead_Decode_s4 k x4 o z_.1) (by kernel_rfl) (fun _ => by kernel_rfl)
  (RefK.plain [] (by kernel_rfl))
  (fun ⟨x32, _⟩ => RefK.cond (b := x32) (t1 := ohead_Decode_s3 k x4) (t2 := ohead_Decode_s1 k x4 o) (by kernel_rfl) (by kernel_rfl) (fun w h => brK_spec w h) (RefK.seq [(5, .int .i64)] [4] (fun z_ => [(5, .int .i64 z_.1), (4, .pointer (some x4))]) (fun z_ => ohead_Decode_s2 k x4 z_.1) (by kernel_rfl) (fun _ => by kernel_rfl)
  (RefK.plain [] (by kernel_rfl))
  (fun ⟨x5_1, _⟩ => RefK.ret (by kernel_rfl))) (RefK.skip (by kernel_rfl))))
  (fun _ => RefK.seq [(5, .int .i64)] [4] (fun z_ => [(5, .int .i64 z_.1), (4, .pointer (some x4))]) (fun z_ => ohead_Decode_s0 k x4 z_.1) (by kernel_rfl) (fun _ => by kernel_rfl)
  (RefK.plain [] (by kernel_rfl))
  (fun ⟨x5, _⟩ => RefK.ret (by kernel_rfl))))))))) hyp_
@[reducible] def cells_At_s0 (k : (((Int × Int) × Bool) → K)) (x6 : Addr) (x7 : Bool) : K :=
  ldI .i64 (Addr.add x6 0) fun x6_0 =>
  ldI .i64 (Addr.add x6 1) fun x6_1 =>
  k ((x6_0, x6_1), x7)
@[reducible] def cells_At_s1 (k_1 : Int) (at_1 : Int) (k : (((Int × Int) × Bool) → K)) (g_1 : Addr) (x6 : Addr) (c : Addr) : K :=
  tick fun _ =>
  ldI .i64 (Addr.add c 0) fun x28_0 =>
  ldI .i64 (Addr.add c 1) fun x28_1 =>
  ldI .i64 (Addr.add g_1 0) fun x29_0 =>
  ldI .i64 (Addr.add c 0) fun x31_0 =>
  ldI .i64 (Addr.add c 1) fun x31_1 =>
  c_cells_Address x29_0 k_1 (x31_0, x31_1) fun x32 =>
  chk [.cell (Addr.add c 0) (.int .i64 x28_0), .cell (Addr.add c 1) (.int .i64 x28_1)] fun _ =>
  stK (Addr.add x6 0) (.int .i64 x28_0) <|
  stK (Addr.add x6 1) (.int .i64 x28_1) <|
  cells_At_s0 k x6 (x32 == at_1)
@[reducible] def cells_At_s2 (k_1 : Int) (at_1 : Int) (k : (((Int × Int) × Bool) → K)) (g_1 : Addr) (x6 : Addr) : K :=
  ldI .i64 (Addr.add g_1 0) fun x19_0 =>
  c_geom_Geometry_BlockOf x19_0 at_1 fun x21 =>
  c_class_Words k_1 fun x25 =>
  nz x25 <|
  alK (.cells #[.int .i64 0, .int .i64 0] 168) fun b =>
  stK (Addr.add ⟨b, 0, none⟩ 0) (.int .i64 x21) <|
  stK (Addr.add ⟨b, 0, none⟩ 1) (.int .i64 (IntKind.wrap .i64 (Int.tdiv (Int.tmod at_1 512) x25))) <|
  cells_At_s1 k_1 at_1 k g_1 x6 ⟨b, 0, none⟩
@[reducible] def cells_At_s3 (k : (((Int × Int) × Bool) → K)) (x6 : Addr) (x7_1 : Bool) : K :=
  ldI .i64 (Addr.add x6 0) fun x6_0_1 =>
  ldI .i64 (Addr.add x6 1) fun x6_1_1 =>
  k ((x6_0_1, x6_1_1), x7_1)
@[reducible] def cells_At_s4 (k : (((Int × Int) × Bool) → K)) (x6 : Addr) : K :=
  stK (Addr.add x6 0) (.int .i64 0) <|
  stK (Addr.add x6 1) (.int .i64 0) <|
  cells_At_s3 k x6 false
@[reducible] def cells_At_s5 (k_1 : Int) (at_1 : Int) (k : (((Int × Int) × Bool) → K)) (g_1 : Addr) (x6 : Addr) (x17 : Bool) : K :=
  brK x17
  (cells_At_s4 k x6)
  (cells_At_s2 k_1 at_1 k g_1 x6)
@[reducible] def cells_At_s6 (k_1 : Int) (at_1 : Int) (k : (((Int × Int) × Bool) → K)) (g_1 : Addr) (x6 : Addr) : K :=
  c_class_Right k_1 fun x10 =>
  brK (!x10)
  (cells_At_s5 k_1 at_1 k g_1 x6 true)
  (ldI .i64 (Addr.add g_1 0) fun x13_0 =>
  c_geom_Geometry_Data x13_0 at_1 fun x15 =>
  cells_At_s5 k_1 at_1 k g_1 x6 (!x15))
@[reducible] def cells_At (g : Int) (k_1 : Int) (at_1 : Int) : M ((Int × Int) × Bool) := fun k =>
  alK (.cells #[.int .i64 g] 43) fun b_1 =>
  alK (.cells #[.int .i64 0, .int .i64 0] 168) fun b_2 =>
  cells_At_s6 k_1 at_1 k ⟨b_1, 0, none⟩ ⟨b_2, 0, none⟩
theorem cells_At_ok (g : Int) (k_1 : Int) (at_1 : Int) (k : ((Int × Int) × Bool) → K) (w : World) (hyp_ : cells_At g k_1 at_1 k w) : c_cells_At g k_1 at_1 k w :=
  cl_of (P := Tryz.prog) Tryz.func117 rfl (by kernel_rfl)
  (RefK.seq [(3, .addr), (6, .addr)] [1, 2] (fun z_ => [(3, .pointer (some z_.1)), (6, .pointer (some z_.2.1)), (1, .int .i64 k_1), (2, .int .i64 at_1)]) (fun z_ => cells_At_s6 k_1 at_1 k z_.1 z_.2.1) (by kernel_rfl) (fun _ => by kernel_rfl)
  (RefK.plain [] (by kernel_rfl))
  (fun ⟨g_1, x6, _⟩ => RefK.seq [] [1, 2, 3, 6] (fun z_ => [(1, .int .i64 k_1), (2, .int .i64 at_1), (3, .pointer (some g_1)), (6, .pointer (some x6))]) (fun z_ => cells_At_s2 k_1 at_1 k g_1 x6) (by kernel_rfl) (fun _ => by kernel_rfl)
  (RefK.seq [(17, .bool)] [1, 2, 3, 6] (fun z_ => [(17, .bool z_.1), (1, .int .i64 k_1), (2, .int .i64 at_1), (3, .pointer (some g_1)), (6, .pointer (some x6))]) (fun z_ => cells_At_s5 k_1 at_1 k g_1 x6 z_.1) (by kernel_rfl) (fun _ => by kernel_rfl)
  (RefK.plain [3] (by kernel_rfl))
  (fun ⟨x17, _⟩ => RefK.cond (b := x17) (t1 := cells_At_s4 k x6) (t2 := cells_At_s2 k_1 at_1 k g_1 x6) (by kernel_rfl) (by kernel_rfl) (fun w h => brK_spec w h) (RefK.seq [(7, .bool)] [6] (fun z_ => [(7, .bool z_.1), (6, .pointer (some x6))]) (fun z_ => cells_At_s3 k x6 z_.1) (by kernel_rfl) (fun _ => by kernel_rfl)
  (RefK.plain [] (by kernel_rfl))
  (fun ⟨x7_1, _⟩ => RefK.ret (by kernel_rfl))) (RefK.skip (by kernel_rfl))))
  (fun _ => RefK.seq [(8, .addr)] [1, 2, 3, 6] (fun z_ => [(8, .pointer (some z_.1)), (1, .int .i64 k_1), (2, .int .i64 at_1), (3, .pointer (some g_1)), (6, .pointer (some x6))]) (fun z_ => cells_At_s1 k_1 at_1 k g_1 x6 z_.1) (by kernel_rfl) (fun _ => by kernel_rfl)
  (RefK.plain [] (by kernel_rfl))
  (fun ⟨c, _⟩ => RefK.seq [(7, .bool)] [6] (fun z_ => [(7, .bool z_.1), (6, .pointer (some x6))]) (fun z_ => cells_At_s0 k x6 z_.1) (by kernel_rfl) (fun _ => by kernel_rfl)
  (RefK.draw [] [0, 0, 0, 0, 14, 0, 62, 31, 255] [0, 1, 2, 3, 5, 4, 6, 7, 8] [0, 1, 2, 3, 4, 7, 5, 6, 8] (by kernel_rfl) (by kernel_rfl))
  (fun ⟨x7, _⟩ => RefK.ret (by kernel_rfl)))))) hyp_
@[reducible] def bhead_Whole_s0 (k : ((Int × Bool) → K)) (x4 : Int) (x5 : Bool) : K :=
  k (x4, x5)
@[reducible] def bhead_Whole_s1 (k : ((Int × Bool) → K)) (x4_1 : Int) (x5_1 : Bool) : K :=
  k (x4_1, x5_1)
@[reducible] def bhead_Whole_s2 (k : ((Int × Bool) → K)) (i_1 : Int) (c : ((Int × Unit) → K)) (x52 : Bool) : K :=
  brK x52
  (bhead_Whole_s1 k 0 false)
  (c ((IntKind.wrap .i64 (i_1 + 1)), ()))
@[reducible] def bhead_Whole_s3 (list : Sl) (block : Int) (k : ((Int × Bool) → K)) (i_1 : Int) (c : ((Int × Unit) → K)) : K :=
  ixS list.p list.n (IntKind.wrap .i64 (block + i_1)) 3 fun x48 =>
  ldI .i64 (Addr.add x48 0) fun x49_0 =>
  ldI .i64 (Addr.add x48 1) fun x49_1 =>
  ldI .i64 (Addr.add x48 2) fun x49_2 =>
  bhead_Whole_s2 k i_1 c (!((x49_0 == 3) && ((x49_1 == 0) && ((x49_2 == i_1) && true))))
@[reducible] def bhead_Whole_s4 (list : Sl) (block : Int) (k : ((Int × Bool) → K)) (n : Int) (i_1 : Int) (c : ((Int × Unit) → K)) (x41 : Bool) : K :=
  brK x41
  (bhead_Whole_s3 list block k i_1 c)
  (bhead_Whole_s0 k n true)
@[reducible] def bhead_Whole_l5 (list : Sl) (block : Int) (k : ((Int × Bool) → K)) (n : Int) (i_1 : Int) (c : ((Int × Unit) → K)) : K :=
  bhead_Whole_s4 list block k n i_1 c (decide (i_1 < n))
@[reducible] def bhead_Whole_s6 (list : Sl) (block : Int) (k : ((Int × Bool) → K)) (n : Int) (i : Int) : K :=
  lp (fun (z_ : (Int × Unit)) c_ => bhead_Whole_l5 list block k n z_.1 c_) (i, ())
@[reducible] def bhead_Whole_s7 (k : ((Int × Bool) → K)) (x4_2 : Int) (x5_2 : Bool) : K :=
  k (x4_2, x5_2)
@[reducible] def bhead_Whole_s8 (list : Sl) (block : Int) (k : ((Int × Bool) → K)) (n : Int) (x38 : Bool) : K :=
  brK x38
  (bhead_Whole_s7 k 0 false)
  (bhead_Whole_s6 list block k n 1)
@[reducible] def bhead_Whole_s9 (list : Sl) (block : Int) (k : ((Int × Bool) → K)) (n : Int) : K :=
  brK (decide (n < 1))
  (bhead_Whole_s8 list block k n true)
  (bhead_Whole_s8 list block k n (decide (n > (IntKind.wrap .i64 (((list.n : Nat) : Int) - block)))))
@[reducible] def bhead_Whole_s10 (list : Sl) (block : Int) (k : ((Int × Bool) → K)) : K :=
  ixS list.p list.n block 3 fun x26 =>
  ldI .i64 (Addr.add x26 2) fun x28 =>
  bhead_Whole_s9 list block k x28
@[reducible] def bhead_Whole_s11 (k : ((Int × Bool) → K)) (x4_3 : Int) (x5_3 : Bool) : K :=
  k (x4_3, x5_3)
@[reducible] def bhead_Whole_s12 (list : Sl) (block : Int) (k : ((Int × Bool) → K)) (x23 : Bool) : K :=
  brK x23
  (bhead_Whole_s11 k 0 false)
  (bhead_Whole_s10 list block k)
@[reducible] def bhead_Whole_s13 (list : Sl) (block : Int) (k : ((Int × Bool) → K)) : K :=
  brK (decide (block < 0))
  (bhead_Whole_s12 list block k true)
  (brK (decide (block ≥ ((list.n : Nat) : Int)))
  (bhead_Whole_s12 list block k true)
  (ixS list.p list.n block 3 fun x19 =>
  ldI .i64 (Addr.add x19 0) fun x21 =>
  bhead_Whole_s12 list block k (x21 != 2)))
@[reducible] def bhead_Whole (list : Sl) (block : Int) : M (Int × Bool) := fun k =>
  bhead_Whole_s13 list block k
theorem bhead_Whole_ok (list : Sl) (block : Int) (k : (Int × Bool) → K) (w : World) (hyp_ : bhead_Whole list block k w) : c_bhead_Whole list block k w :=
  cl_of (P := Tryz.prog) Tryz.func118 rfl (by kernel_rfl)
  (RefK.seq [] [0, 1] (fun z_ => [(0, list.v), (1, .int .i64 block)]) (fun z_ => bhead_Whole_s13 list block k) (by kernel_rfl) (fun _ => by kernel_rfl)
  (RefK.plain [] (by kernel_rfl))
  (fun _ => RefK.seq [] [0, 1] (fun z_ => [(0, list.v), (1, .int .i64 block)]) (fun z_ => bhead_Whole_s10 list block k) (by kernel_rfl) (fun _ => by kernel_rfl)
  (RefK.seq [(23, .bool)] [0, 1] (fun z_ => [(23, .bool z_.1), (0, list.v), (1, .int .i64 block)]) (fun z_ => bhead_Whole_s12 list block k z_.1) (by kernel_rfl) (fun _ => by kernel_rfl)
  (RefK.plain [2, 8] (by kernel_rfl))
  (fun ⟨x23, _⟩ => RefK.cond (b := x23) (t1 := bhead_Whole_s11 k 0 false) (t2 := bhead_Whole_s10 list block k) (by kernel_rfl) (by kernel_rfl) (fun w h => brK_spec w h) (RefK.seq [(4, .int .i64), (5, .bool)] [] (fun z_ => [(4, .int .i64 z_.1), (5, .bool z_.2.1)]) (fun z_ => bhead_Whole_s11 k z_.1 z_.2.1) (by kernel_rfl) (fun _ => by kernel_rfl)
  (RefK.plain [] (by kernel_rfl))
  (fun ⟨x4_3, x5_3, _⟩ => RefK.ret (by kernel_rfl))) (RefK.skip (by kernel_rfl))))
  (fun _ => RefK.seq [(6, .int .i64)] [0, 1] (fun z_ => [(6, .int .i64 z_.1), (0, list.v), (1, .int .i64 block)]) (fun z_ => bhead_Whole_s9 list block k z_.1) (by kernel_rfl) (fun _ => by kernel_rfl)
  (RefK.plain [] (by kernel_rfl))
  (fun ⟨n, _⟩ => RefK.seq [] [0, 1, 6] (fun z_ => [(0, list.v), (1, .int .i64 block), (6, .int .i64 n)]) (fun z_ => bhead_Whole_s6 list block k n 1) (by kernel_rfl) (fun _ => by kernel_rfl)
  (RefK.seq [(38, .bool)] [0, 1, 6] (fun z_ => [(38, .bool z_.1), (0, list.v), (1, .int .i64 block), (6, .int .i64 n)]) (fun z_ => bhead_Whole_s8 list block k n z_.1) (by kernel_rfl) (fun _ => by kernel_rfl)
  (RefK.plain [2] (by kernel_rfl))
  (fun ⟨x38, _⟩ => RefK.cond (b := x38) (t1 := bhead_Whole_s7 k 0 false) (t2 := bhead_Whole_s6 list block k n 1) (by kernel_rfl) (by kernel_rfl) (fun w h => brK_spec w h) (RefK.seq [(4, .int .i64), (5, .bool)] [] (fun z_ => [(4, .int .i64 z_.1), (5, .bool z_.2.1)]) (fun z_ => bhead_Whole_s7 k z_.1 z_.2.1) (by kernel_rfl) (fun _ => by kernel_rfl)
  (RefK.plain [] (by kernel_rfl))
  (fun ⟨x4_2, x5_2, _⟩ => RefK.ret (by kernel_rfl))) (RefK.skip (by kernel_rfl))))
  (fun _ => RefK.seq [] [6] (fun z_ => [(6, .int .i64 n)]) (fun z_ => bhead_Whole_s0 k n true) (by kernel_rfl) (fun _ => by kernel_rfl)
  (RefK.seq [(7, .int .i64)] [0, 1, 6] (fun z_ => [(7, .int .i64 z_.1), (0, list.v), (1, .int .i64 block), (6, .int .i64 n)]) (fun z_ => bhead_Whole_s6 list block k n z_.1) (by kernel_rfl) (fun _ => by kernel_rfl)
  (RefK.plain [] (by kernel_rfl))
  (fun ⟨i, _⟩ => RefK.block (RefK.loop [(7, .int .i64)] [0, 1, 6] (fun z_ => [(7, .int .i64 z_.1), (0, list.v), (1, .int .i64 block), (6, .int .i64 n)]) (fun (z_ : (Int × Unit)) c_ => bhead_Whole_l5 list block k n z_.1 c_) (i, ()) (by kernel_rfl) (fun _ => by kernel_rfl) (by kernel_rfl) (by kernel_rfl)
  (fun ⟨i_1, _⟩ c => RefK.seq [] [0, 1, 6, 7] (fun z_ => [(0, list.v), (1, .int .i64 block), (6, .int .i64 n), (7, .int .i64 i_1)]) (fun z_ => bhead_Whole_s3 list block k i_1 c) (by kernel_rfl) (fun _ => by kernel_rfl)
  (RefK.seq [(41, .bool)] [0, 1, 6, 7] (fun z_ => [(41, .bool z_.1), (0, list.v), (1, .int .i64 block), (6, .int .i64 n), (7, .int .i64 i_1)]) (fun z_ => bhead_Whole_s4 list block k n i_1 c z_.1) (by kernel_rfl) (fun _ => by kernel_rfl)
  (RefK.plain [] (by kernel_rfl))
  (fun ⟨x41, _⟩ => RefK.cond (b := x41) (t1 := bhead_Whole_s3 list block k i_1 c) (t2 := bhead_Whole_s0 k n true) (by kernel_rfl) (by kernel_rfl) (fun w h => brK_spec w h) (RefK.skip (by kernel_rfl)) (RefK.exit (by kernel_rfl))))
  (fun _ => RefK.seq [] [0, 1, 6, 7] (fun z_ => [(0, list.v), (1, .int .i64 block), (6, .int .i64 n), (7, .int .i64 i_1)]) (fun z_ => c ((IntKind.wrap .i64 (i_1 + 1)), ())) (by kernel_rfl) (fun _ => by kernel_rfl)
  (RefK.block (RefK.seq [(52, .bool)] [0, 1, 6, 7] (fun z_ => [(52, .bool z_.1), (0, list.v), (1, .int .i64 block), (6, .int .i64 n), (7, .int .i64 i_1)]) (fun z_ => bhead_Whole_s2 k i_1 c z_.1) (by kernel_rfl) (fun _ => by kernel_rfl)
  (RefK.plain [] (by kernel_rfl))
  (fun ⟨x52, _⟩ => RefK.cond (b := x52) (t1 := bhead_Whole_s1 k 0 false) (t2 := c ((IntKind.wrap .i64 (i_1 + 1)), ())) (by kernel_rfl) (by kernel_rfl) (fun w h => brK_spec w h) (RefK.seq [(4, .int .i64), (5, .bool)] [] (fun z_ => [(4, .int .i64 z_.1), (5, .bool z_.2.1)]) (fun z_ => bhead_Whole_s1 k z_.1 z_.2.1) (by kernel_rfl) (fun _ => by kernel_rfl)
  (RefK.plain [] (by kernel_rfl))
  (fun ⟨x4_1, x5_1, _⟩ => RefK.ret (by kernel_rfl))) (RefK.skip (by kernel_rfl)))))
  (fun _ => RefK.plain [] (by kernel_rfl)))))))
  (fun _ => RefK.seq [(4, .int .i64), (5, .bool)] [] (fun z_ => [(4, .int .i64 z_.1), (5, .bool z_.2.1)]) (fun z_ => bhead_Whole_s0 k z_.1 z_.2.1) (by kernel_rfl) (fun _ => by kernel_rfl)
  (RefK.plain [] (by kernel_rfl))
  (fun ⟨x4, x5, _⟩ => RefK.ret (by kernel_rfl)))))))) hyp_
@[reducible] def geom_Geometry_First_s0 (k : (Int → K)) (x4 : Int) : K :=
  k x4
@[reducible] def geom_Geometry_First_s1 (k : (Int → K)) (x4_1 : Int) : K :=
  k x4_1
@[reducible] def geom_Geometry_First_s2 (block : Int) (k : (Int → K)) (x12 : Bool) : K :=
  brK x12
  (geom_Geometry_First_s1 k (-1))
  (geom_Geometry_First_s0 k (IntKind.wrap .i64 (block * 512)))
@[reducible] def geom_Geometry_First_s3 (block : Int) (k : (Int → K)) (g_1 : Addr) : K :=
  brK (decide (block < 0))
  (geom_Geometry_First_s2 block k true)
  (ldI .i64 (Addr.add g_1 0) fun x10 =>
  geom_Geometry_First_s2 block k (decide (block ≥ x10)))
@[reducible] def geom_Geometry_First (g : Int) (block : Int) : M Int := fun k =>
  alK (.cells #[.int .i64 g] 43) fun b =>
  geom_Geometry_First_s3 block k ⟨b, 0, none⟩
theorem geom_Geometry_First_ok (g : Int) (block : Int) (k : Int → K) (w : World) (hyp_ : geom_Geometry_First g block k w) : c_geom_Geometry_First g block k w :=
  cl_of (P := Tryz.prog) Tryz.func119 rfl (by kernel_rfl)
  (RefK.seq [(2, .addr)] [1] (fun z_ => [(2, .pointer (some z_.1)), (1, .int .i64 block)]) (fun z_ => geom_Geometry_First_s3 block k z_.1) (by kernel_rfl) (fun _ => by kernel_rfl)
  (RefK.plain [] (by kernel_rfl))
  (fun ⟨g_1, _⟩ => RefK.seq [] [1] (fun z_ => [(1, .int .i64 block)]) (fun z_ => geom_Geometry_First_s0 k (IntKind.wrap .i64 (block * 512))) (by kernel_rfl) (fun _ => by kernel_rfl)
  (RefK.seq [(12, .bool)] [1] (fun z_ => [(12, .bool z_.1), (1, .int .i64 block)]) (fun z_ => geom_Geometry_First_s2 block k z_.1) (by kernel_rfl) (fun _ => by kernel_rfl)
  (RefK.plain [2] (by kernel_rfl))
  (fun ⟨x12, _⟩ => RefK.cond (b := x12) (t1 := geom_Geometry_First_s1 k (-1)) (t2 := geom_Geometry_First_s0 k (IntKind.wrap .i64 (block * 512))) (by kernel_rfl) (by kernel_rfl) (fun w h => brK_spec w h) (RefK.seq [(4, .int .i64)] [] (fun z_ => [(4, .int .i64 z_.1)]) (fun z_ => geom_Geometry_First_s1 k z_.1) (by kernel_rfl) (fun _ => by kernel_rfl)
  (RefK.plain [] (by kernel_rfl))
  (fun ⟨x4_1, _⟩ => RefK.ret (by kernel_rfl))) (RefK.skip (by kernel_rfl))))
  (fun _ => RefK.seq [(4, .int .i64)] [] (fun z_ => [(4, .int .i64 z_.1)]) (fun z_ => geom_Geometry_First_s0 k z_.1) (by kernel_rfl) (fun _ => by kernel_rfl)
  (RefK.plain [] (by kernel_rfl))
  (fun ⟨x4, _⟩ => RefK.ret (by kernel_rfl))))) hyp_
@[reducible] def geom_Geometry_Words_s0 (k : (Int → K)) (x2 : Int) : K :=
  k x2
@[reducible] def geom_Geometry_Words_s1 (k : (Int → K)) (g_1 : Addr) : K :=
  ldI .i64 (Addr.add g_1 0) fun x4 =>
  geom_Geometry_Words_s0 k (IntKind.wrap .i64 (x4 * 512))
@[reducible] def geom_Geometry_Words (g : Int) : M Int := fun k =>
  alK (.cells #[.int .i64 g] 43) fun b =>
  geom_Geometry_Words_s1 k ⟨b, 0, none⟩
theorem geom_Geometry_Words_ok (g : Int) (k : Int → K) (w : World) (hyp_ : geom_Geometry_Words g k w) : c_geom_Geometry_Words g k w :=
  cl_of (P := Tryz.prog) Tryz.func121 rfl (by kernel_rfl)
  (RefK.seq [(1, .addr)] [] (fun z_ => [(1, .pointer (some z_.1))]) (fun z_ => geom_Geometry_Words_s1 k z_.1) (by kernel_rfl) (fun _ => by kernel_rfl)
  (RefK.plain [] (by kernel_rfl))
  (fun ⟨g_1, _⟩ => RefK.seq [(2, .int .i64)] [] (fun z_ => [(2, .int .i64 z_.1)]) (fun z_ => geom_Geometry_Words_s0 k z_.1) (by kernel_rfl) (fun _ => by kernel_rfl)
  (RefK.plain [] (by kernel_rfl))
  (fun ⟨x2, _⟩ => RefK.ret (by kernel_rfl)))) hyp_
@[reducible] def class_Of_s0 (k : ((Int × Bool) → K)) (x2 : Int) (x3 : Bool) : K :=
  k (x2, x3)
@[reducible] def class_Of_s1 (k : ((Int × Bool) → K)) (low_1 : Int) : K :=
  class_Of_s0 k low_1 true
@[reducible] def class_Of_s2 (low_2 : Int) (high_1 : Int) (c : ((Int × Int × Unit) → K)) (mid : Int) (x24 : Bool) : K :=
  brK x24
  (c (low_2, mid, ()))
  (c ((IntKind.wrap .i64 (mid + 1)), high_1, ()))
@[reducible] def class_Of_s3 (words : Int) (low_2 : Int) (high_1 : Int) (c : ((Int × Int × Unit) → K)) (mid : Int) : K :=
  c_class_Words mid fun x22 =>
  class_Of_s2 low_2 high_1 c mid (decide (x22 ≥ words))
@[reducible] def class_Of_s4 (words : Int) (low_2 : Int) (high_1 : Int) (c : ((Int × Int × Unit) → K)) : K :=
  class_Of_s3 words low_2 high_1 c (IntKind.wrap .i64 (Int.tdiv (IntKind.wrap .i64 (low_2 + high_1)) 2))
@[reducible] def class_Of_s5 (words : Int) (k : ((Int × Bool) → K)) (low_2 : Int) (high_1 : Int) (c : ((Int × Int × Unit) → K)) (x16 : Bool) : K :=
  brK x16
  (class_Of_s4 words low_2 high_1 c)
  (class_Of_s1 k low_2)
@[reducible] def class_Of_l6 (words : Int) (k : ((Int × Bool) → K)) (low_2 : Int) (high_1 : Int) (c : ((Int × Int × Unit) → K)) : K :=
  class_Of_s5 words k low_2 high_1 c (decide (low_2 < high_1))
@[reducible] def class_Of_s7 (words : Int) (k : ((Int × Bool) → K)) (low : Int) (high : Int) : K :=
  lp (fun (z_ : (Int × Int × Unit)) c_ => class_Of_l6 words k z_.1 z_.2.1 c_) (low, high, ())
@[reducible] def class_Of_s8 (k : ((Int × Bool) → K)) (x2_1 : Int) (x3_1 : Bool) : K :=
  k (x2_1, x3_1)
@[reducible] def class_Of_s9 (words : Int) (k : ((Int × Bool) → K)) (x13 : Bool) : K :=
  brK x13
  (class_Of_s8 k 0 false)
  (class_Of_s7 words k 0 31)
@[reducible] def class_Of_s10 (words : Int) (k : ((Int × Bool) → K)) : K :=
  brK (decide (words < 1))
  (class_Of_s9 words k true)
  (c_class_Most fun x11 =>
  class_Of_s9 words k (decide (words > x11)))
@[reducible] def class_Of (words : Int) : M (Int × Bool) := fun k =>
  class_Of_s10 words k
theorem class_Of_ok (words : Int) (k : (Int × Bool) → K) (w : World) (hyp_ : class_Of words k w) : c_class_Of words k w :=
  cl_of (P := Tryz.prog) Tryz.func140 rfl (by kernel_rfl)
  (RefK.seq [] [0] (fun z_ => [(0, .int .i64 words)]) (fun z_ => class_Of_s10 words k) (by kernel_rfl) (fun _ => by kernel_rfl)
  (RefK.plain [] (by kernel_rfl))
  (fun _ => RefK.seq [] [0] (fun z_ => [(0, .int .i64 words)]) (fun z_ => class_Of_s7 words k 0 31) (by kernel_rfl) (fun _ => by kernel_rfl)
  (RefK.seq [(13, .bool)] [0] (fun z_ => [(13, .bool z_.1), (0, .int .i64 words)]) (fun z_ => class_Of_s9 words k z_.1) (by kernel_rfl) (fun _ => by kernel_rfl)
  (RefK.plain [2] (by kernel_rfl))
  (fun ⟨x13, _⟩ => RefK.cond (b := x13) (t1 := class_Of_s8 k 0 false) (t2 := class_Of_s7 words k 0 31) (by kernel_rfl) (by kernel_rfl) (fun w h => brK_spec w h) (RefK.seq [(2, .int .i64), (3, .bool)] [] (fun z_ => [(2, .int .i64 z_.1), (3, .bool z_.2.1)]) (fun z_ => class_Of_s8 k z_.1 z_.2.1) (by kernel_rfl) (fun _ => by kernel_rfl)
  (RefK.plain [] (by kernel_rfl))
  (fun ⟨x2_1, x3_1, _⟩ => RefK.ret (by kernel_rfl))) (RefK.skip (by kernel_rfl))))
  (fun _ => RefK.seq [(4, .int .i64), (5, .int .i64)] [0] (fun z_ => [(4, .int .i64 z_.1), (5, .int .i64 z_.2.1), (0, .int .i64 words)]) (fun z_ => class_Of_s7 words k z_.1 z_.2.1) (by kernel_rfl) (fun _ => by kernel_rfl)
  (RefK.plain [] (by kernel_rfl))
  (fun ⟨low, high, _⟩ => RefK.seq [(4, .int .i64)] [] (fun z_ => [(4, .int .i64 z_.1)]) (fun z_ => class_Of_s1 k z_.1) (by kernel_rfl) (fun _ => by kernel_rfl)
  (RefK.block (RefK.loop [(4, .int .i64), (5, .int .i64)] [0] (fun z_ => [(4, .int .i64 z_.1), (5, .int .i64 z_.2.1), (0, .int .i64 words)]) (fun (z_ : (Int × Int × Unit)) c_ => class_Of_l6 words k z_.1 z_.2.1 c_) (low, high, ()) (by kernel_rfl) (fun _ => by kernel_rfl) (by kernel_rfl) (by kernel_rfl)
  (fun ⟨low_2, high_1, _⟩ c => RefK.seq [] [0, 4, 5] (fun z_ => [(0, .int .i64 words), (4, .int .i64 low_2), (5, .int .i64 high_1)]) (fun z_ => class_Of_s4 words low_2 high_1 c) (by kernel_rfl) (fun _ => by kernel_rfl)
  (RefK.seq [(16, .bool)] [0, 4, 5] (fun z_ => [(16, .bool z_.1), (0, .int .i64 words), (4, .int .i64 low_2), (5, .int .i64 high_1)]) (fun z_ => class_Of_s5 words k low_2 high_1 c z_.1) (by kernel_rfl) (fun _ => by kernel_rfl)
  (RefK.plain [] (by kernel_rfl))
  (fun ⟨x16, _⟩ => RefK.cond (b := x16) (t1 := class_Of_s4 words low_2 high_1 c) (t2 := class_Of_s1 k low_2) (by kernel_rfl) (by kernel_rfl) (fun w h => brK_spec w h) (RefK.skip (by kernel_rfl)) (RefK.exit (by kernel_rfl))))
  (fun _ => RefK.block (RefK.seq [(6, .int .i64)] [0, 4, 5] (fun z_ => [(6, .int .i64 z_.1), (0, .int .i64 words), (4, .int .i64 low_2), (5, .int .i64 high_1)]) (fun z_ => class_Of_s3 words low_2 high_1 c z_.1) (by kernel_rfl) (fun _ => by kernel_rfl)
  (RefK.plain [] (by kernel_rfl))
  (fun ⟨mid, _⟩ => RefK.seq [(24, .bool)] [0, 4, 5, 6] (fun z_ => [(24, .bool z_.1), (0, .int .i64 words), (4, .int .i64 low_2), (5, .int .i64 high_1), (6, .int .i64 mid)]) (fun z_ => class_Of_s2 low_2 high_1 c mid z_.1) (by kernel_rfl) (fun _ => by kernel_rfl)
  (RefK.plain [] (by kernel_rfl))
  (fun ⟨x24, _⟩ => RefK.cond (b := x24) (t1 := c (low_2, mid, ())) (t2 := c ((IntKind.wrap .i64 (mid + 1)), high_1, ())) (by kernel_rfl) (by kernel_rfl) (fun w h => brK_spec w h) (RefK.plain [] (by kernel_rfl)) (RefK.plain [] (by kernel_rfl)))))))))
  (fun ⟨low_1, _⟩ => RefK.seq [(2, .int .i64), (3, .bool)] [] (fun z_ => [(2, .int .i64 z_.1), (3, .bool z_.2.1)]) (fun z_ => class_Of_s0 k z_.1 z_.2.1) (by kernel_rfl) (fun _ => by kernel_rfl)
  (RefK.plain [] (by kernel_rfl))
  (fun ⟨x2, x3, _⟩ => RefK.ret (by kernel_rfl))))))) hyp_
@[reducible] def class_Size_s0 (k : ((Int × Int) → K)) (x4 : Int) (x5 : Int) : K :=
  k (x4, x5)
@[reducible] def class_Size_s1 (k : ((Int × Int) → K)) (x4_1 : Int) (x5_1 : Int) : K :=
  k (x4_1, x5_1)
@[reducible] def class_Size_s2 (ptrs : Int) (datas : Int) (k : ((Int × Int) → K)) (x19 : Bool) : K :=
  brK x19
  (class_Size_s1 k 0 5)
  (class_Size_s0 k (IntKind.wrap .i64 ((IntKind.wrap .i64 (1 + ptrs)) + datas)) 0)
@[reducible] def class_Size_s3 (ptrs : Int) (datas : Int) (k : ((Int × Int) → K)) : K :=
  brK (decide (ptrs < 0))
  (class_Size_s2 ptrs datas k true)
  (brK (decide (ptrs > 63))
  (class_Size_s2 ptrs datas k true)
  (brK (decide (datas < 0))
  (class_Size_s2 ptrs datas k true)
  (class_Size_s2 ptrs datas k (decide (datas > 16384)))))
@[reducible] def class_Size (ptrs : Int) (datas : Int) : M (Int × Int) := fun k =>
  class_Size_s3 ptrs datas k
theorem class_Size_ok (ptrs : Int) (datas : Int) (k : (Int × Int) → K) (w : World) (hyp_ : class_Size ptrs datas k w) : c_class_Size ptrs datas k w :=
  cl_of (P := Tryz.prog) Tryz.func147 rfl (by kernel_rfl)
  (RefK.seq [] [0, 1] (fun z_ => [(0, .int .i64 ptrs), (1, .int .i64 datas)]) (fun z_ => class_Size_s3 ptrs datas k) (by kernel_rfl) (fun _ => by kernel_rfl)
  (RefK.plain [] (by kernel_rfl))
  (fun _ => RefK.seq [] [0, 1] (fun z_ => [(0, .int .i64 ptrs), (1, .int .i64 datas)]) (fun z_ => class_Size_s0 k (IntKind.wrap .i64 ((IntKind.wrap .i64 (1 + ptrs)) + datas)) 0) (by kernel_rfl) (fun _ => by kernel_rfl)
  (RefK.seq [(19, .bool)] [0, 1] (fun z_ => [(19, .bool z_.1), (0, .int .i64 ptrs), (1, .int .i64 datas)]) (fun z_ => class_Size_s2 ptrs datas k z_.1) (by kernel_rfl) (fun _ => by kernel_rfl)
  (RefK.plain [2, 6, 10] (by kernel_rfl))
  (fun ⟨x19, _⟩ => RefK.cond (b := x19) (t1 := class_Size_s1 k 0 5) (t2 := class_Size_s0 k (IntKind.wrap .i64 ((IntKind.wrap .i64 (1 + ptrs)) + datas)) 0) (by kernel_rfl) (by kernel_rfl) (fun w h => brK_spec w h) (RefK.seq [(4, .int .i64), (5, .int .i64)] [] (fun z_ => [(4, .int .i64 z_.1), (5, .int .i64 z_.2.1)]) (fun z_ => class_Size_s1 k z_.1 z_.2.1) (by kernel_rfl) (fun _ => by kernel_rfl)
  (RefK.plain [] (by kernel_rfl))
  (fun ⟨x4_1, x5_1, _⟩ => RefK.ret (by kernel_rfl))) (RefK.skip (by kernel_rfl))))
  (fun _ => RefK.seq [(4, .int .i64), (5, .int .i64)] [] (fun z_ => [(4, .int .i64 z_.1), (5, .int .i64 z_.2.1)]) (fun z_ => class_Size_s0 k z_.1 z_.2.1) (by kernel_rfl) (fun _ => by kernel_rfl)
  (RefK.plain [] (by kernel_rfl))
  (fun ⟨x4, x5, _⟩ => RefK.ret (by kernel_rfl))))) hyp_
@[reducible] def bits_Up_s0 (k : (Int → K)) (x4 : Int) : K :=
  k x4
@[reducible] def bits_Up_s1 (n : Int) (size : Int) (k : (Int → K)) : K :=
  nz size <|
  bits_Up_s0 k (IntKind.wrap .i64 ((IntKind.wrap .i64 (Int.tdiv (IntKind.wrap .i64 (n - 1)) size)) + 1))
@[reducible] def bits_Up_s2 (k : (Int → K)) (x4_1 : Int) : K :=
  k x4_1
@[reducible] def bits_Up_s3 (n : Int) (size : Int) (k : (Int → K)) (x10 : Bool) : K :=
  brK x10
  (bits_Up_s2 k 0)
  (bits_Up_s1 n size k)
@[reducible] def bits_Up_s4 (n : Int) (size : Int) (k : (Int → K)) : K :=
  brK (decide (n ≤ 0))
  (bits_Up_s3 n size k true)
  (bits_Up_s3 n size k (decide (size ≤ 0)))
@[reducible] def bits_Up (n : Int) (size : Int) : M Int := fun k =>
  bits_Up_s4 n size k
theorem bits_Up_ok (n : Int) (size : Int) (k : Int → K) (w : World) (hyp_ : bits_Up n size k w) : c_bits_Up n size k w :=
  cl_of (P := Tryz.prog) Tryz.func148 rfl (by kernel_rfl)
  (RefK.seq [] [0, 1] (fun z_ => [(0, .int .i64 n), (1, .int .i64 size)]) (fun z_ => bits_Up_s4 n size k) (by kernel_rfl) (fun _ => by kernel_rfl)
  (RefK.plain [] (by kernel_rfl))
  (fun _ => RefK.seq [] [0, 1] (fun z_ => [(0, .int .i64 n), (1, .int .i64 size)]) (fun z_ => bits_Up_s1 n size k) (by kernel_rfl) (fun _ => by kernel_rfl)
  (RefK.seq [(10, .bool)] [0, 1] (fun z_ => [(10, .bool z_.1), (0, .int .i64 n), (1, .int .i64 size)]) (fun z_ => bits_Up_s3 n size k z_.1) (by kernel_rfl) (fun _ => by kernel_rfl)
  (RefK.plain [2] (by kernel_rfl))
  (fun ⟨x10, _⟩ => RefK.cond (b := x10) (t1 := bits_Up_s2 k 0) (t2 := bits_Up_s1 n size k) (by kernel_rfl) (by kernel_rfl) (fun w h => brK_spec w h) (RefK.seq [(4, .int .i64)] [] (fun z_ => [(4, .int .i64 z_.1)]) (fun z_ => bits_Up_s2 k z_.1) (by kernel_rfl) (fun _ => by kernel_rfl)
  (RefK.plain [] (by kernel_rfl))
  (fun ⟨x4_1, _⟩ => RefK.ret (by kernel_rfl))) (RefK.skip (by kernel_rfl))))
  (fun _ => RefK.seq [(4, .int .i64)] [] (fun z_ => [(4, .int .i64 z_.1)]) (fun z_ => bits_Up_s0 k z_.1) (by kernel_rfl) (fun _ => by kernel_rfl)
  (RefK.plain [] (by kernel_rfl))
  (fun ⟨x4, _⟩ => RefK.ret (by kernel_rfl))))) hyp_
@[reducible] def ohead_Object_Encode_s0 (k : (Int → K)) (x4 : Int) : K :=
  k x4
@[reducible] def ohead_Object_Encode_s1 (at_1 : Int) (k : (Int → K)) (n_1 : Int) : K :=
  c_crc_Seal (IntKind.wrap .u32 n_1) at_1 fun x21 =>
  ohead_Object_Encode_s0 k x21
@[reducible] def ohead_Object_Encode_s2 (at_1 : Int) (k : (Int → K)) (o_1 : Addr) (n : Int) : K :=
  ldI .i64 (Addr.add o_1 1) fun x15 =>
  c_bits_Put n 14 15 (IntKind.wrap .u64 x15) fun x17 =>
  ohead_Object_Encode_s1 at_1 k x17
@[reducible] def ohead_Object_Encode_s3 (at_1 : Int) (k : (Int → K)) (o_1 : Addr) : K :=
  ldI .i64 (Addr.add o_1 0) fun x10 =>
  c_bits_Put 165 8 6 (IntKind.wrap .u64 x10) fun x12 =>
  ohead_Object_Encode_s2 at_1 k o_1 x12
@[reducible] def ohead_Object_Encode_s4 (k : (Int → K)) (x4_1 : Int) : K :=
  k x4_1
@[reducible] def ohead_Object_Encode_s5 (at_1 : Int) (k : (Int → K)) (o_1 : Addr) (x8 : Bool) : K :=
  brK x8
  (ohead_Object_Encode_s4 k 0)
  (ohead_Object_Encode_s3 at_1 k o_1)
@[reducible] def ohead_Object_Encode_s6 (at_1 : Int) (k : (Int → K)) (o_1 : Addr) : K :=
  ldI .i64 (Addr.add o_1 0) fun x6_0 =>
  ldI .i64 (Addr.add o_1 1) fun x6_1 =>
  c_ohead_Object_Size (x6_0, x6_1) fun x7 =>
  ohead_Object_Encode_s5 at_1 k o_1 (x7 == 0)
@[reducible] def ohead_Object_Encode (o : (Int × Int)) (at_1 : Int) : M Int := fun k =>
  alK (.cells #[.int .i64 o.1, .int .i64 o.2] 68) fun b =>
  ohead_Object_Encode_s6 at_1 k ⟨b, 0, none⟩
theorem ohead_Object_Encode_ok (o : (Int × Int)) (at_1 : Int) (k : Int → K) (w : World) (hyp_ : ohead_Object_Encode o at_1 k w) : c_ohead_Object_Encode o at_1 k w :=
  cl_of (P := Tryz.prog) Tryz.func154 rfl (by kernel_rfl)
  (RefK.seq [(2, .addr)] [1] (fun z_ => [(2, .pointer (some z_.1)), (1, .int .i64 at_1)]) (fun z_ => ohead_Object_Encode_s6 at_1 k z_.1) (by kernel_rfl) (fun _ => by kernel_rfl)
  (RefK.plain [] (by kernel_rfl))
  (fun ⟨o_1, _⟩ => RefK.seq [] [1, 2] (fun z_ => [(1, .int .i64 at_1), (2, .pointer (some o_1))]) (fun z_ => ohead_Object_Encode_s3 at_1 k o_1) (by kernel_rfl) (fun _ => by kernel_rfl)
  (RefK.seq [(8, .bool)] [1, 2] (fun z_ => [(8, .bool z_.1), (1, .int .i64 at_1), (2, .pointer (some o_1))]) (fun z_ => ohead_Object_Encode_s5 at_1 k o_1 z_.1) (by kernel_rfl) (fun _ => by kernel_rfl)
  (RefK.plain [] (by kernel_rfl))
  (fun ⟨x8, _⟩ => RefK.cond (b := x8) (t1 := ohead_Object_Encode_s4 k 0) (t2 := ohead_Object_Encode_s3 at_1 k o_1) (by kernel_rfl) (by kernel_rfl) (fun w h => brK_spec w h) (RefK.seq [(4, .int .u64)] [] (fun z_ => [(4, .int .u64 z_.1)]) (fun z_ => ohead_Object_Encode_s4 k z_.1) (by kernel_rfl) (fun _ => by kernel_rfl)
  (RefK.plain [] (by kernel_rfl))
  (fun ⟨x4_1, _⟩ => RefK.ret (by kernel_rfl))) (RefK.skip (by kernel_rfl))))
  (fun _ => RefK.seq [(5, .int .u64)] [1, 2] (fun z_ => [(5, .int .u64 z_.1), (1, .int .i64 at_1), (2, .pointer (some o_1))]) (fun z_ => ohead_Object_Encode_s2 at_1 k o_1 z_.1) (by kernel_rfl) (fun _ => by kernel_rfl)
  (RefK.plain [] (by kernel_rfl))
  (fun ⟨n, _⟩ => RefK.seq [(5, .int .u64)] [1] (fun z_ => [(5, .int .u64 z_.1), (1, .int .i64 at_1)]) (fun z_ => ohead_Object_Encode_s1 at_1 k z_.1) (by kernel_rfl) (fun _ => by kernel_rfl)
  (RefK.plain [] (by kernel_rfl))
  (fun ⟨n_1, _⟩ => RefK.seq [(4, .int .u64)] [] (fun z_ => [(4, .int .u64 z_.1)]) (fun z_ => ohead_Object_Encode_s0 k z_.1) (by kernel_rfl) (fun _ => by kernel_rfl)
  (RefK.plain [] (by kernel_rfl))
  (fun ⟨x4, _⟩ => RefK.ret (by kernel_rfl))))))) hyp_
@[reducible] def class_sizes_s0 (k : ((List Value) → K)) (x0 : Addr) : K :=
  ldBlob x0 32 fun x0_1 =>
  k x0_1
@[reducible] def class_sizes_s1 (k : ((List Value) → K)) (x0 : Addr) : K :=
  stK (Addr.add x0 0) (.int .i64 2) <|
  stK (Addr.add x0 1) (.int .i64 3) <|
  stK (Addr.add x0 2) (.int .i64 4) <|
  stK (Addr.add x0 3) (.int .i64 5) <|
  stK (Addr.add x0 4) (.int .i64 6) <|
  stK (Addr.add x0 5) (.int .i64 7) <|
  stK (Addr.add x0 6) (.int .i64 8) <|
  stK (Addr.add x0 7) (.int .i64 10) <|
  stK (Addr.add x0 8) (.int .i64 12) <|
  stK (Addr.add x0 9) (.int .i64 14) <|
  stK (Addr.add x0 10) (.int .i64 16) <|
  stK (Addr.add x0 11) (.int .i64 18) <|
  stK (Addr.add x0 12) (.int .i64 20) <|
  stK (Addr.add x0 13) (.int .i64 24) <|
  stK (Addr.add x0 14) (.int .i64 28) <|
  stK (Addr.add x0 15) (.int .i64 32) <|
  stK (Addr.add x0 16) (.int .i64 36) <|
  stK (Addr.add x0 17) (.int .i64 40) <|
  stK (Addr.add x0 18) (.int .i64 46) <|
  stK (Addr.add x0 19) (.int .i64 51) <|
  stK (Addr.add x0 20) (.int .i64 56) <|
  stK (Addr.add x0 21) (.int .i64 64) <|
  stK (Addr.add x0 22) (.int .i64 73) <|
  stK (Addr.add x0 23) (.int .i64 85) <|
  stK (Addr.add x0 24) (.int .i64 92) <|
  stK (Addr.add x0 25) (.int .i64 102) <|
  stK (Addr.add x0 26) (.int .i64 113) <|
  stK (Addr.add x0 27) (.int .i64 128) <|
  stK (Addr.add x0 28) (.int .i64 146) <|
  stK (Addr.add x0 29) (.int .i64 170) <|
  stK (Addr.add x0 30) (.int .i64 204) <|
  stK (Addr.add x0 31) (.int .i64 256) <|
  class_sizes_s0 k x0
@[reducible] def class_sizes : M (List Value) := fun k =>
  alK (.cells #[.int .i64 0, .int .i64 0, .int .i64 0, .int .i64 0, .int .i64 0, .int .i64 0, .int .i64 0, .int .i64 0, .int .i64 0, .int .i64 0, .int .i64 0, .int .i64 0, .int .i64 0, .int .i64 0, .int .i64 0, .int .i64 0, .int .i64 0, .int .i64 0, .int .i64 0, .int .i64 0, .int .i64 0, .int .i64 0, .int .i64 0, .int .i64 0, .int .i64 0, .int .i64 0, .int .i64 0, .int .i64 0, .int .i64 0, .int .i64 0, .int .i64 0, .int .i64 0] 206) fun b =>
  class_sizes_s1 k ⟨b, 0, none⟩
theorem class_sizes_ok (k : (List Value) → K) (w : World) (hyp_ : class_sizes k w) : c_class_sizes k w :=
  cl_of (P := Tryz.prog) Tryz.func155 rfl (by kernel_rfl)
  (RefK.seq [(0, .addr)] [] (fun z_ => [(0, .pointer (some z_.1))]) (fun z_ => class_sizes_s1 k z_.1) (by kernel_rfl) (fun _ => by kernel_rfl)
  (RefK.plain [] (by kernel_rfl))
  (fun ⟨x0, _⟩ => RefK.seq [] [0] (fun z_ => [(0, .pointer (some x0))]) (fun z_ => class_sizes_s0 k x0) (by kernel_rfl) (fun _ => by kernel_rfl)
  (RefK.plain [] (by kernel_rfl))
  (fun _ => RefK.ret (by kernel_rfl)))) hyp_
@[reducible] def bhead_Decode_s0 (k : (((Int × (Int × Int)) × Int) → K)) (x4 : Addr) (x5 : Int) : K :=
  ldI .i64 (Addr.add x4 0) fun x4_0 =>
  ldI .i64 (Addr.add x4 1) fun x4_1 =>
  ldI .i64 (Addr.add x4 2) fun x4_2 =>
  k ((x4_0, (x4_1, x4_2)), x5)
@[reducible] def bhead_Decode_s1 (k : (((Int × (Int × Int)) × Int) → K)) (x4 : Addr) (h : Addr) : K :=
  ldI .i64 (Addr.add h 0) fun x38_0 =>
  ldI .i64 (Addr.add h 1) fun x38_1 =>
  ldI .i64 (Addr.add h 2) fun x38_2 =>
  stK (Addr.add x4 0) (.int .i64 x38_0) <|
  stK (Addr.add x4 1) (.int .i64 x38_1) <|
  stK (Addr.add x4 2) (.int .i64 x38_2) <|
  bhead_Decode_s0 k x4 0
@[reducible] def bhead_Decode_s2 (k : (((Int × (Int × Int)) × Int) → K)) (x4 : Addr) (x5_1 : Int) : K :=
  ldI .i64 (Addr.add x4 0) fun x4_0_1 =>
  ldI .i64 (Addr.add x4 1) fun x4_1_1 =>
  ldI .i64 (Addr.add x4 2) fun x4_2_1 =>
  k ((x4_0_1, (x4_1_1, x4_2_1)), x5_1)
@[reducible] def bhead_Decode_s3 (k : (((Int × (Int × Int)) × Int) → K)) (x4 : Addr) : K :=
  stK (Addr.add x4 0) (.int .i64 0) <|
  stK (Addr.add x4 1) (.int .i64 0) <|
  stK (Addr.add x4 2) (.int .i64 0) <|
  bhead_Decode_s2 k x4 26
@[reducible] def bhead_Decode_s4 (k : (((Int × (Int × Int)) × Int) → K)) (x4 : Addr) (h : Addr) (x36 : Bool) : K :=
  brK x36
  (bhead_Decode_s3 k x4)
  (bhead_Decode_s1 k x4 h)
@[reducible] def bhead_Decode_s5 (block : Int) (w_1 : Int) (k : (((Int × (Int × Int)) × Int) → K)) (x4 : Addr) (h : Addr) : K :=
  ldI .i64 (Addr.add h 0) fun x33_0 =>
  ldI .i64 (Addr.add h 1) fun x33_1 =>
  ldI .i64 (Addr.add h 2) fun x33_2 =>
  c_bhead_Encode block (x33_0, (x33_1, x33_2)) fun x34 =>
  bhead_Decode_s4 k x4 h (x34 != w_1)
@[reducible] def bhead_Decode_s6 (block : Int) (w_1 : Int) (k : (((Int × (Int × Int)) × Int) → K)) (x4 : Addr) (x : Int) : K :=
  c_bits_Get x 0 2 fun x23 =>
  c_bits_Get x 2 6 fun x26 =>
  c_bits_Get x 8 16 fun x29 =>
  alK (.cells #[.int .i64 0, .int .i64 0, .int .i64 0] 143) fun b =>
  stK (Addr.add ⟨b, 0, none⟩ 0) (.int .i64 (IntKind.wrap .i64 x23)) <|
  stK (Addr.add ⟨b, 0, none⟩ 1) (.int .i64 (IntKind.wrap .i64 x26)) <|
  stK (Addr.add ⟨b, 0, none⟩ 2) (.int .i64 (IntKind.wrap .i64 x29)) <|
  bhead_Decode_s5 block w_1 k x4 ⟨b, 0, none⟩
@[reducible] def bhead_Decode_s7 (k : (((Int × (Int × Int)) × Int) → K)) (x4 : Addr) (x5_2 : Int) : K :=
  ldI .i64 (Addr.add x4 0) fun x4_0_2 =>
  ldI .i64 (Addr.add x4 1) fun x4_1_2 =>
  ldI .i64 (Addr.add x4 2) fun x4_2_2 =>
  k ((x4_0_2, (x4_1_2, x4_2_2)), x5_2)
@[reducible] def bhead_Decode_s8 (k : (((Int × (Int × Int)) × Int) → K)) (x4 : Addr) : K :=
  stK (Addr.add x4 0) (.int .i64 0) <|
  stK (Addr.add x4 1) (.int .i64 0) <|
  stK (Addr.add x4 2) (.int .i64 0) <|
  bhead_Decode_s7 k x4 25
@[reducible] def bhead_Decode_s9 (block : Int) (w_1 : Int) (k : (((Int × (Int × Int)) × Int) → K)) (x4 : Addr) (n : Int) (x18 : Bool) : K :=
  brK x18
  (bhead_Decode_s8 k x4)
  (bhead_Decode_s6 block w_1 k x4 (IntKind.wrap .u64 n))
@[reducible] def bhead_Decode_s10 (block : Int) (w_1 : Int) (k : (((Int × (Int × Int)) × Int) → K)) (x4 : Addr) (n : Int) (ok : Bool) : K :=
  bhead_Decode_s9 block w_1 k x4 n (!ok)
@[reducible] def bhead_Decode_s11 (block : Int) (w_1 : Int) (k : (((Int × (Int × Int)) × Int) → K)) (x4 : Addr) : K :=
  c_crc_Open w_1 (IntKind.wrap .i64 (256 + block)) fun x14 =>
  bhead_Decode_s10 block w_1 k x4 x14.1 x14.2
@[reducible] def bhead_Decode (block : Int) (w_1 : Int) : M ((Int × (Int × Int)) × Int) := fun k =>
  alK (.cells #[.int .i64 0, .int .i64 0, .int .i64 0] 143) fun b_1 =>
  bhead_Decode_s11 block w_1 k ⟨b_1, 0, none⟩
theorem bhead_Decode_ok (block : Int) (w_1 : Int) (k : ((Int × (Int × Int)) × Int) → K) (w : World) (hyp_ : bhead_Decode block w_1 k w) : c_bhead_Decode block w_1 k w :=
  cl_of (P := Tryz.prog) Tryz.func164 rfl (by kernel_rfl)
  (RefK.seq [(4, .addr)] [0, 1] (fun z_ => [(4, .pointer (some z_.1)), (0, .int .i64 block), (1, .int .u64 w_1)]) (fun z_ => bhead_Decode_s11 block w_1 k z_.1) (by kernel_rfl) (fun _ => by kernel_rfl)
  (RefK.plain [] (by kernel_rfl))
  (fun ⟨x4, _⟩ => RefK.seq [(6, .int .u32), (7, .bool)] [0, 1, 4] (fun z_ => [(6, .int .u32 z_.1), (7, .bool z_.2.1), (0, .int .i64 block), (1, .int .u64 w_1), (4, .pointer (some x4))]) (fun z_ => bhead_Decode_s10 block w_1 k x4 z_.1 z_.2.1) (by kernel_rfl) (fun _ => by kernel_rfl)
  (RefK.plain [] (by kernel_rfl))
  (fun ⟨n, ok, _⟩ => RefK.seq [] [0, 1, 4, 6] (fun z_ => [(0, .int .i64 block), (1, .int .u64 w_1), (4, .pointer (some x4)), (6, .int .u32 n)]) (fun z_ => bhead_Decode_s6 block w_1 k x4 (IntKind.wrap .u64 n)) (by kernel_rfl) (fun _ => by kernel_rfl)
  (RefK.seq [(18, .bool)] [0, 1, 4, 6] (fun z_ => [(18, .bool z_.1), (0, .int .i64 block), (1, .int .u64 w_1), (4, .pointer (some x4)), (6, .int .u32 n)]) (fun z_ => bhead_Decode_s9 block w_1 k x4 n z_.1) (by kernel_rfl) (fun _ => by kernel_rfl)
  (RefK.plain [] (by kernel_rfl))
  (fun ⟨x18, _⟩ => RefK.cond (b := x18) (t1 := bhead_Decode_s8 k x4) (t2 := bhead_Decode_s6 block w_1 k x4 (IntKind.wrap .u64 n)) (by kernel_rfl) (by kernel_rfl) (fun w h => brK_spec w h) (RefK.seq [(5, .int .i64)] [4] (fun z_ => [(5, .int .i64 z_.1), (4, .pointer (some x4))]) (fun z_ => bhead_Decode_s7 k x4 z_.1) (by kernel_rfl) (fun _ => by kernel_rfl)
  (RefK.plain [] (by kernel_rfl))
  (fun ⟨x5_2, _⟩ => RefK.ret (by kernel_rfl))) (RefK.skip (by kernel_rfl))))
  (fun _ => RefK.seq [(8, .int .u64)] [0, 1, 4] (fun z_ => [(8, .int .u64 z_.1), (0, .int .i64 block), (1, .int .u64 w_1), (4, .pointer (some x4))]) (fun z_ => bhead_Decode_s6 block w_1 k x4 z_.1) (by kernel_rfl) (fun _ => by kernel_rfl)
  (RefK.plain [] (by kernel_rfl))
  (fun ⟨x, _⟩ => RefK.seq [(9, .addr)] [0, 1, 4] (fun z_ => [(9, .pointer (some z_.1)), (0, .int .i64 block), (1, .int .u64 w_1), (4, .pointer (some x4))]) (fun z_ => bhead_Decode_s5 block w_1 k x4 z_.1) (by kernel_rfl) (fun _ => by kernel_rfl)
  (RefK.plain [] (by kernel_rfl))
  (fun ⟨h, _⟩ => RefK.seq [] [4, 9] (fun z_ => [(4, .pointer (some x4)), (9, .pointer (some h))]) (fun z_ => bhead_Decode_s1 k x4 h) (by kernel_rfl) (fun _ => by kernel_rfl)
  (RefK.seq [(36, .bool)] [4, 9] (fun z_ => [(36, .bool z_.1), (4, .pointer (some x4)), (9, .pointer (some h))]) (fun z_ => bhead_Decode_s4 k x4 h z_.1) (by kernel_rfl) (fun _ => by kernel_rfl)
  (RefK.plain [] (by kernel_rfl))
  (fun ⟨x36, _⟩ => RefK.cond (b := x36) (t1 := bhead_Decode_s3 k x4) (t2 := bhead_Decode_s1 k x4 h) (by kernel_rfl) (by kernel_rfl) (fun w h => brK_spec w h) (RefK.seq [(5, .int .i64)] [4] (fun z_ => [(5, .int .i64 z_.1), (4, .pointer (some x4))]) (fun z_ => bhead_Decode_s2 k x4 z_.1) (by kernel_rfl) (fun _ => by kernel_rfl)
  (RefK.plain [] (by kernel_rfl))
  (fun ⟨x5_1, _⟩ => RefK.ret (by kernel_rfl))) (RefK.skip (by kernel_rfl))))
  (fun _ => RefK.seq [(5, .int .i64)] [4] (fun z_ => [(5, .int .i64 z_.1), (4, .pointer (some x4))]) (fun z_ => bhead_Decode_s0 k x4 z_.1) (by kernel_rfl) (fun _ => by kernel_rfl)
  (RefK.plain [] (by kernel_rfl))
  (fun ⟨x5, _⟩ => RefK.ret (by kernel_rfl))))))))) hyp_
@[reducible] def geom_Geometry_Header_s0 (k : (Int → K)) (x4 : Int) : K :=
  k x4
@[reducible] def geom_Geometry_Header_s1 (k : (Int → K)) (x4_1 : Int) : K :=
  k x4_1
@[reducible] def geom_Geometry_Header_s2 (block : Int) (k : (Int → K)) (x12 : Bool) : K :=
  brK x12
  (geom_Geometry_Header_s1 k (-1))
  (geom_Geometry_Header_s0 k (IntKind.wrap .i64 (256 + block)))
@[reducible] def geom_Geometry_Header_s3 (block : Int) (k : (Int → K)) (g_1 : Addr) : K :=
  brK (decide (block < 1))
  (geom_Geometry_Header_s2 block k true)
  (ldI .i64 (Addr.add g_1 0) fun x10 =>
  geom_Geometry_Header_s2 block k (decide (block ≥ x10)))
@[reducible] def geom_Geometry_Header (g : Int) (block : Int) : M Int := fun k =>
  alK (.cells #[.int .i64 g] 43) fun b =>
  geom_Geometry_Header_s3 block k ⟨b, 0, none⟩
theorem geom_Geometry_Header_ok (g : Int) (block : Int) (k : Int → K) (w : World) (hyp_ : geom_Geometry_Header g block k w) : c_geom_Geometry_Header g block k w :=
  cl_of (P := Tryz.prog) Tryz.func165 rfl (by kernel_rfl)
  (RefK.seq [(2, .addr)] [1] (fun z_ => [(2, .pointer (some z_.1)), (1, .int .i64 block)]) (fun z_ => geom_Geometry_Header_s3 block k z_.1) (by kernel_rfl) (fun _ => by kernel_rfl)
  (RefK.plain [] (by kernel_rfl))
  (fun ⟨g_1, _⟩ => RefK.seq [] [1] (fun z_ => [(1, .int .i64 block)]) (fun z_ => geom_Geometry_Header_s0 k (IntKind.wrap .i64 (256 + block))) (by kernel_rfl) (fun _ => by kernel_rfl)
  (RefK.seq [(12, .bool)] [1] (fun z_ => [(12, .bool z_.1), (1, .int .i64 block)]) (fun z_ => geom_Geometry_Header_s2 block k z_.1) (by kernel_rfl) (fun _ => by kernel_rfl)
  (RefK.plain [2] (by kernel_rfl))
  (fun ⟨x12, _⟩ => RefK.cond (b := x12) (t1 := geom_Geometry_Header_s1 k (-1)) (t2 := geom_Geometry_Header_s0 k (IntKind.wrap .i64 (256 + block))) (by kernel_rfl) (by kernel_rfl) (fun w h => brK_spec w h) (RefK.seq [(4, .int .i64)] [] (fun z_ => [(4, .int .i64 z_.1)]) (fun z_ => geom_Geometry_Header_s1 k z_.1) (by kernel_rfl) (fun _ => by kernel_rfl)
  (RefK.plain [] (by kernel_rfl))
  (fun ⟨x4_1, _⟩ => RefK.ret (by kernel_rfl))) (RefK.skip (by kernel_rfl))))
  (fun _ => RefK.seq [(4, .int .i64)] [] (fun z_ => [(4, .int .i64 z_.1)]) (fun z_ => geom_Geometry_Header_s0 k z_.1) (by kernel_rfl) (fun _ => by kernel_rfl)
  (RefK.plain [] (by kernel_rfl))
  (fun ⟨x4, _⟩ => RefK.ret (by kernel_rfl))))) hyp_
@[reducible] def crc_Open_s0 (k : ((Int × Bool) → K)) (x4 : Int) (x5 : Bool) : K :=
  k (x4, x5)
@[reducible] def crc_Open_s1 (k : ((Int × Bool) → K)) (x4_1 : Int) (x5_1 : Bool) : K :=
  k (x4_1, x5_1)
@[reducible] def crc_Open_s2 (k : ((Int × Bool) → K)) (n : Int) (x13 : Bool) : K :=
  brK x13
  (crc_Open_s1 k 0 false)
  (crc_Open_s0 k n true)
@[reducible] def crc_Open_s3 (w_1 : Int) (place : Int) (k : ((Int × Bool) → K)) (n : Int) : K :=
  c_crc_Seal n place fun x11 =>
  crc_Open_s2 k n (x11 != w_1)
@[reducible] def crc_Open (w_1 : Int) (place : Int) : M (Int × Bool) := fun k =>
  crc_Open_s3 w_1 place k (IntKind.wrap .u32 w_1)
theorem crc_Open_ok (w_1 : Int) (place : Int) (k : (Int × Bool) → K) (w : World) (hyp_ : crc_Open w_1 place k w) : c_crc_Open w_1 place k w :=
  cl_of (P := Tryz.prog) Tryz.func172 rfl (by kernel_rfl)
  (RefK.seq [] [0, 1] (fun z_ => [(0, .int .u64 w_1), (1, .int .i64 place)]) (fun z_ => crc_Open_s3 w_1 place k (IntKind.wrap .u32 w_1)) (by kernel_rfl) (fun _ => by kernel_rfl)
  (RefK.plain [] (by kernel_rfl))
  (fun _ => RefK.seq [(6, .int .u32)] [0, 1] (fun z_ => [(6, .int .u32 z_.1), (0, .int .u64 w_1), (1, .int .i64 place)]) (fun z_ => crc_Open_s3 w_1 place k z_.1) (by kernel_rfl) (fun _ => by kernel_rfl)
  (RefK.plain [] (by kernel_rfl))
  (fun ⟨n, _⟩ => RefK.seq [] [6] (fun z_ => [(6, .int .u32 n)]) (fun z_ => crc_Open_s0 k n true) (by kernel_rfl) (fun _ => by kernel_rfl)
  (RefK.seq [(13, .bool)] [6] (fun z_ => [(13, .bool z_.1), (6, .int .u32 n)]) (fun z_ => crc_Open_s2 k n z_.1) (by kernel_rfl) (fun _ => by kernel_rfl)
  (RefK.plain [] (by kernel_rfl))
  (fun ⟨x13, _⟩ => RefK.cond (b := x13) (t1 := crc_Open_s1 k 0 false) (t2 := crc_Open_s0 k n true) (by kernel_rfl) (by kernel_rfl) (fun w h => brK_spec w h) (RefK.seq [(4, .int .u32), (5, .bool)] [] (fun z_ => [(4, .int .u32 z_.1), (5, .bool z_.2.1)]) (fun z_ => crc_Open_s1 k z_.1 z_.2.1) (by kernel_rfl) (fun _ => by kernel_rfl)
  (RefK.plain [] (by kernel_rfl))
  (fun ⟨x4_1, x5_1, _⟩ => RefK.ret (by kernel_rfl))) (RefK.skip (by kernel_rfl))))
  (fun _ => RefK.seq [(4, .int .u32), (5, .bool)] [] (fun z_ => [(4, .int .u32 z_.1), (5, .bool z_.2.1)]) (fun z_ => crc_Open_s0 k z_.1 z_.2.1) (by kernel_rfl) (fun _ => by kernel_rfl)
  (RefK.plain [] (by kernel_rfl))
  (fun ⟨x4, x5, _⟩ => RefK.ret (by kernel_rfl)))))) hyp_
@[reducible] def bits_Get_s0 (k : (Int → K)) (x6 : Int) : K :=
  k x6
@[reducible] def bits_Get_s1 (w_1 : Int) (at_1 : Int) (width : Int) (k : (Int → K)) : K :=
  nneg (IntKind.wrap .u64 at_1) <|
  c_bits_mask width fun x18 =>
  bits_Get_s0 k (bitI .and .u64 (shrI .u64 w_1 (IntKind.wrap .u64 at_1)) x18)
@[reducible] def bits_Get_s2 (k : (Int → K)) (x6_1 : Int) : K :=
  k x6_1
@[reducible] def bits_Get_s3 (w_1 : Int) (at_1 : Int) (width : Int) (k : (Int → K)) (x12 : Bool) : K :=
  brK x12
  (bits_Get_s2 k 0)
  (bits_Get_s1 w_1 at_1 width k)
@[reducible] def bits_Get_s4 (w_1 : Int) (at_1 : Int) (width : Int) (k : (Int → K)) : K :=
  brK (decide (at_1 < 0))
  (bits_Get_s3 w_1 at_1 width k true)
  (bits_Get_s3 w_1 at_1 width k (decide (at_1 ≥ 64)))
@[reducible] def bits_Get (w_1 : Int) (at_1 : Int) (width : Int) : M Int := fun k =>
  bits_Get_s4 w_1 at_1 width k
theorem bits_Get_ok (w_1 : Int) (at_1 : Int) (width : Int) (k : Int → K) (w : World) (hyp_ : bits_Get w_1 at_1 width k w) : c_bits_Get w_1 at_1 width k w :=
  cl_of (P := Tryz.prog) Tryz.func173 rfl (by kernel_rfl)
  (RefK.seq [] [0, 1, 2] (fun z_ => [(0, .int .u64 w_1), (1, .int .i64 at_1), (2, .int .i64 width)]) (fun z_ => bits_Get_s4 w_1 at_1 width k) (by kernel_rfl) (fun _ => by kernel_rfl)
  (RefK.plain [] (by kernel_rfl))
  (fun _ => RefK.seq [] [0, 1, 2] (fun z_ => [(0, .int .u64 w_1), (1, .int .i64 at_1), (2, .int .i64 width)]) (fun z_ => bits_Get_s1 w_1 at_1 width k) (by kernel_rfl) (fun _ => by kernel_rfl)
  (RefK.seq [(12, .bool)] [0, 1, 2] (fun z_ => [(12, .bool z_.1), (0, .int .u64 w_1), (1, .int .i64 at_1), (2, .int .i64 width)]) (fun z_ => bits_Get_s3 w_1 at_1 width k z_.1) (by kernel_rfl) (fun _ => by kernel_rfl)
  (RefK.plain [2] (by kernel_rfl))
  (fun ⟨x12, _⟩ => RefK.cond (b := x12) (t1 := bits_Get_s2 k 0) (t2 := bits_Get_s1 w_1 at_1 width k) (by kernel_rfl) (by kernel_rfl) (fun w h => brK_spec w h) (RefK.seq [(6, .int .u64)] [] (fun z_ => [(6, .int .u64 z_.1)]) (fun z_ => bits_Get_s2 k z_.1) (by kernel_rfl) (fun _ => by kernel_rfl)
  (RefK.plain [] (by kernel_rfl))
  (fun ⟨x6_1, _⟩ => RefK.ret (by kernel_rfl))) (RefK.skip (by kernel_rfl))))
  (fun _ => RefK.seq [(6, .int .u64)] [] (fun z_ => [(6, .int .u64 z_.1)]) (fun z_ => bits_Get_s0 k z_.1) (by kernel_rfl) (fun _ => by kernel_rfl)
  (RefK.plain [] (by kernel_rfl))
  (fun ⟨x6, _⟩ => RefK.ret (by kernel_rfl))))) hyp_
@[reducible] def geom_Geometry_Data_s0 (k : (Bool → K)) (x4 : Bool) : K :=
  k x4
@[reducible] def geom_Geometry_Data_s1 (at_1 : Int) (k : (Bool → K)) (g_1 : Addr) : K :=
  ldI .i64 (Addr.add g_1 0) fun x5_0 =>
  c_geom_Geometry_BlockOf x5_0 at_1 fun x7 =>
  geom_Geometry_Data_s0 k (decide (x7 ≥ 1))
@[reducible] def geom_Geometry_Data (g : Int) (at_1 : Int) : M Bool := fun k =>
  alK (.cells #[.int .i64 g] 43) fun b =>
  geom_Geometry_Data_s1 at_1 k ⟨b, 0, none⟩
theorem geom_Geometry_Data_ok (g : Int) (at_1 : Int) (k : Bool → K) (w : World) (hyp_ : geom_Geometry_Data g at_1 k w) : c_geom_Geometry_Data g at_1 k w :=
  cl_of (P := Tryz.prog) Tryz.func174 rfl (by kernel_rfl)
  (RefK.seq [(2, .addr)] [1] (fun z_ => [(2, .pointer (some z_.1)), (1, .int .i64 at_1)]) (fun z_ => geom_Geometry_Data_s1 at_1 k z_.1) (by kernel_rfl) (fun _ => by kernel_rfl)
  (RefK.plain [] (by kernel_rfl))
  (fun ⟨g_1, _⟩ => RefK.seq [(4, .bool)] [] (fun z_ => [(4, .bool z_.1)]) (fun z_ => geom_Geometry_Data_s0 k z_.1) (by kernel_rfl) (fun _ => by kernel_rfl)
  (RefK.plain [] (by kernel_rfl))
  (fun ⟨x4, _⟩ => RefK.ret (by kernel_rfl)))) hyp_
@[reducible] def cells_Address_s0 (k : (Int → K)) (x6 : Int) : K :=
  k x6
@[reducible] def cells_Address_s1 (k_1 : Int) (k : (Int → K)) (g_1 : Addr) (c_1 : Addr) : K :=
  tick fun _ =>
  ldI .i64 (Addr.add g_1 0) fun x34_0 =>
  ldI .i64 (Addr.add c_1 0) fun x36 =>
  ldI .i64 (Addr.add c_1 1) fun x39 =>
  c_geom_Geometry_First x34_0 x36 fun x37 =>
  chk [.cell (Addr.add c_1 1) (.int .i64 x39)] fun _ =>
  c_class_Words k_1 fun x41 =>
  chk [.cell (Addr.add c_1 1) (.int .i64 x39)] fun _ =>
  cells_Address_s0 k (IntKind.wrap .i64 (x37 + (IntKind.wrap .i64 (x39 * x41))))
@[reducible] def cells_Address_s2 (k : (Int → K)) (x6_1 : Int) : K :=
  k x6_1
@[reducible] def cells_Address_s3 (k_1 : Int) (k : (Int → K)) (g_1 : Addr) (c_1 : Addr) (x33 : Bool) : K :=
  brK x33
  (cells_Address_s2 k (-1))
  (cells_Address_s1 k_1 k g_1 c_1)
@[reducible] def cells_Address_s4 (k_1 : Int) (k : (Int → K)) (g_1 : Addr) (c_1 : Addr) : K :=
  tick fun _ =>
  c_class_Right k_1 fun x8 =>
  brK (!x8)
  (cells_Address_s3 k_1 k g_1 c_1 true)
  (ldI .i64 (Addr.add c_1 0) fun x12 =>
  brK (decide (x12 < 1))
  (cells_Address_s3 k_1 k g_1 c_1 true)
  (ldI .i64 (Addr.add c_1 0) fun x17 =>
  ldI .i64 (Addr.add g_1 0) fun x19 =>
  brK (decide (x17 ≥ x19))
  (cells_Address_s3 k_1 k g_1 c_1 true)
  (ldI .i64 (Addr.add c_1 1) fun x24 =>
  brK (decide (x24 < 0))
  (cells_Address_s3 k_1 k g_1 c_1 true)
  (ldI .i64 (Addr.add c_1 1) fun x29 =>
  c_class_Cells k_1 fun x31 =>
  chk [.cell (Addr.add c_1 1) (.int .i64 x29)] fun _ =>
  cells_Address_s3 k_1 k g_1 c_1 (decide (x29 ≥ x31))))))
@[reducible] def cells_Address (g : Int) (k_1 : Int) (c : (Int × Int)) : M Int := fun k =>
  alK (.cells #[.int .i64 g] 43) fun b =>
  alK (.cells #[.int .i64 c.1, .int .i64 c.2] 168) fun b_1 =>
  cells_Address_s4 k_1 k ⟨b, 0, none⟩ ⟨b_1, 0, none⟩
theorem cells_Address_ok (g : Int) (k_1 : Int) (c : (Int × Int)) (k : Int → K) (w : World) (hyp_ : cells_Address g k_1 c k w) : c_cells_Address g k_1 c k w :=
  cl_of (P := Tryz.prog) Tryz.func175 rfl (by kernel_rfl)
  (RefK.seq [(3, .addr), (5, .addr)] [1] (fun z_ => [(3, .pointer (some z_.1)), (5, .pointer (some z_.2.1)), (1, .int .i64 k_1)]) (fun z_ => cells_Address_s4 k_1 k z_.1 z_.2.1) (by kernel_rfl) (fun _ => by kernel_rfl)
  (RefK.plain [] (by kernel_rfl))
  (fun ⟨g_1, c_1, _⟩ => RefK.seq [] [1, 3, 5] (fun z_ => [(1, .int .i64 k_1), (3, .pointer (some g_1)), (5, .pointer (some c_1))]) (fun z_ => cells_Address_s1 k_1 k g_1 c_1) (by kernel_rfl) (fun _ => by kernel_rfl)
  (RefK.seq [(33, .bool)] [1, 3, 5] (fun z_ => [(33, .bool z_.1), (1, .int .i64 k_1), (3, .pointer (some g_1)), (5, .pointer (some c_1))]) (fun z_ => cells_Address_s3 k_1 k g_1 c_1 z_.1) (by kernel_rfl) (fun _ => by kernel_rfl)
  (RefK.draw [3, 8, 15, 20] [0, 1, 3, 7, 15, 31, 63, 127, 255, 511, 1023, 511, 2559, 8191, 16383, 32767, 65535, 131071, 262143, 524287, 1048575, 2097151, 4194303, 2097151, 10485759, 33554431, 67108863] [0, 1, 2, 3, 4, 5, 6, 7, 8, 9, 10, 11, 12, 13, 14, 15, 16, 17, 18, 19, 20, 21, 22, 23, 24, 25, 26] [0, 1, 2, 3, 4, 5, 6, 7, 8, 9, 10, 11, 12, 13, 14, 15, 16, 17, 18, 19, 20, 21, 22, 23, 24, 25, 26] (by kernel_rfl) (by kernel_rfl))
  (fun ⟨x33, _⟩ => RefK.cond (b := x33) (t1 := cells_Address_s2 k (-1)) (t2 := cells_Address_s1 k_1 k g_1 c_1) (by kernel_rfl) (by kernel_rfl) (fun w h => brK_spec w h) (RefK.seq [(6, .int .i64)] [] (fun z_ => [(6, .int .i64 z_.1)]) (fun z_ => cells_Address_s2 k z_.1) (by kernel_rfl) (fun _ => by kernel_rfl)
  (RefK.plain [] (by kernel_rfl))
  (fun ⟨x6_1, _⟩ => RefK.ret (by kernel_rfl))) (RefK.skip (by kernel_rfl))))
  (fun _ => RefK.seq [(6, .int .i64)] [] (fun z_ => [(6, .int .i64 z_.1)]) (fun z_ => cells_Address_s0 k z_.1) (by kernel_rfl) (fun _ => by kernel_rfl)
  (RefK.draw [] [0, 0, 2, 7, 0, 16, 0, 79, 255, 511, 1023] [0, 1, 2, 4, 5, 6, 3, 7, 8, 9, 10] [0, 1, 2, 3, 4, 5, 6, 7, 8, 9, 10] (by kernel_rfl) (by kernel_rfl))
  (fun ⟨x6, _⟩ => RefK.ret (by kernel_rfl))))) hyp_
@[reducible] def bhead_Encode_s0 (k : (Int → K)) (x4 : Int) : K :=
  k x4
@[reducible] def bhead_Encode_s1 (block : Int) (k : (Int → K)) (n_2 : Int) : K :=
  c_crc_Seal (IntKind.wrap .u32 n_2) (IntKind.wrap .i64 (256 + block)) fun x27 =>
  bhead_Encode_s0 k x27
@[reducible] def bhead_Encode_s2 (block : Int) (k : (Int → K)) (h_1 : Addr) (n_1 : Int) : K :=
  ldI .i64 (Addr.add h_1 2) fun x20 =>
  c_bits_Put n_1 8 16 (IntKind.wrap .u64 x20) fun x22 =>
  bhead_Encode_s1 block k x22
@[reducible] def bhead_Encode_s3 (block : Int) (k : (Int → K)) (h_1 : Addr) (n : Int) : K :=
  ldI .i64 (Addr.add h_1 1) fun x15 =>
  c_bits_Put n 2 6 (IntKind.wrap .u64 x15) fun x17 =>
  bhead_Encode_s2 block k h_1 x17
@[reducible] def bhead_Encode_s4 (block : Int) (k : (Int → K)) (h_1 : Addr) : K :=
  ldI .i64 (Addr.add h_1 0) fun x10 =>
  c_bits_Put 0 0 2 (IntKind.wrap .u64 x10) fun x12 =>
  bhead_Encode_s3 block k h_1 x12
@[reducible] def bhead_Encode_s5 (k : (Int → K)) (x4_1 : Int) : K :=
  k x4_1
@[reducible] def bhead_Encode_s6 (block : Int) (k : (Int → K)) (h_1 : Addr) (x8 : Bool) : K :=
  brK x8
  (bhead_Encode_s5 k 0)
  (bhead_Encode_s4 block k h_1)
@[reducible] def bhead_Encode_s7 (block : Int) (k : (Int → K)) (h_1 : Addr) : K :=
  ldI .i64 (Addr.add h_1 0) fun x6_0 =>
  ldI .i64 (Addr.add h_1 1) fun x6_1 =>
  ldI .i64 (Addr.add h_1 2) fun x6_2 =>
  c_bhead_Header_Right (x6_0, (x6_1, x6_2)) fun x7 =>
  bhead_Encode_s6 block k h_1 (!x7)
@[reducible] def bhead_Encode (block : Int) (h : (Int × (Int × Int))) : M Int := fun k =>
  alK (.cells #[.int .i64 h.1, .int .i64 h.2.1, .int .i64 h.2.2] 143) fun b =>
  bhead_Encode_s7 block k ⟨b, 0, none⟩
theorem bhead_Encode_ok (block : Int) (h : (Int × (Int × Int))) (k : Int → K) (w : World) (hyp_ : bhead_Encode block h k w) : c_bhead_Encode block h k w :=
  cl_of (P := Tryz.prog) Tryz.func177 rfl (by kernel_rfl)
  (RefK.seq [(3, .addr)] [0] (fun z_ => [(3, .pointer (some z_.1)), (0, .int .i64 block)]) (fun z_ => bhead_Encode_s7 block k z_.1) (by kernel_rfl) (fun _ => by kernel_rfl)
  (RefK.plain [] (by kernel_rfl))
  (fun ⟨h_1, _⟩ => RefK.seq [] [0, 3] (fun z_ => [(0, .int .i64 block), (3, .pointer (some h_1))]) (fun z_ => bhead_Encode_s4 block k h_1) (by kernel_rfl) (fun _ => by kernel_rfl)
  (RefK.seq [(8, .bool)] [0, 3] (fun z_ => [(8, .bool z_.1), (0, .int .i64 block), (3, .pointer (some h_1))]) (fun z_ => bhead_Encode_s6 block k h_1 z_.1) (by kernel_rfl) (fun _ => by kernel_rfl)
  (RefK.plain [] (by kernel_rfl))
  (fun ⟨x8, _⟩ => RefK.cond (b := x8) (t1 := bhead_Encode_s5 k 0) (t2 := bhead_Encode_s4 block k h_1) (by kernel_rfl) (by kernel_rfl) (fun w h => brK_spec w h) (RefK.seq [(4, .int .u64)] [] (fun z_ => [(4, .int .u64 z_.1)]) (fun z_ => bhead_Encode_s5 k z_.1) (by kernel_rfl) (fun _ => by kernel_rfl)
  (RefK.plain [] (by kernel_rfl))
  (fun ⟨x4_1, _⟩ => RefK.ret (by kernel_rfl))) (RefK.skip (by kernel_rfl))))
  (fun _ => RefK.seq [(5, .int .u64)] [0, 3] (fun z_ => [(5, .int .u64 z_.1), (0, .int .i64 block), (3, .pointer (some h_1))]) (fun z_ => bhead_Encode_s3 block k h_1 z_.1) (by kernel_rfl) (fun _ => by kernel_rfl)
  (RefK.plain [] (by kernel_rfl))
  (fun ⟨n, _⟩ => RefK.seq [(5, .int .u64)] [0, 3] (fun z_ => [(5, .int .u64 z_.1), (0, .int .i64 block), (3, .pointer (some h_1))]) (fun z_ => bhead_Encode_s2 block k h_1 z_.1) (by kernel_rfl) (fun _ => by kernel_rfl)
  (RefK.plain [] (by kernel_rfl))
  (fun ⟨n_1, _⟩ => RefK.seq [(5, .int .u64)] [0] (fun z_ => [(5, .int .u64 z_.1), (0, .int .i64 block)]) (fun z_ => bhead_Encode_s1 block k z_.1) (by kernel_rfl) (fun _ => by kernel_rfl)
  (RefK.plain [] (by kernel_rfl))
  (fun ⟨n_2, _⟩ => RefK.seq [(4, .int .u64)] [] (fun z_ => [(4, .int .u64 z_.1)]) (fun z_ => bhead_Encode_s0 k z_.1) (by kernel_rfl) (fun _ => by kernel_rfl)
  (RefK.plain [] (by kernel_rfl))
  (fun ⟨x4, _⟩ => RefK.ret (by kernel_rfl)))))))) hyp_
@[reducible] def class_Most_s0 (k : (Int → K)) (x0 : Int) : K :=
  k x0
@[reducible] def class_Most_s1 (k : (Int → K)) : K :=
  c_class_Words 31 fun x1 =>
  class_Most_s0 k x1
@[reducible] def class_Most : M Int := fun k =>
  class_Most_s1 k
theorem class_Most_ok (k : Int → K) (w : World) (hyp_ : class_Most k w) : c_class_Most k w :=
  cl_of (P := Tryz.prog) Tryz.func194 rfl (by kernel_rfl)
  (RefK.seq [] [] (fun z_ => []) (fun z_ => class_Most_s1 k) (by kernel_rfl) (fun _ => by kernel_rfl)
  (RefK.plain [] (by kernel_rfl))
  (fun _ => RefK.seq [(0, .int .i64)] [] (fun z_ => [(0, .int .i64 z_.1)]) (fun z_ => class_Most_s0 k z_.1) (by kernel_rfl) (fun _ => by kernel_rfl)
  (RefK.plain [] (by kernel_rfl))
  (fun ⟨x0, _⟩ => RefK.ret (by kernel_rfl)))) hyp_
@[reducible] def bhead_Header_Right_s0 (k : (Bool → K)) (x2 : Bool) : K :=
  k x2
@[reducible] def bhead_Header_Right_s1 (k : (Bool → K)) (x2_1 : Bool) : K :=
  k x2_1
@[reducible] def bhead_Header_Right_s2 (k : (Bool → K)) (x2_2 : Bool) : K :=
  k x2_2
@[reducible] def bhead_Header_Right_s3 (k : (Bool → K)) (x2_3 : Bool) : K :=
  k x2_3
@[reducible] def bhead_Header_Right_s4 (k : (Bool → K)) (h_1 : Addr) : K :=
  ldI .i64 (Addr.add h_1 1) fun x24 =>
  brK (x24 == 0)
  (ldI .i64 (Addr.add h_1 2) fun x28 =>
  brK (decide (x28 ≥ 1))
  (ldI .i64 (Addr.add h_1 2) fun x33 =>
  bhead_Header_Right_s3 k (decide (x33 < 256)))
  (bhead_Header_Right_s3 k false))
  (bhead_Header_Right_s3 k false)
@[reducible] def bhead_Header_Right_s5 (k : (Bool → K)) (h_1 : Addr) (x20 : Bool) : K :=
  brK x20
  (bhead_Header_Right_s4 k h_1)
  (bhead_Header_Right_s0 k false)
@[reducible] def bhead_Header_Right_s6 (k : (Bool → K)) (h_1 : Addr) (x4 : Int) (x20_1 : Bool) : K :=
  brK x20_1
  (bhead_Header_Right_s5 k h_1 x20_1)
  (bhead_Header_Right_s5 k h_1 (x4 == 3))
@[reducible] def bhead_Header_Right_s7 (k : (Bool → K)) (h_1 : Addr) : K :=
  ldI .i64 (Addr.add h_1 1) fun x13 =>
  c_class_Right x13 fun x14 =>
  brK x14
  (ldI .i64 (Addr.add h_1 2) fun x17 =>
  bhead_Header_Right_s2 k (x17 == 0))
  (bhead_Header_Right_s2 k false)
@[reducible] def bhead_Header_Right_s8 (k : (Bool → K)) (h_1 : Addr) (x4 : Int) (x10 : Bool) : K :=
  brK x10
  (bhead_Header_Right_s7 k h_1)
  (bhead_Header_Right_s6 k h_1 x4 (x4 == 2))
@[reducible] def bhead_Header_Right_s9 (k : (Bool → K)) (h_1 : Addr) : K :=
  ldI .i64 (Addr.add h_1 0) fun x7_0 =>
  ldI .i64 (Addr.add h_1 1) fun x7_1 =>
  ldI .i64 (Addr.add h_1 2) fun x7_2 =>
  bhead_Header_Right_s1 k ((x7_0 == 0) && ((x7_1 == 0) && ((x7_2 == 0) && true)))
@[reducible] def bhead_Header_Right_s10 (k : (Bool → K)) (h_1 : Addr) (x4 : Int) (x5 : Bool) : K :=
  brK x5
  (bhead_Header_Right_s9 k h_1)
  (bhead_Header_Right_s8 k h_1 x4 (x4 == 1))
@[reducible] def bhead_Header_Right_s11 (k : (Bool → K)) (h_1 : Addr) (x4 : Int) : K :=
  bhead_Header_Right_s10 k h_1 x4 (x4 == 0)
@[reducible] def bhead_Header_Right_s12 (k : (Bool → K)) (h_1 : Addr) : K :=
  ldI .i64 (Addr.add h_1 0) fun x4_1 =>
  bhead_Header_Right_s11 k h_1 x4_1
@[reducible] def bhead_Header_Right (h : (Int × (Int × Int))) : M Bool := fun k =>
  alK (.cells #[.int .i64 h.1, .int .i64 h.2.1, .int .i64 h.2.2] 143) fun b =>
  bhead_Header_Right_s12 k ⟨b, 0, none⟩
theorem bhead_Header_Right_ok (h : (Int × (Int × Int))) (k : Bool → K) (w : World) (hyp_ : bhead_Header_Right h k w) : c_bhead_Header_Right h k w :=
  cl_of (P := Tryz.prog) Tryz.func195 rfl (by kernel_rfl)
  (RefK.seq [(1, .addr)] [] (fun z_ => [(1, .pointer (some z_.1))]) (fun z_ => bhead_Header_Right_s12 k z_.1) (by kernel_rfl) (fun _ => by kernel_rfl)
  (RefK.plain [] (by kernel_rfl))
  (fun ⟨h_1, _⟩ => RefK.seq [] [] (fun z_ => []) (fun z_ => bhead_Header_Right_s0 k false) (by kernel_rfl) (fun _ => by kernel_rfl)
  (RefK.seq [(4, .int .i64)] [1] (fun z_ => [(4, .int .i64 z_.1), (1, .pointer (some h_1))]) (fun z_ => bhead_Header_Right_s11 k h_1 z_.1) (by kernel_rfl) (fun _ => by kernel_rfl)
  (RefK.plain [] (by kernel_rfl))
  (fun ⟨x4, _⟩ => RefK.block (RefK.seq [(5, .bool)] [1, 4] (fun z_ => [(5, .bool z_.1), (1, .pointer (some h_1)), (4, .int .i64 x4)]) (fun z_ => bhead_Header_Right_s10 k h_1 x4 z_.1) (by kernel_rfl) (fun _ => by kernel_rfl)
  (RefK.plain [] (by kernel_rfl))
  (fun ⟨x5, _⟩ => RefK.cond (b := x5) (t1 := bhead_Header_Right_s9 k h_1) (t2 := bhead_Header_Right_s8 k h_1 x4 (x4 == 1)) (by kernel_rfl) (by kernel_rfl) (fun w h => brK_spec w h) (RefK.seq [(2, .bool)] [] (fun z_ => [(2, .bool z_.1)]) (fun z_ => bhead_Header_Right_s1 k z_.1) (by kernel_rfl) (fun _ => by kernel_rfl)
  (RefK.plain [] (by kernel_rfl))
  (fun ⟨x2_1, _⟩ => RefK.ret (by kernel_rfl))) (RefK.seq [(10, .bool)] [1, 4] (fun z_ => [(10, .bool z_.1), (1, .pointer (some h_1)), (4, .int .i64 x4)]) (fun z_ => bhead_Header_Right_s8 k h_1 x4 z_.1) (by kernel_rfl) (fun _ => by kernel_rfl)
  (RefK.plain [] (by kernel_rfl))
  (fun ⟨x10, _⟩ => RefK.cond (b := x10) (t1 := bhead_Header_Right_s7 k h_1) (t2 := bhead_Header_Right_s6 k h_1 x4 (x4 == 2)) (by kernel_rfl) (by kernel_rfl) (fun w h => brK_spec w h) (RefK.seq [(2, .bool)] [] (fun z_ => [(2, .bool z_.1)]) (fun z_ => bhead_Header_Right_s2 k z_.1) (by kernel_rfl) (fun _ => by kernel_rfl)
  (RefK.plain [3] (by kernel_rfl))
  (fun ⟨x2_2, _⟩ => RefK.ret (by kernel_rfl))) (RefK.seq [(20, .bool)] [1] (fun z_ => [(20, .bool z_.1), (1, .pointer (some h_1))]) (fun z_ => bhead_Header_Right_s5 k h_1 z_.1) (by kernel_rfl) (fun _ => by kernel_rfl)
  (RefK.seq [(20, .bool)] [1, 4] (fun z_ => [(20, .bool z_.1), (1, .pointer (some h_1)), (4, .int .i64 x4)]) (fun z_ => bhead_Header_Right_s6 k h_1 x4 z_.1) (by kernel_rfl) (fun _ => by kernel_rfl)
  (RefK.plain [] (by kernel_rfl))
  (fun ⟨x20_1, _⟩ => RefK.cond (b := x20_1) (t1 := bhead_Header_Right_s5 k h_1 x20_1) (t2 := bhead_Header_Right_s5 k h_1 (x4 == 3)) (by kernel_rfl) (by kernel_rfl) (fun w h => brK_spec w h) (RefK.skip (by kernel_rfl)) (RefK.plain [] (by kernel_rfl))))
  (fun ⟨x20, _⟩ => RefK.cond (b := x20) (t1 := bhead_Header_Right_s4 k h_1) (t2 := bhead_Header_Right_s0 k false) (by kernel_rfl) (by kernel_rfl) (fun w h => brK_spec w h) (RefK.seq [(2, .bool)] [] (fun z_ => [(2, .bool z_.1)]) (fun z_ => bhead_Header_Right_s3 k z_.1) (by kernel_rfl) (fun _ => by kernel_rfl)
  (RefK.plain [3, 8] (by kernel_rfl))
  (fun ⟨x2_3, _⟩ => RefK.ret (by kernel_rfl))) (RefK.skip (by kernel_rfl))))))))))
  (fun _ => RefK.seq [(2, .bool)] [] (fun z_ => [(2, .bool z_.1)]) (fun z_ => bhead_Header_Right_s0 k z_.1) (by kernel_rfl) (fun _ => by kernel_rfl)
  (RefK.plain [] (by kernel_rfl))
  (fun ⟨x2, _⟩ => RefK.ret (by kernel_rfl))))) hyp_
@[reducible] def bhead_Run_s0 (k : (Sl → K)) (x2 : Sl) : K :=
  k x2
@[reducible] def bhead_Run_s1 (k : (Sl → K)) (out_1 : Sl) : K :=
  bhead_Run_s0 k out_1
@[reducible] def bhead_Run_s2 (x6_1 : Int) (c : ((Sl × Int × Unit) → K)) (out_3 : Sl) : K :=
  c (out_3, (IntKind.wrap .i64 (x6_1 + 1)), ())
@[reducible] def bhead_Run_s3 (many : Int) (out_2 : Sl) (x6_1 : Int) (c : ((Sl × Int × Unit) → K)) : K :=
  alK (.cells #[.int .i64 2, .int .i64 0, .int .i64 many] 143) fun b =>
  semT Tryz.prog (Builtin.append_ #[80, 80] 80 #[out_2.v, .slice (some ⟨b, 0, none⟩) 1 1]) (.one (.sc (.slice))) fun x15 =>
  bhead_Run_s2 x6_1 c x15
@[reducible] def bhead_Run_s4 (out_2 : Sl) (x6_1 : Int) (c : ((Sl × Int × Unit) → K)) (i : Int) : K :=
  alK (.cells #[.int .i64 3, .int .i64 0, .int .i64 i] 143) fun b_1 =>
  semT Tryz.prog (Builtin.append_ #[80, 80] 80 #[out_2.v, .slice (some ⟨b_1, 0, none⟩) 1 1]) (.one (.sc (.slice))) fun x20 =>
  bhead_Run_s2 x6_1 c x20
@[reducible] def bhead_Run_s5 (many : Int) (out_2 : Sl) (x6_1 : Int) (c : ((Sl × Int × Unit) → K)) (i : Int) (x10 : Bool) : K :=
  brK x10
  (bhead_Run_s3 many out_2 x6_1 c)
  (bhead_Run_s4 out_2 x6_1 c i)
@[reducible] def bhead_Run_s6 (many : Int) (out_2 : Sl) (x6_1 : Int) (c : ((Sl × Int × Unit) → K)) (i : Int) : K :=
  bhead_Run_s5 many out_2 x6_1 c i (i == 0)
@[reducible] def bhead_Run_s7 (many : Int) (k : (Sl → K)) (out_2 : Sl) (x6_1 : Int) (c : ((Sl × Int × Unit) → K)) (x7 : Bool) : K :=
  brK x7
  (bhead_Run_s6 many out_2 x6_1 c x6_1)
  (bhead_Run_s1 k out_2)
@[reducible] def bhead_Run_l8 (many : Int) (k : (Sl → K)) (x5 : Int) (out_2 : Sl) (x6_1 : Int) (c : ((Sl × Int × Unit) → K)) : K :=
  bhead_Run_s7 many k out_2 x6_1 c (decide (x6_1 < x5))
@[reducible] def bhead_Run_s9 (many : Int) (k : (Sl → K)) (out : Sl) (x5 : Int) (x6 : Int) : K :=
  lp (fun (z_ : (Sl × Int × Unit)) c_ => bhead_Run_l8 many k x5 z_.1 z_.2.1 c_) (out, x6, ())
@[reducible] def bhead_Run_s10 (many : Int) (k : (Sl → K)) (out : Sl) : K :=
  bhead_Run_s9 many k out many 0
@[reducible] def bhead_Run (many : Int) : M Sl := fun k =>
  bhead_Run_s10 many k ⟨none, 0, 0⟩
theorem bhead_Run_ok (many : Int) (k : Sl → K) (w : World) (hyp_ : bhead_Run many k w) : c_bhead_Run many k w :=
  cl_of (P := Tryz.prog) Tryz.func201 rfl (by kernel_rfl)
  (RefK.seq [] [0] (fun z_ => [(0, .int .i64 many)]) (fun z_ => bhead_Run_s10 many k ⟨none, 0, 0⟩) (by kernel_rfl) (fun _ => by kernel_rfl)
  (RefK.plain [] (by kernel_rfl))
  (fun _ => RefK.seq [(3, .slice)] [0] (fun z_ => [(3, z_.1.v), (0, .int .i64 many)]) (fun z_ => bhead_Run_s10 many k z_.1) (by kernel_rfl) (fun _ => by kernel_rfl)
  (RefK.plain [] (by kernel_rfl))
  (fun ⟨out, _⟩ => RefK.seq [(3, .slice)] [] (fun z_ => [(3, z_.1.v)]) (fun z_ => bhead_Run_s1 k z_.1) (by kernel_rfl) (fun _ => by kernel_rfl)
  (RefK.seq [(5, .int .i64), (6, .int .i64)] [0, 3] (fun z_ => [(5, .int .i64 z_.1), (6, .int .i64 z_.2.1), (0, .int .i64 many), (3, out.v)]) (fun z_ => bhead_Run_s9 many k out z_.1 z_.2.1) (by kernel_rfl) (fun _ => by kernel_rfl)
  (RefK.plain [] (by kernel_rfl))
  (fun ⟨x5, x6, _⟩ => RefK.block (RefK.loop [(3, .slice), (6, .int .i64)] [0, 5] (fun z_ => [(3, z_.1.v), (6, .int .i64 z_.2.1), (0, .int .i64 many), (5, .int .i64 x5)]) (fun (z_ : (Sl × Int × Unit)) c_ => bhead_Run_l8 many k x5 z_.1 z_.2.1 c_) (out, x6, ()) (by kernel_rfl) (fun _ => by kernel_rfl) (by kernel_rfl) (by kernel_rfl)
  (fun ⟨out_2, x6_1, _⟩ c => RefK.seq [(7, .bool)] [0, 3, 5, 6] (fun z_ => [(7, .bool z_.1), (0, .int .i64 many), (3, out_2.v), (5, .int .i64 x5), (6, .int .i64 x6_1)]) (fun z_ => bhead_Run_s7 many k out_2 x6_1 c z_.1) (by kernel_rfl) (fun _ => by kernel_rfl)
  (RefK.plain [] (by kernel_rfl))
  (fun ⟨x7, _⟩ => RefK.seq [] [0, 3, 5, 6] (fun z_ => [(0, .int .i64 many), (3, out_2.v), (5, .int .i64 x5), (6, .int .i64 x6_1)]) (fun z_ => bhead_Run_s6 many out_2 x6_1 c x6_1) (by kernel_rfl) (fun _ => by kernel_rfl)
  (RefK.cond (b := x7) (t1 := bhead_Run_s6 many out_2 x6_1 c x6_1) (t2 := bhead_Run_s1 k out_2) (by kernel_rfl) (by kernel_rfl) (fun w h => brK_spec w h) (RefK.skip (by kernel_rfl)) (RefK.exit (by kernel_rfl)))
  (fun _ => RefK.seq [(3, .slice)] [0, 5, 6] (fun z_ => [(3, z_.1.v), (0, .int .i64 many), (5, .int .i64 x5), (6, .int .i64 x6_1)]) (fun z_ => bhead_Run_s2 x6_1 c z_.1) (by kernel_rfl) (fun _ => by kernel_rfl)
  (RefK.block (RefK.seq [(4, .int .i64)] [0, 3, 5, 6] (fun z_ => [(4, .int .i64 z_.1), (0, .int .i64 many), (3, out_2.v), (5, .int .i64 x5), (6, .int .i64 x6_1)]) (fun z_ => bhead_Run_s6 many out_2 x6_1 c z_.1) (by kernel_rfl) (fun _ => by kernel_rfl)
  (RefK.plain [] (by kernel_rfl))
  (fun ⟨i, _⟩ => RefK.seq [(10, .bool)] [0, 3, 4, 5, 6] (fun z_ => [(10, .bool z_.1), (0, .int .i64 many), (3, out_2.v), (4, .int .i64 i), (5, .int .i64 x5), (6, .int .i64 x6_1)]) (fun z_ => bhead_Run_s5 many out_2 x6_1 c i z_.1) (by kernel_rfl) (fun _ => by kernel_rfl)
  (RefK.plain [] (by kernel_rfl))
  (fun ⟨x10, _⟩ => RefK.cond (b := x10) (t1 := bhead_Run_s3 many out_2 x6_1 c) (t2 := bhead_Run_s4 out_2 x6_1 c i) (by kernel_rfl) (by kernel_rfl) (fun w h => brK_spec w h) (RefK.plain [] (by kernel_rfl)) (RefK.plain [] (by kernel_rfl))))))
  (fun ⟨out_3, _⟩ => RefK.plain [] (by kernel_rfl))))))))
  (fun ⟨out_1, _⟩ => RefK.seq [(2, .slice)] [] (fun z_ => [(2, z_.1.v)]) (fun z_ => bhead_Run_s0 k z_.1) (by kernel_rfl) (fun _ => by kernel_rfl)
  (RefK.plain [] (by kernel_rfl))
  (fun ⟨x2, _⟩ => RefK.ret (by kernel_rfl)))))) hyp_
@[reducible] def bits_Put_s0 (k : (Int → K)) (x8 : Int) : K :=
  k x8
@[reducible] def bits_Put_s1 (w_1 : Int) (at_1 : Int) (n : Int) (k : (Int → K)) (m : Int) : K :=
  nneg (IntKind.wrap .u64 at_1) <|
  bits_Put_s0 k (bitI .or .u64 (bitI .andNot .u64 w_1 m) (bitI .and .u64 (shlI .u64 n (IntKind.wrap .u64 at_1)) m))
@[reducible] def bits_Put_s2 (w_1 : Int) (at_1 : Int) (width : Int) (n : Int) (k : (Int → K)) : K :=
  c_bits_mask width fun x18 =>
  nneg (IntKind.wrap .u64 at_1) <|
  bits_Put_s1 w_1 at_1 n k (shlI .u64 x18 (IntKind.wrap .u64 at_1))
@[reducible] def bits_Put_s3 (k : (Int → K)) (x8_1 : Int) : K :=
  k x8_1
@[reducible] def bits_Put_s4 (w_1 : Int) (at_1 : Int) (width : Int) (n : Int) (k : (Int → K)) (x15 : Bool) : K :=
  brK x15
  (bits_Put_s3 k w_1)
  (bits_Put_s2 w_1 at_1 width n k)
@[reducible] def bits_Put_s5 (w_1 : Int) (at_1 : Int) (width : Int) (n : Int) (k : (Int → K)) : K :=
  brK (decide (at_1 < 0))
  (bits_Put_s4 w_1 at_1 width n k true)
  (bits_Put_s4 w_1 at_1 width n k (decide (at_1 ≥ 64)))
@[reducible] def bits_Put (w_1 : Int) (at_1 : Int) (width : Int) (n : Int) : M Int := fun k =>
  bits_Put_s5 w_1 at_1 width n k
theorem bits_Put_ok (w_1 : Int) (at_1 : Int) (width : Int) (n : Int) (k : Int → K) (w : World) (hyp_ : bits_Put w_1 at_1 width n k w) : c_bits_Put w_1 at_1 width n k w :=
  cl_of (P := Tryz.prog) Tryz.func204 rfl (by kernel_rfl)
  (RefK.seq [] [0, 1, 2, 3] (fun z_ => [(0, .int .u64 w_1), (1, .int .i64 at_1), (2, .int .i64 width), (3, .int .u64 n)]) (fun z_ => bits_Put_s5 w_1 at_1 width n k) (by kernel_rfl) (fun _ => by kernel_rfl)
  (RefK.plain [] (by kernel_rfl))
  (fun _ => RefK.seq [] [0, 1, 2, 3] (fun z_ => [(0, .int .u64 w_1), (1, .int .i64 at_1), (2, .int .i64 width), (3, .int .u64 n)]) (fun z_ => bits_Put_s2 w_1 at_1 width n k) (by kernel_rfl) (fun _ => by kernel_rfl)
  (RefK.seq [(15, .bool)] [0, 1, 2, 3] (fun z_ => [(15, .bool z_.1), (0, .int .u64 w_1), (1, .int .i64 at_1), (2, .int .i64 width), (3, .int .u64 n)]) (fun z_ => bits_Put_s4 w_1 at_1 width n k z_.1) (by kernel_rfl) (fun _ => by kernel_rfl)
  (RefK.plain [2] (by kernel_rfl))
  (fun ⟨x15, _⟩ => RefK.cond (b := x15) (t1 := bits_Put_s3 k w_1) (t2 := bits_Put_s2 w_1 at_1 width n k) (by kernel_rfl) (by kernel_rfl) (fun w h => brK_spec w h) (RefK.seq [(8, .int .u64)] [] (fun z_ => [(8, .int .u64 z_.1)]) (fun z_ => bits_Put_s3 k z_.1) (by kernel_rfl) (fun _ => by kernel_rfl)
  (RefK.plain [] (by kernel_rfl))
  (fun ⟨x8_1, _⟩ => RefK.ret (by kernel_rfl))) (RefK.skip (by kernel_rfl))))
  (fun _ => RefK.seq [(9, .int .u64)] [0, 1, 3] (fun z_ => [(9, .int .u64 z_.1), (0, .int .u64 w_1), (1, .int .i64 at_1), (3, .int .u64 n)]) (fun z_ => bits_Put_s1 w_1 at_1 n k z_.1) (by kernel_rfl) (fun _ => by kernel_rfl)
  (RefK.plain [] (by kernel_rfl))
  (fun ⟨m, _⟩ => RefK.seq [(8, .int .u64)] [] (fun z_ => [(8, .int .u64 z_.1)]) (fun z_ => bits_Put_s0 k z_.1) (by kernel_rfl) (fun _ => by kernel_rfl)
  (RefK.plain [] (by kernel_rfl))
  (fun ⟨x8, _⟩ => RefK.ret (by kernel_rfl)))))) hyp_
@[reducible] def crc_Seal_s0 (k : (Int → K)) (x4 : Int) : K :=
  k x4
@[reducible] def crc_Seal_s1 (n : Int) (place : Int) (k : (Int → K)) : K :=
  alK (.cells #[.int .u64 (IntKind.wrap .u64 n), .int .u64 (IntKind.wrap .u64 place)] 109) fun b =>
  c_crc_Words ⟨(some ⟨b, 0, none⟩), 2, 2⟩ fun x10 =>
  crc_Seal_s0 k (bitI .or .u64 (shlI .u64 (IntKind.wrap .u64 x10) 32) (IntKind.wrap .u64 n))
@[reducible] def crc_Seal (n : Int) (place : Int) : M Int := fun k =>
  crc_Seal_s1 n place k
theorem crc_Seal_ok (n : Int) (place : Int) (k : Int → K) (w : World) (hyp_ : crc_Seal n place k w) : c_crc_Seal n place k w :=
  cl_of (P := Tryz.prog) Tryz.func205 rfl (by kernel_rfl)
  (RefK.seq [] [0, 1] (fun z_ => [(0, .int .u32 n), (1, .int .i64 place)]) (fun z_ => crc_Seal_s1 n place k) (by kernel_rfl) (fun _ => by kernel_rfl)
  (RefK.plain [] (by kernel_rfl))
  (fun _ => RefK.seq [(4, .int .u64)] [] (fun z_ => [(4, .int .u64 z_.1)]) (fun z_ => crc_Seal_s0 k z_.1) (by kernel_rfl) (fun _ => by kernel_rfl)
  (RefK.plain [] (by kernel_rfl))
  (fun ⟨x4, _⟩ => RefK.ret (by kernel_rfl)))) hyp_
@[reducible] def bits_mask_s0 (k : (Int → K)) (x2 : Int) : K :=
  k x2
@[reducible] def bits_mask_s1 (width : Int) (k : (Int → K)) : K :=
  nneg (IntKind.wrap .u64 width) <|
  bits_mask_s0 k (IntKind.wrap .u64 ((shlI .u64 1 (IntKind.wrap .u64 width)) - 1))
@[reducible] def bits_mask_s2 (k : (Int → K)) (x2_1 : Int) : K :=
  k x2_1
@[reducible] def bits_mask_s3 (k : (Int → K)) (x2_2 : Int) : K :=
  k x2_2
@[reducible] def bits_mask_s4 (width : Int) (k : (Int → K)) (x6 : Bool) : K :=
  brK x6
  (bits_mask_s3 k 18446744073709551615)
  (bits_mask_s1 width k)
@[reducible] def bits_mask_s5 (width : Int) (k : (Int → K)) (x3 : Bool) : K :=
  brK x3
  (bits_mask_s2 k 0)
  (bits_mask_s4 width k (decide (width ≥ 64)))
@[reducible] def bits_mask (width : Int) : M Int := fun k =>
  bits_mask_s5 width k (decide (width ≤ 0))
theorem bits_mask_ok (width : Int) (k : Int → K) (w : World) (hyp_ : bits_mask width k w) : c_bits_mask width k w :=
  cl_of (P := Tryz.prog) Tryz.func216 rfl (by kernel_rfl)
  (RefK.seq [] [0] (fun z_ => [(0, .int .i64 width)]) (fun z_ => bits_mask_s5 width k (decide (width ≤ 0))) (by kernel_rfl) (fun _ => by kernel_rfl)
  (RefK.plain [] (by kernel_rfl))
  (fun _ => RefK.seq [] [0] (fun z_ => [(0, .int .i64 width)]) (fun z_ => bits_mask_s1 width k) (by kernel_rfl) (fun _ => by kernel_rfl)
  (RefK.block (RefK.seq [(3, .bool)] [0] (fun z_ => [(3, .bool z_.1), (0, .int .i64 width)]) (fun z_ => bits_mask_s5 width k z_.1) (by kernel_rfl) (fun _ => by kernel_rfl)
  (RefK.plain [] (by kernel_rfl))
  (fun ⟨x3, _⟩ => RefK.cond (b := x3) (t1 := bits_mask_s2 k 0) (t2 := bits_mask_s4 width k (decide (width ≥ 64))) (by kernel_rfl) (by kernel_rfl) (fun w h => brK_spec w h) (RefK.seq [(2, .int .u64)] [] (fun z_ => [(2, .int .u64 z_.1)]) (fun z_ => bits_mask_s2 k z_.1) (by kernel_rfl) (fun _ => by kernel_rfl)
  (RefK.plain [] (by kernel_rfl))
  (fun ⟨x2_1, _⟩ => RefK.ret (by kernel_rfl))) (RefK.seq [(6, .bool)] [0] (fun z_ => [(6, .bool z_.1), (0, .int .i64 width)]) (fun z_ => bits_mask_s4 width k z_.1) (by kernel_rfl) (fun _ => by kernel_rfl)
  (RefK.plain [] (by kernel_rfl))
  (fun ⟨x6, _⟩ => RefK.cond (b := x6) (t1 := bits_mask_s3 k 18446744073709551615) (t2 := bits_mask_s1 width k) (by kernel_rfl) (by kernel_rfl) (fun w h => brK_spec w h) (RefK.seq [(2, .int .u64)] [] (fun z_ => [(2, .int .u64 z_.1)]) (fun z_ => bits_mask_s3 k z_.1) (by kernel_rfl) (fun _ => by kernel_rfl)
  (RefK.plain [] (by kernel_rfl))
  (fun ⟨x2_2, _⟩ => RefK.ret (by kernel_rfl))) (RefK.skip (by kernel_rfl)))))))
  (fun _ => RefK.seq [(2, .int .u64)] [] (fun z_ => [(2, .int .u64 z_.1)]) (fun z_ => bits_mask_s0 k z_.1) (by kernel_rfl) (fun _ => by kernel_rfl)
  (RefK.plain [] (by kernel_rfl))
  (fun ⟨x2, _⟩ => RefK.ret (by kernel_rfl))))) hyp_
@[reducible] def bits_Lowest_s0 (k : (Int → K)) (x2 : Int) : K :=
  k x2
@[reducible] def bits_Lowest_s1 (w_1 : Int) (k : (Int → K)) : K :=
  c_bits_Count (IntKind.wrap .u64 ((bitI .and .u64 w_1 (IntKind.wrap .u64 (0 - w_1))) - 1)) fun x8 =>
  bits_Lowest_s0 k x8
@[reducible] def bits_Lowest (w_1 : Int) : M Int := fun k =>
  bits_Lowest_s1 w_1 k
theorem bits_Lowest_ok (w_1 : Int) (k : Int → K) (w : World) (hyp_ : bits_Lowest w_1 k w) : c_bits_Lowest w_1 k w :=
  cl_of (P := Tryz.prog) Tryz.func223 rfl (by kernel_rfl)
  (RefK.seq [] [0] (fun z_ => [(0, .int .u64 w_1)]) (fun z_ => bits_Lowest_s1 w_1 k) (by kernel_rfl) (fun _ => by kernel_rfl)
  (RefK.plain [] (by kernel_rfl))
  (fun _ => RefK.seq [(2, .int .i64)] [] (fun z_ => [(2, .int .i64 z_.1)]) (fun z_ => bits_Lowest_s0 k z_.1) (by kernel_rfl) (fun _ => by kernel_rfl)
  (RefK.plain [] (by kernel_rfl))
  (fun ⟨x2, _⟩ => RefK.ret (by kernel_rfl)))) hyp_
@[reducible] def crc_Words_s0 (k : (Int → K)) (x2 : Int) : K :=
  k x2
@[reducible] def crc_Words_s1 (list : Sl) (k : (Int → K)) : K :=
  c_bits_Bytes list fun x4 =>
  c_crc_Sum x4 fun x5 =>
  crc_Words_s0 k x5
@[reducible] def crc_Words (list : Sl) : M Int := fun k =>
  crc_Words_s1 list k
theorem crc_Words_ok (list : Sl) (k : Int → K) (w : World) (hyp_ : crc_Words list k w) : c_crc_Words list k w :=
  cl_of (P := Tryz.prog) Tryz.func226 rfl (by kernel_rfl)
  (RefK.seq [] [0] (fun z_ => [(0, list.v)]) (fun z_ => crc_Words_s1 list k) (by kernel_rfl) (fun _ => by kernel_rfl)
  (RefK.plain [] (by kernel_rfl))
  (fun _ => RefK.seq [(2, .int .u32)] [] (fun z_ => [(2, .int .u32 z_.1)]) (fun z_ => crc_Words_s0 k z_.1) (by kernel_rfl) (fun _ => by kernel_rfl)
  (RefK.plain [] (by kernel_rfl))
  (fun ⟨x2, _⟩ => RefK.ret (by kernel_rfl)))) hyp_
@[reducible] def bits_Count_s0 (k : (Int → K)) (x2 : Int) : K :=
  k x2
@[reducible] def bits_Count_s1 (k : (Int → K)) (w_4 : Int) : K :=
  bits_Count_s0 k (IntKind.wrap .i64 (shrI .u64 (IntKind.wrap .u64 (w_4 * 72340172838076673)) 56))
@[reducible] def bits_Count_s2 (k : (Int → K)) (w_3 : Int) : K :=
  bits_Count_s1 k (bitI .and .u64 (IntKind.wrap .u64 (w_3 + (shrI .u64 w_3 4))) 1085102592571150095)
@[reducible] def bits_Count_s3 (k : (Int → K)) (w_2 : Int) : K :=
  bits_Count_s2 k (IntKind.wrap .u64 ((bitI .and .u64 w_2 3689348814741910323) + (bitI .and .u64 (shrI .u64 w_2 2) 3689348814741910323)))
@[reducible] def bits_Count_s4 (w_1 : Int) (k : (Int → K)) : K :=
  bits_Count_s3 k (IntKind.wrap .u64 (w_1 - (bitI .and .u64 (shrI .u64 w_1 1) 6148914691236517205)))
@[reducible] def bits_Count (w_1 : Int) : M Int := fun k =>
  bits_Count_s4 w_1 k
theorem bits_Count_ok (w_1 : Int) (k : Int → K) (w : World) (hyp_ : bits_Count w_1 k w) : c_bits_Count w_1 k w :=
  cl_of (P := Tryz.prog) Tryz.func235 rfl (by kernel_rfl)
  (RefK.seq [] [0] (fun z_ => [(0, .int .u64 w_1)]) (fun z_ => bits_Count_s4 w_1 k) (by kernel_rfl) (fun _ => by kernel_rfl)
  (RefK.plain [] (by kernel_rfl))
  (fun _ => RefK.seq [(0, .int .u64)] [] (fun z_ => [(0, .int .u64 z_.1)]) (fun z_ => bits_Count_s3 k z_.1) (by kernel_rfl) (fun _ => by kernel_rfl)
  (RefK.plain [] (by kernel_rfl))
  (fun ⟨w_2, _⟩ => RefK.seq [(0, .int .u64)] [] (fun z_ => [(0, .int .u64 z_.1)]) (fun z_ => bits_Count_s2 k z_.1) (by kernel_rfl) (fun _ => by kernel_rfl)
  (RefK.plain [] (by kernel_rfl))
  (fun ⟨w_3, _⟩ => RefK.seq [(0, .int .u64)] [] (fun z_ => [(0, .int .u64 z_.1)]) (fun z_ => bits_Count_s1 k z_.1) (by kernel_rfl) (fun _ => by kernel_rfl)
  (RefK.plain [] (by kernel_rfl))
  (fun ⟨w_4, _⟩ => RefK.seq [(2, .int .i64)] [] (fun z_ => [(2, .int .i64 z_.1)]) (fun z_ => bits_Count_s0 k z_.1) (by kernel_rfl) (fun _ => by kernel_rfl)
  (RefK.plain [] (by kernel_rfl))
  (fun ⟨x2, _⟩ => RefK.ret (by kernel_rfl))))))) hyp_
@[reducible] def crc_Sum_s0 (k : (Int → K)) (x2 : Int) : K :=
  k x2
@[reducible] def crc_Sum_s1 (data : Sl) (k : (Int → K)) : K :=
  c_crc_More 0 data fun x4 =>
  crc_Sum_s0 k x4
@[reducible] def crc_Sum (data : Sl) : M Int := fun k =>
  crc_Sum_s1 data k
theorem crc_Sum_ok (data : Sl) (k : Int → K) (w : World) (hyp_ : crc_Sum data k w) : c_crc_Sum data k w :=
  cl_of (P := Tryz.prog) Tryz.func236 rfl (by kernel_rfl)
  (RefK.seq [] [0] (fun z_ => [(0, data.v)]) (fun z_ => crc_Sum_s1 data k) (by kernel_rfl) (fun _ => by kernel_rfl)
  (RefK.plain [] (by kernel_rfl))
  (fun _ => RefK.seq [(2, .int .u32)] [] (fun z_ => [(2, .int .u32 z_.1)]) (fun z_ => crc_Sum_s0 k z_.1) (by kernel_rfl) (fun _ => by kernel_rfl)
  (RefK.plain [] (by kernel_rfl))
  (fun ⟨x2, _⟩ => RefK.ret (by kernel_rfl)))) hyp_
@[reducible] def bits_Bytes_s0 (k : (Sl → K)) (x2 : Sl) : K :=
  k x2
@[reducible] def bits_Bytes_s1 (k : (Sl → K)) (out_1 : Sl) : K :=
  bits_Bytes_s0 k out_1
@[reducible] def bits_Bytes_s2 (x13_1 : Int) (c : ((Sl × Int × Unit) → K)) (out_3 : Sl) : K :=
  c (out_3, (IntKind.wrap .i64 (x13_1 + 1)), ())
@[reducible] def bits_Bytes_s3 (x17_1 : Int) (c_1 : ((Sl × Int × Unit) → K)) (out_5 : Sl) : K :=
  c_1 (out_5, (IntKind.wrap .i64 (x17_1 + 1)), ())
@[reducible] def bits_Bytes_s4 (w_1 : Int) (out_4 : Sl) (x17_1 : Int) (c_1 : ((Sl × Int × Unit) → K)) (i : Int) : K :=
  nneg (IntKind.wrap .u64 (IntKind.wrap .i64 (8 * i))) <|
  alK (.cells #[.int .u8 (IntKind.wrap .u8 (shrI .u64 w_1 (IntKind.wrap .u64 (IntKind.wrap .i64 (8 * i)))))] 5) fun b =>
  semT Tryz.prog (Builtin.append_ #[60, 60] 60 #[out_4.v, .slice (some ⟨b, 0, none⟩) 1 1]) (.one (.sc (.slice))) fun x28 =>
  bits_Bytes_s3 x17_1 c_1 x28
@[reducible] def bits_Bytes_s5 (x13_1 : Int) (c : ((Sl × Int × Unit) → K)) (w_1 : Int) (out_4 : Sl) (x17_1 : Int) (c_1 : ((Sl × Int × Unit) → K)) (x18 : Bool) : K :=
  brK x18
  (bits_Bytes_s4 w_1 out_4 x17_1 c_1 x17_1)
  (bits_Bytes_s2 x13_1 c out_4)
@[reducible] def bits_Bytes_l6 (x13_1 : Int) (c : ((Sl × Int × Unit) → K)) (w_1 : Int) (out_4 : Sl) (x17_1 : Int) (c_1 : ((Sl × Int × Unit) → K)) : K :=
  bits_Bytes_s5 x13_1 c w_1 out_4 x17_1 c_1 (decide (x17_1 < 8))
@[reducible] def bits_Bytes_s7 (out_2 : Sl) (x13_1 : Int) (c : ((Sl × Int × Unit) → K)) (w_1 : Int) (x17 : Int) : K :=
  lp (fun (z_ : (Sl × Int × Unit)) c_ => bits_Bytes_l6 x13_1 c w_1 z_.1 z_.2.1 c_) (out_2, x17, ())
@[reducible] def bits_Bytes_s8 (out_2 : Sl) (x13_1 : Int) (c : ((Sl × Int × Unit) → K)) (w_1 : Int) : K :=
  bits_Bytes_s7 out_2 x13_1 c w_1 0
@[reducible] def bits_Bytes_s9 (x11 : Sl) (out_2 : Sl) (x13_1 : Int) (c : ((Sl × Int × Unit) → K)) : K :=
  ixS x11.p x11.n x13_1 1 fun x15 =>
  ldI .u64 x15 fun x16 =>
  bits_Bytes_s8 out_2 x13_1 c x16
@[reducible] def bits_Bytes_s10 (k : (Sl → K)) (x11 : Sl) (out_2 : Sl) (x13_1 : Int) (c : ((Sl × Int × Unit) → K)) (x14 : Bool) : K :=
  brK x14
  (bits_Bytes_s9 x11 out_2 x13_1 c)
  (bits_Bytes_s1 k out_2)
@[reducible] def bits_Bytes_l11 (k : (Sl → K)) (x11 : Sl) (x12 : Int) (out_2 : Sl) (x13_1 : Int) (c : ((Sl × Int × Unit) → K)) : K :=
  bits_Bytes_s10 k x11 out_2 x13_1 c (decide (x13_1 < x12))
@[reducible] def bits_Bytes_s12 (k : (Sl → K)) (out : Sl) (x11 : Sl) (x12 : Int) (x13 : Int) : K :=
  lp (fun (z_ : (Sl × Int × Unit)) c_ => bits_Bytes_l11 k x11 x12 z_.1 z_.2.1 c_) (out, x13, ())
@[reducible] def bits_Bytes_s13 (words : Sl) (k : (Sl → K)) (out : Sl) : K :=
  bits_Bytes_s12 k out words ((words.n : Nat) : Int) 0
@[reducible] def bits_Bytes_s14 (words : Sl) (k : (Sl → K)) : K :=
  mkS Tryz.prog 5 0 (IntKind.wrap .i64 (8 * ((words.n : Nat) : Int))) fun b_1 =>
  bits_Bytes_s13 words k ⟨(some ⟨b_1, 0, none⟩), (Int.toNat 0), (Int.toNat (IntKind.wrap .i64 (8 * ((words.n : Nat) : Int))))⟩
@[reducible] def bits_Bytes (words : Sl) : M Sl := fun k =>
  bits_Bytes_s14 words k
theorem bits_Bytes_ok (words : Sl) (k : Sl → K) (w : World) (hyp_ : bits_Bytes words k w) : c_bits_Bytes words k w :=
  cl_of (P := Tryz.prog) Tryz.func237 rfl (by kernel_rfl)
  (RefK.seq [] [0] (fun z_ => [(0, words.v)]) (fun z_ => bits_Bytes_s14 words k) (by kernel_rfl) (fun _ => by kernel_rfl)
  (RefK.plain [] (by kernel_rfl))
  (fun _ => RefK.seq [(3, .slice)] [0] (fun z_ => [(3, z_.1.v), (0, words.v)]) (fun z_ => bits_Bytes_s13 words k z_.1) (by kernel_rfl) (fun _ => by kernel_rfl)
  (RefK.plain [] (by kernel_rfl))
  (fun ⟨out, _⟩ => RefK.seq [(3, .slice)] [] (fun z_ => [(3, z_.1.v)]) (fun z_ => bits_Bytes_s1 k z_.1) (by kernel_rfl) (fun _ => by kernel_rfl)
  (RefK.seq [(11, .slice), (12, .int .i64), (13, .int .i64)] [3] (fun z_ => [(11, z_.1.v), (12, .int .i64 z_.2.1), (13, .int .i64 z_.2.2.1), (3, out.v)]) (fun z_ => bits_Bytes_s12 k out z_.1 z_.2.1 z_.2.2.1) (by kernel_rfl) (fun _ => by kernel_rfl)
  (RefK.plain [] (by kernel_rfl))
  (fun ⟨x11, x12, x13, _⟩ => RefK.block (RefK.loop [(3, .slice), (13, .int .i64)] [11, 12] (fun z_ => [(3, z_.1.v), (13, .int .i64 z_.2.1), (11, x11.v), (12, .int .i64 x12)]) (fun (z_ : (Sl × Int × Unit)) c_ => bits_Bytes_l11 k x11 x12 z_.1 z_.2.1 c_) (out, x13, ()) (by kernel_rfl) (fun _ => by kernel_rfl) (by kernel_rfl) (by kernel_rfl)
  (fun ⟨out_2, x13_1, _⟩ c => RefK.seq [(14, .bool)] [3, 11, 12, 13] (fun z_ => [(14, .bool z_.1), (3, out_2.v), (11, x11.v), (12, .int .i64 x12), (13, .int .i64 x13_1)]) (fun z_ => bits_Bytes_s10 k x11 out_2 x13_1 c z_.1) (by kernel_rfl) (fun _ => by kernel_rfl)
  (RefK.plain [] (by kernel_rfl))
  (fun ⟨x14, _⟩ => RefK.seq [] [3, 11, 12, 13] (fun z_ => [(3, out_2.v), (11, x11.v), (12, .int .i64 x12), (13, .int .i64 x13_1)]) (fun z_ => bits_Bytes_s9 x11 out_2 x13_1 c) (by kernel_rfl) (fun _ => by kernel_rfl)
  (RefK.cond (b := x14) (t1 := bits_Bytes_s9 x11 out_2 x13_1 c) (t2 := bits_Bytes_s1 k out_2) (by kernel_rfl) (by kernel_rfl) (fun w h => brK_spec w h) (RefK.skip (by kernel_rfl)) (RefK.exit (by kernel_rfl)))
  (fun _ => RefK.seq [(3, .slice)] [11, 12, 13] (fun z_ => [(3, z_.1.v), (11, x11.v), (12, .int .i64 x12), (13, .int .i64 x13_1)]) (fun z_ => bits_Bytes_s2 x13_1 c z_.1) (by kernel_rfl) (fun _ => by kernel_rfl)
  (RefK.block (RefK.seq [(5, .int .u64)] [3, 11, 12, 13] (fun z_ => [(5, .int .u64 z_.1), (3, out_2.v), (11, x11.v), (12, .int .i64 x12), (13, .int .i64 x13_1)]) (fun z_ => bits_Bytes_s8 out_2 x13_1 c z_.1) (by kernel_rfl) (fun _ => by kernel_rfl)
  (RefK.plain [] (by kernel_rfl))
  (fun ⟨w_1, _⟩ => RefK.seq [(17, .int .i64)] [3, 5, 11, 12, 13] (fun z_ => [(17, .int .i64 z_.1), (3, out_2.v), (5, .int .u64 w_1), (11, x11.v), (12, .int .i64 x12), (13, .int .i64 x13_1)]) (fun z_ => bits_Bytes_s7 out_2 x13_1 c w_1 z_.1) (by kernel_rfl) (fun _ => by kernel_rfl)
  (RefK.plain [] (by kernel_rfl))
  (fun ⟨x17, _⟩ => RefK.block (RefK.loop [(3, .slice), (17, .int .i64)] [5, 11, 12, 13] (fun z_ => [(3, z_.1.v), (17, .int .i64 z_.2.1), (5, .int .u64 w_1), (11, x11.v), (12, .int .i64 x12), (13, .int .i64 x13_1)]) (fun (z_ : (Sl × Int × Unit)) c_ => bits_Bytes_l6 x13_1 c w_1 z_.1 z_.2.1 c_) (out_2, x17, ()) (by kernel_rfl) (fun _ => by kernel_rfl) (by kernel_rfl) (by kernel_rfl)
  (fun ⟨out_4, x17_1, _⟩ c_1 => RefK.seq [(18, .bool)] [3, 5, 11, 12, 13, 17] (fun z_ => [(18, .bool z_.1), (3, out_4.v), (5, .int .u64 w_1), (11, x11.v), (12, .int .i64 x12), (13, .int .i64 x13_1), (17, .int .i64 x17_1)]) (fun z_ => bits_Bytes_s5 x13_1 c w_1 out_4 x17_1 c_1 z_.1) (by kernel_rfl) (fun _ => by kernel_rfl)
  (RefK.plain [] (by kernel_rfl))
  (fun ⟨x18, _⟩ => RefK.seq [] [3, 5, 11, 12, 13, 17] (fun z_ => [(3, out_4.v), (5, .int .u64 w_1), (11, x11.v), (12, .int .i64 x12), (13, .int .i64 x13_1), (17, .int .i64 x17_1)]) (fun z_ => bits_Bytes_s4 w_1 out_4 x17_1 c_1 x17_1) (by kernel_rfl) (fun _ => by kernel_rfl)
  (RefK.cond (b := x18) (t1 := bits_Bytes_s4 w_1 out_4 x17_1 c_1 x17_1) (t2 := bits_Bytes_s2 x13_1 c out_4) (by kernel_rfl) (by kernel_rfl) (fun w h => brK_spec w h) (RefK.skip (by kernel_rfl)) (RefK.exit (by kernel_rfl)))
  (fun _ => RefK.seq [(3, .slice)] [5, 11, 12, 13, 17] (fun z_ => [(3, z_.1.v), (5, .int .u64 w_1), (11, x11.v), (12, .int .i64 x12), (13, .int .i64 x13_1), (17, .int .i64 x17_1)]) (fun z_ => bits_Bytes_s3 x17_1 c_1 z_.1) (by kernel_rfl) (fun _ => by kernel_rfl)
  (RefK.block (RefK.seq [(6, .int .i64)] [3, 5, 11, 12, 13, 17] (fun z_ => [(6, .int .i64 z_.1), (3, out_4.v), (5, .int .u64 w_1), (11, x11.v), (12, .int .i64 x12), (13, .int .i64 x13_1), (17, .int .i64 x17_1)]) (fun z_ => bits_Bytes_s4 w_1 out_4 x17_1 c_1 z_.1) (by kernel_rfl) (fun _ => by kernel_rfl)
  (RefK.plain [] (by kernel_rfl))
  (fun ⟨i, _⟩ => RefK.plain [] (by kernel_rfl))))
  (fun ⟨out_5, _⟩ => RefK.plain [] (by kernel_rfl))))))))))
  (fun ⟨out_3, _⟩ => RefK.plain [] (by kernel_rfl))))))))
  (fun ⟨out_1, _⟩ => RefK.seq [(2, .slice)] [] (fun z_ => [(2, z_.1.v)]) (fun z_ => bits_Bytes_s0 k z_.1) (by kernel_rfl) (fun _ => by kernel_rfl)
  (RefK.plain [] (by kernel_rfl))
  (fun ⟨x2, _⟩ => RefK.ret (by kernel_rfl)))))) hyp_
@[reducible] def crc_More_s0 (k : (Int → K)) (x4 : Int) : K :=
  k x4
@[reducible] def crc_More_s1 (k : (Int → K)) (sum_2 : Int) : K :=
  crc_More_s0 k (notI .u32 sum_2)
@[reducible] def crc_More_s2 (x11_1 : Int) (c : ((Int × Int × Unit) → K)) (sum_4 : Int) : K :=
  c (sum_4, (IntKind.wrap .i64 (x11_1 + 1)), ())
@[reducible] def crc_More_s3 (x11_1 : Int) (c : ((Int × Int × Unit) → K)) (b : Int) (sum_5 : Int) : K :=
  c_crc_table (bitI .xor .u8 (IntKind.wrap .u8 sum_5) (shrI .u8 b 4)) fun x28 =>
  crc_More_s2 x11_1 c (bitI .xor .u32 x28 (shrI .u32 sum_5 4))
@[reducible] def crc_More_s4 (sum_3 : Int) (x11_1 : Int) (c : ((Int × Int × Unit) → K)) (b : Int) : K :=
  c_crc_table (bitI .xor .u8 (IntKind.wrap .u8 sum_3) b) fun x19 =>
  crc_More_s3 x11_1 c b (bitI .xor .u32 x19 (shrI .u32 sum_3 4))
@[reducible] def crc_More_s5 (x9 : Sl) (sum_3 : Int) (x11_1 : Int) (c : ((Int × Int × Unit) → K)) : K :=
  ixS x9.p x9.n x11_1 1 fun x13 =>
  ldI .u8 x13 fun x14 =>
  crc_More_s4 sum_3 x11_1 c x14
@[reducible] def crc_More_s6 (k : (Int → K)) (x9 : Sl) (sum_3 : Int) (x11_1 : Int) (c : ((Int × Int × Unit) → K)) (x12 : Bool) : K :=
  brK x12
  (crc_More_s5 x9 sum_3 x11_1 c)
  (crc_More_s1 k sum_3)
@[reducible] def crc_More_l7 (k : (Int → K)) (x9 : Sl) (x10 : Int) (sum_3 : Int) (x11_1 : Int) (c : ((Int × Int × Unit) → K)) : K :=
  crc_More_s6 k x9 sum_3 x11_1 c (decide (x11_1 < x10))
@[reducible] def crc_More_s8 (k : (Int → K)) (sum_1 : Int) (x9 : Sl) (x10 : Int) (x11 : Int) : K :=
  lp (fun (z_ : (Int × Int × Unit)) c_ => crc_More_l7 k x9 x10 z_.1 z_.2.1 c_) (sum_1, x11, ())
@[reducible] def crc_More_s9 (data : Sl) (k : (Int → K)) (sum_1 : Int) : K :=
  crc_More_s8 k sum_1 data ((data.n : Nat) : Int) 0
@[reducible] def crc_More (sum : Int) (data : Sl) : M Int := fun k =>
  crc_More_s9 data k (notI .u32 sum)
theorem crc_More_ok (sum : Int) (data : Sl) (k : Int → K) (w : World) (hyp_ : crc_More sum data k w) : c_crc_More sum data k w :=
  cl_of (P := Tryz.prog) Tryz.func258 rfl (by kernel_rfl)
  (RefK.seq [] [0, 1] (fun z_ => [(0, .int .u32 sum), (1, data.v)]) (fun z_ => crc_More_s9 data k (notI .u32 sum)) (by kernel_rfl) (fun _ => by kernel_rfl)
  (RefK.plain [] (by kernel_rfl))
  (fun _ => RefK.seq [(0, .int .u32)] [1] (fun z_ => [(0, .int .u32 z_.1), (1, data.v)]) (fun z_ => crc_More_s9 data k z_.1) (by kernel_rfl) (fun _ => by kernel_rfl)
  (RefK.plain [] (by kernel_rfl))
  (fun ⟨sum_1, _⟩ => RefK.seq [(0, .int .u32)] [] (fun z_ => [(0, .int .u32 z_.1)]) (fun z_ => crc_More_s1 k z_.1) (by kernel_rfl) (fun _ => by kernel_rfl)
  (RefK.seq [(9, .slice), (10, .int .i64), (11, .int .i64)] [0] (fun z_ => [(9, z_.1.v), (10, .int .i64 z_.2.1), (11, .int .i64 z_.2.2.1), (0, .int .u32 sum_1)]) (fun z_ => crc_More_s8 k sum_1 z_.1 z_.2.1 z_.2.2.1) (by kernel_rfl) (fun _ => by kernel_rfl)
  (RefK.plain [] (by kernel_rfl))
  (fun ⟨x9, x10, x11, _⟩ => RefK.block (RefK.loop [(0, .int .u32), (11, .int .i64)] [9, 10] (fun z_ => [(0, .int .u32 z_.1), (11, .int .i64 z_.2.1), (9, x9.v), (10, .int .i64 x10)]) (fun (z_ : (Int × Int × Unit)) c_ => crc_More_l7 k x9 x10 z_.1 z_.2.1 c_) (sum_1, x11, ()) (by kernel_rfl) (fun _ => by kernel_rfl) (by kernel_rfl) (by kernel_rfl)
  (fun ⟨sum_3, x11_1, _⟩ c => RefK.seq [(12, .bool)] [0, 9, 10, 11] (fun z_ => [(12, .bool z_.1), (0, .int .u32 sum_3), (9, x9.v), (10, .int .i64 x10), (11, .int .i64 x11_1)]) (fun z_ => crc_More_s6 k x9 sum_3 x11_1 c z_.1) (by kernel_rfl) (fun _ => by kernel_rfl)
  (RefK.plain [] (by kernel_rfl))
  (fun ⟨x12, _⟩ => RefK.seq [] [0, 9, 10, 11] (fun z_ => [(0, .int .u32 sum_3), (9, x9.v), (10, .int .i64 x10), (11, .int .i64 x11_1)]) (fun z_ => crc_More_s5 x9 sum_3 x11_1 c) (by kernel_rfl) (fun _ => by kernel_rfl)
  (RefK.cond (b := x12) (t1 := crc_More_s5 x9 sum_3 x11_1 c) (t2 := crc_More_s1 k sum_3) (by kernel_rfl) (by kernel_rfl) (fun w h => brK_spec w h) (RefK.skip (by kernel_rfl)) (RefK.exit (by kernel_rfl)))
  (fun _ => RefK.seq [(0, .int .u32)] [9, 10, 11] (fun z_ => [(0, .int .u32 z_.1), (9, x9.v), (10, .int .i64 x10), (11, .int .i64 x11_1)]) (fun z_ => crc_More_s2 x11_1 c z_.1) (by kernel_rfl) (fun _ => by kernel_rfl)
  (RefK.block (RefK.seq [(6, .int .u8)] [0, 9, 10, 11] (fun z_ => [(6, .int .u8 z_.1), (0, .int .u32 sum_3), (9, x9.v), (10, .int .i64 x10), (11, .int .i64 x11_1)]) (fun z_ => crc_More_s4 sum_3 x11_1 c z_.1) (by kernel_rfl) (fun _ => by kernel_rfl)
  (RefK.plain [] (by kernel_rfl))
  (fun ⟨b, _⟩ => RefK.seq [(0, .int .u32)] [6, 9, 10, 11] (fun z_ => [(0, .int .u32 z_.1), (6, .int .u8 b), (9, x9.v), (10, .int .i64 x10), (11, .int .i64 x11_1)]) (fun z_ => crc_More_s3 x11_1 c b z_.1) (by kernel_rfl) (fun _ => by kernel_rfl)
  (RefK.plain [] (by kernel_rfl))
  (fun ⟨sum_5, _⟩ => RefK.plain [] (by kernel_rfl)))))
  (fun ⟨sum_4, _⟩ => RefK.plain [] (by kernel_rfl))))))))
  (fun ⟨sum_2, _⟩ => RefK.seq [(4, .int .u32)] [] (fun z_ => [(4, .int .u32 z_.1)]) (fun z_ => crc_More_s0 k z_.1) (by kernel_rfl) (fun _ => by kernel_rfl)
  (RefK.plain [] (by kernel_rfl))
  (fun ⟨x4, _⟩ => RefK.ret (by kernel_rfl)))))) hyp_
@[reducible] def crc_table_s0 (k : (Int → K)) (x2 : Int) : K :=
  k x2
@[reducible] def crc_table_s1 (i : Int) (k : (Int → K)) : K :=
  ixI .u32 #[.int .u32 0, .int .u32 498536548, .int .u32 997073096, .int .u32 651767980, .int .u32 1994146192, .int .u32 1802195444, .int .u32 1303535960, .int .u32 1342533948, .int .u32 3988292384, .int .u32 4027552580, .int .u32 3604390888, .int .u32 3412177804, .int .u32 2607071920, .int .u32 2262029012, .int .u32 2685067896, .int .u32 3183342108] 16 (bitI .and .u8 i 15) fun x6 =>
  crc_table_s0 k x6
@[reducible] def crc_table (i : Int) : M Int := fun k =>
  crc_table_s1 i k
theorem crc_table_ok (i : Int) (k : Int → K) (w : World) (hyp_ : crc_table i k w) : c_crc_table i k w :=
  cl_of (P := Tryz.prog) Tryz.func270 rfl (by kernel_rfl)
  (RefK.seq [] [0] (fun z_ => [(0, .int .u8 i)]) (fun z_ => crc_table_s1 i k) (by kernel_rfl) (fun _ => by kernel_rfl)
  (RefK.plain [] (by kernel_rfl))
  (fun _ => RefK.seq [(2, .int .u32)] [] (fun z_ => [(2, .int .u32 z_.1)]) (fun z_ => crc_table_s0 k z_.1) (by kernel_rfl) (fun _ => by kernel_rfl)
  (RefK.plain [] (by kernel_rfl))
  (fun ⟨x2, _⟩ => RefK.ret (by kernel_rfl)))) hyp_
end Go.Proofs.YtdgcbapclnnkkaaGreat.X
end
section
/- Contracts of functions that only compute. Conditions: the sizes that are named. -/
set_option linter.unusedVariables false
namespace Go.Proofs.YtdgcbapclnnkkaaGreat.X
open Go
section
variable {B : World} {R : SL}
/-! geom -/
theorem geom_Words_c {g : Int} (h0 : 0 ≤ g) (h1 : g ≤ 2 ^ 40) {k : Int → K} (hk : T B R (k (g * 512))) : T B R (c_geom_Geometry_Words g k) := by
  refine T_of (geom_Geometry_Words_ok g k) ?_
  (repeat (first | ((with_reducible apply T_ldI); (focus rfl); (focus exact hasA); (focus rfl)) | (with_reducible refine T_al ?_; intro _)))
  rw [w64 (by omega) (by omega)]
  exact hk.weak
def blockOf (g at_ : Int) : Int := if at_ < 0 ∨ at_ ≥ g * 512 then -1 else at_ / 512
theorem geom_BlockOf_c {g a : Int} (h0 : 0 ≤ g) (h1 : g ≤ 2 ^ 40) {k : Int → K} (hk : T B R (k (blockOf g a))) : T B R (c_geom_Geometry_BlockOf g a k) := by
  refine T_of (geom_Geometry_BlockOf_ok g a k) ?_
  unfold blockOf at hk
  (repeat' (first | with_reducible refine T_brT ?_ | ((with_reducible apply T_ldI); (focus rfl); (focus exact hasA); (focus rfl)) | (with_reducible refine T_al ?_; intro _) | with_reducible refine T_brD (fun _ => ?_) (fun _ => ?_)))
  · rw [if_pos (by omega)] at hk; exact hk.weak
  · refine geom_Words_c h0 h1 ?_
    (repeat' (with_reducible refine T_brD (fun _ => ?_) (fun _ => ?_)))
    · rw [if_pos (by omega)] at hk; exact hk.weak
    · rw [if_neg (by omega)] at hk
      rw [Int.tdiv_eq_ediv_of_nonneg (by omega), w64 (by omega) (by omega)]; exact hk.weak
def first (g b : Int) : Int := if b < 0 ∨ b ≥ g then -1 else b * 512
theorem geom_First_c {g b : Int} (h1 : g ≤ 2 ^ 40) {k : Int → K} (hk : T B R (k (first g b))) : T B R (c_geom_Geometry_First g b k) := by
  refine T_of (geom_Geometry_First_ok g b k) ?_
  unfold first at hk
  (repeat' (first | with_reducible refine T_brT ?_ | ((with_reducible apply T_ldI); (focus rfl); (focus exact hasA); (focus rfl)) | (with_reducible refine T_al ?_; intro _) | with_reducible refine T_brD (fun _ => ?_) (fun _ => ?_)))
  · rw [if_pos (by omega)] at hk; exact hk.weak
  · rw [if_pos (by omega)] at hk; exact hk.weak
  · rw [if_neg (by omega)] at hk
    rw [w64 (by omega) (by omega)]; exact hk.weak
def header (g b : Int) : Int := if b < 1 ∨ b ≥ g then -1 else 256 + b
theorem geom_Header_c {g b : Int} (h1 : g ≤ 2 ^ 40) {k : Int → K} (hk : T B R (k (header g b))) : T B R (c_geom_Geometry_Header g b k) := by
  refine T_of (geom_Geometry_Header_ok g b k) ?_
  unfold header at hk
  (repeat' (first | with_reducible refine T_brT ?_ | ((with_reducible apply T_ldI); (focus rfl); (focus exact hasA); (focus rfl)) | (with_reducible refine T_al ?_; intro _) | with_reducible refine T_brD (fun _ => ?_) (fun _ => ?_)))
  · rw [if_pos (by omega)] at hk; exact hk.weak
  · rw [if_pos (by omega)] at hk; exact hk.weak
  · rw [if_neg (by omega)] at hk
    rw [w64 (by omega) (by omega)]; exact hk.weak
theorem geom_Most_c {g : Int} (h0 : 0 ≤ g) (h1 : g ≤ 2 ^ 40) {k : Int → K} (hk : T B R (k (max 0 (g - 1) * 512))) : T B R (c_geom_Geometry_Most g k) := by
  refine T_of (geom_Geometry_Most_ok g k) ?_
  (repeat' (first | ((with_reducible apply T_ldI); (focus rfl); (focus exact hasA); (focus rfl)) | (with_reducible refine T_al ?_; intro _)))
  have e : max2I 0 (IntKind.wrap .i64 (g - 1)) = max 0 (g - 1) := by rw [w64 (by omega) (by omega)]; unfold max2I; split <;> omega
  rw [e, w64 (by omega) (by omega)]; exact hk.weak
theorem geom_Data_c {g a : Int} (h0 : 0 ≤ g) (h1 : g ≤ 2 ^ 40) {k : Bool → K} (hk : T B R (k (decide (1 ≤ blockOf g a)))) : T B R (c_geom_Geometry_Data g a k) := by
  refine T_of (geom_Geometry_Data_ok g a k) ?_
  (repeat' (first | ((with_reducible apply T_ldI); (focus rfl); (focus exact hasA); (focus rfl)) | (with_reducible refine T_al ?_; intro _)))
  refine geom_BlockOf_c h0 h1 ?_
  exact hk.weak
/-! class -/
def szs : List Int := [2, 3, 4, 5, 6, 7, 8, 10, 12, 14, 16, 18, 20, 24, 28, 32, 36, 40, 46, 51, 56, 64, 73, 85, 92, 102, 113, 128, 146, 170, 204, 256]
theorem class_sizes_c {k : List Value → K} (hk : T B R (k (szs.map fun n => .int .i64 n))) : T B R (c_class_sizes k) := by
  refine T_of (class_sizes_ok k) ?_
  (repeat' (first | ((with_reducible apply T_blob); (focus rfl); (focus exact hasA); (focus rfl)) | (with_reducible refine T_al ?_; intro _) | ((with_reducible apply T_st); (focus rfl); (focus exact updA); (focus simp); simp only [List.set, Nat.zero_add, Nat.reduceAdd])))
  exact hk.weak
theorem class_Right_c {c : Int} {k : Bool → K} (hk : T B R (k (decide (0 ≤ c ∧ c < 32)))) : T B R (c_class_Right c k) := by
  refine T_of (class_Right_ok c k) ?_
  (repeat' (with_reducible refine T_brD (fun _ => ?_) (fun _ => ?_)))
  · have e : decide (c < 32) = decide (0 ≤ c ∧ c < 32) := by simp; omega
    rw [e]; exact hk
  · have e : decide (0 ≤ c ∧ c < 32) = false := by simp; omega
    rw [e] at hk; exact hk
def clsW (c : Int) : Int := if 0 ≤ c ∧ c < 32 then szs.getD c.toNat 0 else 0
theorem class_Words_c {c : Int} {k : Int → K} (hk : T B R (k (clsW c))) : T B R (c_class_Words c k) := by
  refine T_of (class_Words_ok c k) ?_
  unfold clsW at hk
  skip
  refine class_Right_c ?_
  (repeat' (first | with_reducible refine T_brD (fun _ => ?_) (fun _ => ?_) | with_reducible refine T_brN ?_))
  · rename_i h
    rw [if_pos h] at hk
    refine class_sizes_c ?_
    intro w s
    have hl : c.toNat < szs.length := by show c.toNat < 32; omega
    refine ⟨by omega, szs.getD c.toNat 0, ?_, hk w s⟩
    simp only [List.getElem?_toArray, List.getElem?_map, List.getElem?_eq_getElem hl, Option.map_some, List.getD_eq_getElem?_getD, Option.getD_some]
  · rename_i h
    rw [if_neg h] at hk
    exact hk
theorem clsW_pos {c : Int} (h : 0 ≤ c ∧ c < 32) : 2 ≤ clsW c ∧ clsW c ≤ 256 := by
  unfold clsW; rw [if_pos h]
  have : ∀ n : Nat, n < 32 → 2 ≤ szs.getD n 0 ∧ szs.getD n 0 ≤ 256 := by decide
  exact this c.toNat (by omega)
theorem clsW_mono {c d : Int} (h0 : 0 ≤ c) (h : c < d) (h1 : d < 32) : clsW c < clsW d := by
  unfold clsW; rw [if_pos (by omega), if_pos (by omega)]
  have : ∀ m : Nat, m < 32 → ∀ n : Nat, n < m → szs.getD n 0 < szs.getD m 0 := by decide
  exact this d.toNat (by omega) c.toNat (by omega)
theorem class_Most_c {k : Int → K} (hk : T B R (k 256)) : T B R (c_class_Most k) := by
  refine T_of (class_Most_ok k) ?_
  skip
  refine class_Words_c ?_
  have e : clsW 31 = 256 := by decide
  rw [e]
  skip
  exact hk
def cls (c : Int) : Int := if 0 ≤ c ∧ c < 32 then 512 / clsW c else 0
theorem class_Cells_c {c : Int} {k : Int → K} (hk : T B R (k (cls c))) : T B R (c_class_Cells c k) := by
  refine T_of (class_Cells_ok c k) ?_
  unfold cls at hk
  skip
  refine class_Right_c ?_
  (repeat' (first | with_reducible refine T_brD (fun _ => ?_) (fun _ => ?_) | with_reducible refine T_brN ?_))
  · rename_i h
    rw [if_pos h] at hk
    refine class_Words_c ?_
    have hp := clsW_pos h
    refine T_nz (by omega) ?_
    rw [Int.tdiv_eq_ediv_of_nonneg (by omega), w64 (by have := Int.ediv_nonneg (a := 512) (b := clsW c) (by omega) (by omega); omega) (by have := Int.ediv_le_self (a := 512) (clsW c) (by omega); omega)]
    exact hk
  · rename_i h
    rw [if_neg h] at hk
    exact hk
/-- the least class whose cells have so many words -/
def IsOf (words c : Int) : Prop := 0 ≤ c ∧ c < 32 ∧ words ≤ clsW c ∧ ∀ d, 0 ≤ d → d < c → clsW d < words
theorem class_Of_c {words : Int} {k : Int × Bool → K} (h0 : words < 1 ∨ 256 < words → T B R (k (0, false))) (h1 : 1 ≤ words → words ≤ 256 → ∀ c, IsOf words c → T B R (k (c, true))) :
    T B R (c_class_Of words k) := by
  refine T_of (class_Of_ok words k) ?_
  (repeat' (first | with_reducible refine T_brT ?_ | with_reducible refine T_brD (fun _ => ?_) (fun _ => ?_)))
  · exact h0 (.inl (by assumption))
  · refine class_Most_c ?_
    (repeat' (with_reducible refine T_brD (fun _ => ?_) (fun _ => ?_)))
    · exact h0 (.inr (by assumption))
    · rename_i a b
      have ha : 1 ≤ words := by omega
      have hb : words ≤ 256 := by omega
      refine T_lpX (fun _ _ => R) (fun n (s : Int × Int × Unit) => 0 ≤ s.1 ∧ s.1 ≤ s.2.1 ∧ s.2.1 < 32 ∧ words ≤ clsW s.2.1 ∧ (∀ d, 0 ≤ d → d < s.1 → clsW d < words) ∧ n = (s.2.1 - s.1).toNat) 31 rfl ?_ ?_
      · refine ⟨by simp, by simp, by simp, ?_, fun d h1 h2 => by simp at h2; omega, by simp⟩
        have e : clsW 31 = 256 := by decide
        simp only [e]; exact hb
      · rintro n ⟨lo, hi, u⟩ c ⟨i1, i2, i3, i4, i5, i6⟩ hc
        simp only at i1 i2 i3 i4 i5 i6
        (repeat' (with_reducible refine T_brD (fun _ => ?_) (fun _ => ?_)))
        · rename_i hlt
          simp only at hlt
          have e : IntKind.wrap .i64 (Int.tdiv (IntKind.wrap .i64 (lo + hi)) 2) = (lo + hi) / 2 := by
            rw [w64 (n := lo + hi) (by omega) (by omega), Int.tdiv_eq_ediv_of_nonneg (by omega), w64 (by omega) (by omega)]
          refine class_Words_c ?_
          (repeat' (with_reducible refine T_brD (fun _ => ?_) (fun _ => ?_)))
          · rename_i hw
            rw [e] at hw ⊢
            exact hc (((lo + hi) / 2 - lo).toNat) _ (by omega) ⟨i1, by simp only; omega, by simp only; omega, by simp only; omega, i5, rfl⟩
          · rename_i hw
            rw [e] at hw ⊢
            rw [w64 (n := (lo + hi) / 2 + 1) (by omega) (by omega)]
            refine hc ((hi - ((lo + hi) / 2 + 1)).toNat) _ (by omega) ⟨by simp only; omega, by simp only; omega, i3, i4, fun d h1 h2 => ?_, rfl⟩
            simp only at h2
            by_cases hd : d = (lo + hi) / 2
            · subst hd; omega
            · have := clsW_mono h1 (show d < (lo + hi) / 2 by omega) (by omega); omega
        · rename_i hge
          simp only at hge
          have : lo = hi := by omega
          subst this
          exact h1 ha hb lo ⟨i1, i3, i4, i5⟩
theorem class_Size_c {p d : Int} {k : Int × Int → K} (h0 : p < 0 ∨ 63 < p ∨ d < 0 ∨ 16384 < d → T B R (k (0, 5))) (h1 : 0 ≤ p → p ≤ 63 → 0 ≤ d → d ≤ 16384 → T B R (k (1 + p + d, 0))) :
    T B R (c_class_Size p d k) := by
  refine T_of (class_Size_ok p d k) ?_
  (repeat' (first | with_reducible refine T_brT ?_ | with_reducible refine T_brD (fun _ => ?_) (fun _ => ?_)))
  all_goals first
    | exact h0 (by omega)
    | (rw [w64 (n := 1 + p) (by omega) (by omega), w64 (by omega) (by omega)]; exact h1 (by omega) (by omega) (by omega) (by omega))
end
end Go.Proofs.YtdgcbapclnnkkaaGreat.X
end
section
/- Numbers put into fields of words. Plain arithmetic. -/
namespace Go.Proofs.YtdgcbapclnnkkaaGreat.X
open Go
theorem wu64n (a : Nat) (h : a < 2 ^ 64) : IntKind.wrap .u64 (a : Int) = a := wu64 (by omega) (by omega)
theorem bit_and {a b : Nat} (ha : a < 2 ^ 64) (hb : b < 2 ^ 64) : bitI .and .u64 a b = ((a &&& b : Nat) : Int) := by
  show IntKind.wrap .u64 ((BitVec.ofInt 64 a &&& BitVec.ofInt 64 b).toNat : Int) = _
  rw [BitVec.ofInt_natCast, BitVec.ofInt_natCast, BitVec.toNat_and, BitVec.toNat_ofNat, BitVec.toNat_ofNat, Nat.mod_eq_of_lt ha, Nat.mod_eq_of_lt hb]
  exact wu64n _ (Nat.and_lt_two_pow _ hb)
theorem bit_or {a b : Nat} (ha : a < 2 ^ 64) (hb : b < 2 ^ 64) : bitI .or .u64 a b = ((a ||| b : Nat) : Int) := by
  show IntKind.wrap .u64 ((BitVec.ofInt 64 a ||| BitVec.ofInt 64 b).toNat : Int) = _
  rw [BitVec.ofInt_natCast, BitVec.ofInt_natCast, BitVec.toNat_or, BitVec.toNat_ofNat, BitVec.toNat_ofNat, Nat.mod_eq_of_lt ha, Nat.mod_eq_of_lt hb]
  exact wu64n _ (Nat.or_lt_two_pow ha hb)
theorem bit_andNot {a b i : Nat} (ha : a < 2 ^ i) (hi : i ≤ 64) (hb : b < 2 ^ 64) (hd : 2 ^ i ∣ b) : bitI .andNot .u64 a b = (a : Int) := by
  have ha' : a < 2 ^ 64 := Nat.lt_of_lt_of_le ha (Nat.pow_le_pow_right (by omega) hi)
  show IntKind.wrap .u64 ((BitVec.ofInt 64 a &&& ~~~ BitVec.ofInt 64 b).toNat : Int) = _
  have e : (BitVec.ofInt 64 a &&& ~~~ BitVec.ofInt 64 b) = BitVec.ofNat 64 a := by
    rw [BitVec.ofInt_natCast, BitVec.ofInt_natCast]
    apply BitVec.eq_of_getLsbD_eq
    intro j hj
    simp only [BitVec.getLsbD_and, BitVec.getLsbD_not, BitVec.getLsbD_ofNat, hj, decide_true, Bool.true_and]
    by_cases hij : i ≤ j
    · rw [Nat.testBit_lt_two_pow (Nat.lt_of_lt_of_le ha (Nat.pow_le_pow_right (by omega) hij))]; rw [Bool.false_and]
    · obtain ⟨c, rfl⟩ := hd
      rw [Nat.testBit_two_pow_mul]
      simp only [ge_iff_le, hij, decide_false, Bool.false_and, Bool.not_false, Bool.and_true]
  rw [e, BitVec.toNat_ofNat, Nat.mod_eq_of_lt ha']
  exact wu64n _ ha'
theorem shl_n {a s : Nat} (hs : s ≤ 64) (h : a * 2 ^ s < 2 ^ 64) : shlI .u64 a s = ((a * 2 ^ s : Nat) : Int) := by
  unfold shlI
  have : min ((s : Int)).toNat (IntKind.bits .u64) = s := by show min (Int.toNat (s : Int)) 64 = s; rw [Int.toNat_natCast]; omega
  have e : (a : Int) * 2 ^ s = ((a * 2 ^ s : Nat) : Int) := by rw [Int.natCast_mul, Int.natCast_pow]; rfl
  rw [this, e]
  exact wu64n _ h
theorem shr_n {a s : Nat} (hs : s ≤ 64) : shrI .u64 a s = ((a / 2 ^ s : Nat) : Int) := by
  unfold shrI
  have : min ((s : Int)).toNat (IntKind.bits .u64) = s := by show min (Int.toNat (s : Int)) 64 = s; rw [Int.toNat_natCast]; omega
  have e : (2 : Int) ^ s = ((2 ^ s : Nat) : Int) := by rw [Int.natCast_pow]; rfl
  rw [this, e, Int.fdiv_eq_ediv_of_nonneg _ (Int.natCast_nonneg _)]
  rfl
end Go.Proofs.YtdgcbapclnnkkaaGreat.X
end
section
/- Contracts: fields of words, sums, seals. Conditions: the sizes that are named. -/
set_option linter.unusedVariables false
namespace Go.Proofs.YtdgcbapclnnkkaaGreat.X
open Go
section
variable {B : World} {R : SL}
theorem bits_mask_c {n : Nat} (h0 : 0 < n) (h1 : n < 64) {k : Int → K} (hk : T B R (k ((2 ^ n - 1 : Nat) : Int))) : T B R (c_bits_mask n k) := by
  refine T_of (bits_mask_ok n k) ?_
  (repeat' (with_reducible refine T_brD (fun _ => ?_) (fun _ => ?_)))
  · omega
  · omega
  · have ew : IntKind.wrap .u64 (n : Int) = n := wu64 (by omega) (by omega)
    refine T_nneg (by rw [ew]; omega) ?_
    rw [ew]
    have h2 : 2 ^ n < 2 ^ 64 := Nat.pow_lt_pow_right (by omega) h1
    have h3 : 1 ≤ 2 ^ n := Nat.one_le_two_pow
    have e : shlI .u64 1 n = ((1 * 2 ^ n : Nat) : Int) := shl_n (a := 1) (by omega) (by omega)
    rw [e, wu64 (by omega) (by omega), show ((1 * 2 ^ n : Nat) : Int) - 1 = ((2 ^ n - 1 : Nat) : Int) from by omega]
    exact hk
theorem bits_Get_c {x at_ n : Nat} (hx : x < 2 ^ 64) (ha : at_ < 64) (h0 : 0 < n) (h1 : n < 64) {k : Int → K} (hk : T B R (k ((x / 2 ^ at_ % 2 ^ n : Nat) : Int))) : T B R (c_bits_Get x at_ n k) := by
  refine T_of (bits_Get_ok x at_ n k) ?_
  (repeat' (first | with_reducible refine T_brT ?_ | with_reducible refine T_brD (fun _ => ?_) (fun _ => ?_)))
  · omega
  · omega
  · have ew : IntKind.wrap .u64 (at_ : Int) = at_ := wu64 (by omega) (by omega)
    refine T_nneg (by rw [ew]; omega) ?_
    refine bits_mask_c h0 h1 ?_
    have h2 : 2 ^ n < 2 ^ 64 := Nat.pow_lt_pow_right (by omega) h1
    rw [ew, shr_n (by omega), bit_and (Nat.lt_of_le_of_lt (Nat.div_le_self _ _) hx) (by omega), Nat.and_two_pow_sub_one_eq_mod]
    exact hk
theorem bits_Put_c {w at_ n x : Nat} (hw : w < 2 ^ at_) (h0 : 0 < n) (h1 : at_ + n ≤ 63) (hx : x < 2 ^ n) {k : Int → K} (hk : T B R (k ((w + x * 2 ^ at_ : Nat) : Int))) : T B R (c_bits_Put w at_ n x k) := by
  refine T_of (bits_Put_ok w at_ n x k) ?_
  (repeat' (first | with_reducible refine T_brT ?_ | with_reducible refine T_brD (fun _ => ?_) (fun _ => ?_)))
  · omega
  · omega
  · have ew : IntKind.wrap .u64 (at_ : Int) = at_ := wu64 (by omega) (by omega)
    refine bits_mask_c h0 (by omega) ?_
    refine T_nneg (by rw [ew]; omega) ?_
    refine T_nneg (by rw [ew]; omega) ?_
    have h2 : 2 ^ n * 2 ^ at_ ≤ 2 ^ 63 := by rw [← Nat.pow_add]; exact Nat.pow_le_pow_right (by omega) (by omega)
    have h3 : 1 ≤ 2 ^ n := Nat.one_le_two_pow
    have hpos : 0 < 2 ^ at_ := Nat.two_pow_pos _
    have hm : (2 ^ n - 1) * 2 ^ at_ < 2 ^ 64 := by
      have : (2 ^ n - 1) * 2 ^ at_ ≤ 2 ^ n * 2 ^ at_ := Nat.mul_le_mul_right _ (by omega)
      omega
    have hxm : x * 2 ^ at_ < 2 ^ 64 := by
      have : x * 2 ^ at_ ≤ 2 ^ n * 2 ^ at_ := Nat.mul_le_mul_right _ (by omega)
      omega
    rw [ew, shl_n (by omega) hm, shl_n (by omega) hxm, bit_andNot hw (by omega) hm (Nat.dvd_mul_left _ _), bit_and hxm hm]
    have hw64 : w < 2 ^ 64 := Nat.lt_of_lt_of_le hw (Nat.pow_le_pow_right (by omega) (by omega))
    have e1 : x * 2 ^ at_ &&& (2 ^ n - 1) * 2 ^ at_ = x * 2 ^ at_ := by
      rw [← Nat.shiftLeft_eq, ← Nat.shiftLeft_eq, ← Nat.shiftLeft_and_distrib, Nat.and_two_pow_sub_one_eq_mod, Nat.mod_eq_of_lt hx]
    rw [e1, bit_or hw64 hxm]
    have e2 : w ||| x * 2 ^ at_ = w + x * 2 ^ at_ := by
      rw [Nat.or_comm, Nat.mul_comm, ← Nat.two_pow_add_eq_or_of_lt hw, Nat.add_comm, Nat.mul_comm]
    rw [e2]
    exact hk
theorem bits_Up_c {n s : Int} (hs : 0 < s) (h0 : 0 ≤ n) (h1 : n ≤ 2 ^ 60) {k : Int → K} (hk : T B R (k ((n + s - 1) / s))) : T B R (c_bits_Up n s k) := by
  refine T_of (bits_Up_ok n s k) ?_
  (repeat' (first | with_reducible refine T_brT ?_ | with_reducible refine T_brD (fun _ => ?_) (fun _ => ?_)))
  · have e : (n + s - 1) / s = 0 := Int.ediv_eq_zero_of_lt (by omega) (by omega)
    rw [e] at hk; exact hk
  · omega
  · refine T_nz (by omega) ?_
    have hd : 0 ≤ (n - 1) / s := Int.ediv_nonneg (by omega) (by omega)
    have hd2 : (n - 1) / s ≤ n - 1 := Int.ediv_le_self _ (by omega)
    rw [w64 (n := n - 1) (by omega) (by omega), Int.tdiv_eq_ediv_of_nonneg (by omega), w64 (n := (n - 1) / s) (by omega) (by omega), w64 (by omega) (by omega)]
    have e : (n + s - 1) / s = (n - 1) / s + 1 := by
      rw [show n + s - 1 = n - 1 + 1 * s from by omega, Int.add_mul_ediv_right _ _ (by omega)]
    rw [e] at hk; exact hk
end
end Go.Proofs.YtdgcbapclnnkkaaGreat.X
end
section
/- Slices that are made, and appends of one element, by assertions. Conditions: sizes below 2^40 elements. -/
set_option linter.unusedVariables false
namespace Go.Proofs.YtdgcbapclnnkkaaGreat.X
open Go Go.RowKit
section
variable {B : World} {P Q R : SL} {t : K} {Pg : Program}
theorem repZ_split (z : List Value) {l c : Nat} (h : l ≤ c) : repZ z c = repZ z l ++ repZ z (c - l) := by
  unfold repZ
  rw [← List.flatten_append, List.replicate_append_replicate]
  congr 2; omega
theorem T_mkV {Tid E : TypeId} {sz : Nat} (hK : Kd Pg Tid E sz) {li ci : Int} {k : Nat → K} (h0 : 0 ≤ li) (h1 : li ≤ ci) (h2 : ci ≤ 2 ^ 40)
    (hk : ∀ b, T B (R * vec E sz ⟨some ⟨b, 0, none⟩, li.toNat, ci.toNat⟩ (repZ (zerosP Pg E) li.toNat)) (k b)) : T B R (mkS Pg E li ci k) := by
  have hsz0 : 0 < sz := by have := (okT_spec hK.ok).2; rw [hK.size] at this; omega
  refine T_mkS h0 h1 ?_ fun b => ?_
  · have h3 : bytesP Pg E * ci.toNat ≤ 64 * 2 ^ 40 := Nat.mul_le_mul hK.bytes (by omega)
    have h4 : ((bytesP Pg E * ci.toNat : Nat) : Int) = bytesP Pg E * ci := by rw [Int.natCast_mul]; congr 1; omega
    omega
  · rw [repZ_split (zerosP Pg E) (show li.toNat ≤ ci.toNat by omega)]
    have e : (repZ (zerosP Pg E) li.toNat).length = li.toNat * sz := by rw [repZ_length, hK.zlen]
    refine T_vecI (sz := sz) (s := ⟨some ⟨b, 0, none⟩, li.toNat, ci.toNat⟩) rfl e.symm ?_ ?_ (hk b)
    · rw [e, repZ_length, hK.zlen, ← Nat.add_mul]; congr 1; simp only; omega
    · unfold maxLen; simp only; omega
theorem T_rdp {x : Sl} {sz : Nat} {vs : List Value} (h : Rd P x sz vs) (ht : (x.p = none → vs = []) → T B P t) : T B P t := fun w s => ht (fun e => by
  rcases (h B w s).2.2 with h | ⟨a, h, _⟩
  · exact h.2
  · rw [e] at h; cases h) w s
theorem T_lpW {σ : Type} {body : σ → (σ → K) → K} {s0 : σ} (X : Nat → σ → SL) (φ : Nat → σ → Prop) (n0 : Nat) (hP : ∀ t, T B (X n0 s0) t → T B P t) (h0 : φ n0 s0)
    (h : ∀ n s (c : σ → K), φ n s → (∀ m s', m < n → φ m s' → T B (X m s') (c s')) → T B (X n s) (body s c)) : T B P (lp body s0) := hP _ (T_lpX X φ n0 rfl h0 h)
theorem T_end {α : Type} {x y : α} {k : α → K} (h : T B R (k x)) (hP : ∀ t, T B R t → T B P t) (e : x = y) : T B P (k y) := e ▸ hP _ h
/-- one element, of cells told -/
theorem T_app1 {Tid E : TypeId} {sz ty : Nat} (hK : Kd Pg Tid E sz) {s : Sl} {vs new : List Value} {k : Sl → K} {E' : TypeId} (hn : new.length = sz) (hsc : new.all scal = true)
    (hlen : vs.length / sz + 1 ≤ 2 ^ 40) (hk : ∀ s', T B (R * vec E sz s' (vs ++ new)) (k s')) :
    T B (R * vec E sz s vs) (alK (.cells new.toArray E') fun b => semT Pg (Builtin.append_ #[Tid, Tid] ty #[s.v, .slice (some ⟨b, 0, none⟩) 1 1]) (.one (.sc .slice)) k) := by
  refine T_al fun b => ?_
  refine T_bring (X := vec E sz s vs) (.init .last) ?_
  refine T_append (x := ⟨some ⟨b, 0, none⟩, 1, 1⟩) (new := new) hK (Rd.one Has.last (by rw [hn]; simp) (Nat.le_refl _)) hsc hlen fun s' => ?_
  exact T_dropM (hk s')
end
end Go.Proofs.YtdgcbapclnnkkaaGreat.X
end
section
/- Contracts: the sum of words. Conditions: fewer than 2^20 words. -/
set_option linter.unusedVariables false
set_option maxRecDepth 4000
namespace Go.Proofs.YtdgcbapclnnkkaaGreat.X
open Go
theorem kd_u8 : Kd Tryz.prog 60 5 1 := ⟨by kernel_rfl, by kernel_rfl, by kernel_rfl, by kernel_rfl, by kernel_rfl, by decide +kernel, by decide +kernel⟩
def crcTab : List Int := [0x00000000, 0x1db71064, 0x3b6e20c8, 0x26d930ac, 0x76dc4190, 0x6b6b51f4, 0x4db26158, 0x5005713c, 0xedb88320, 0xf00f9344, 0xd6d6a3e8, 0xcb61b38c, 0x9b64c2b0, 0x86d3d2d4, 0xa00ae278, 0xbdbdf21c]
def tabI (i : Int) : Int := crcTab.getD (bitI .and .u8 i 15).toNat 0
def crcB (sum b : Int) : Int :=
  bitI .xor .u32 (tabI (bitI .xor .u8 (IntKind.wrap .u8 (bitI .xor .u32 (tabI (bitI .xor .u8 (IntKind.wrap .u8 sum) b)) (shrI .u32 sum 4))) (shrI .u8 b 4)))
    (shrI .u32 (bitI .xor .u32 (tabI (bitI .xor .u8 (IntKind.wrap .u8 sum) b)) (shrI .u32 sum 4)) 4)
def crcMore (sum : Int) (l : List Int) : Int := notI .u32 (l.foldl crcB (notI .u32 sum))
def byteI (w : Int) (i : Nat) : Int := IntKind.wrap .u8 (shrI .u64 w ((8 * i : Nat) : Int))
def byteL (w : Int) : List Int := (List.range 8).map (byteI w)
def crcW (l : List Int) : Int := crcMore 0 (l.flatMap byteL)
theorem and15 (i : Int) : 0 ≤ bitI .and .u8 i 15 ∧ bitI .and .u8 i 15 < 16 := by
  have h : (BitVec.ofInt 8 i &&& BitVec.ofInt 8 15).toNat ≤ 15 := by
    rw [BitVec.toNat_and]; exact Nat.and_le_right
  show 0 ≤ IntKind.wrap .u8 ((BitVec.ofInt 8 i &&& BitVec.ofInt 8 15).toNat : Int) ∧ IntKind.wrap .u8 ((BitVec.ofInt 8 i &&& BitVec.ofInt 8 15).toNat : Int) < 16
  have e : IntKind.wrap .u8 ((BitVec.ofInt 8 i &&& BitVec.ofInt 8 15).toNat : Int) = ((BitVec.ofInt 8 i &&& BitVec.ofInt 8 15).toNat : Int) := by
    show ((BitVec.ofInt 8 i &&& BitVec.ofInt 8 15).toNat : Int) % (2 ^ 8 : Int) = _
    omega
  rw [e]; omega
section
variable {B : World} {R : SL}
theorem crc_table_c {i : Int} {k : Int → K} (hk : T B R (k (tabI i))) : T B R (c_crc_table i k) := by
  refine T_of (crc_table_ok i k) ?_
  intro w s
  have h := and15 i
  refine ⟨⟨h.1, by omega⟩, tabI i, ?_, hk w s⟩
  have hl : (bitI .and .u8 i 15).toNat < crcTab.length := by show _ < 16; omega
  have e : (#[.int .u32 0, .int .u32 498536548, .int .u32 997073096, .int .u32 651767980, .int .u32 1994146192, .int .u32 1802195444, .int .u32 1303535960, .int .u32 1342533948, .int .u32 3988292384, .int .u32 4027552580, .int .u32 3604390888, .int .u32 3412177804, .int .u32 2607071920, .int .u32 2262029012, .int .u32 2685067896, .int .u32 3183342108] : Array Value) = (crcTab.map fun n => Value.int .u32 n).toArray := by rfl
  rw [e]
  simp only [List.getElem?_toArray, List.getElem?_map, List.getElem?_eq_getElem hl, Option.map_some, tabI, List.getD_eq_getElem?_getD, Option.getD_some]
theorem crc_More_c {sum : Int} {data : Sl} {l : List Int} (hl : l.length ≤ 2 ^ 40) (hd : Rd R data 1 (l.map fun b => .int .u8 b)) {k : Int → K} (hk : T B R (k (crcMore sum l))) : T B R (c_crc_More sum data k) := by
  refine T_of (crc_More_ok sum data k) ?_
  refine T_rdlen hd fun hn => ?_
  simp only [Nat.mul_one, List.length_map] at hn
  skip
  refine T_lpX (fun _ _ => R) (fun n (s : Int × Int × Unit) => ∃ i : Nat, i ≤ l.length ∧ s.2.1 = i ∧ s.1 = (l.take i).foldl crcB (notI .u32 sum) ∧ n = l.length - i) l.length rfl ⟨0, by omega, rfl, by simp, by omega⟩ ?_
  rintro n ⟨s1, s2, u⟩ c ⟨i, hi, h1, h2, h3⟩ hc
  simp only at h1 h2
  subst h1 h2 h3
  (repeat' (with_reducible refine T_brD (fun _ => ?_) (fun _ => ?_)))
  · rename_i hlt
    simp only at hlt ⊢
    have hlt' : i < l.length := by omega
    refine T_ixV hd (by omega) (n := l[i]) (by simp [hlt']) ?_
    refine crc_table_c ?_
    refine crc_table_c ?_
    refine hc (l.length - (i + 1)) _ (by omega) ⟨i + 1, by omega, w64 (by omega) (by omega), ?_, rfl⟩
    simp only
    rw [List.take_succ_eq_append_getElem hlt', List.foldl_append]
    rfl
  · rename_i hge
    simp only at hge ⊢
    have : i = l.length := by omega
    subst this
    simp only [List.take_length]
    exact hk
theorem byteL_len (l : List Int) : (l.flatMap byteL).length = 8 * l.length := by
  induction l with
  | nil => rfl
  | cons a l ih => rw [List.flatMap_cons, List.length_append, ih]; simp [byteL]; omega
theorem bits_Bytes_c {x : Sl} {l : List Int} (hl : l.length ≤ 2 ^ 20) (hx : Rd R x 1 (l.map fun b => .int .u64 b)) {k : Sl → K}
    (hk : ∀ s, T B (R * vec 5 1 s ((l.flatMap byteL).map fun b => .int .u8 b)) (k s)) : T B R (c_bits_Bytes x k) := by
  refine T_of (bits_Bytes_ok x k) ?_
  refine T_rdlen hx fun hn => ?_
  simp only [Nat.mul_one, List.length_map] at hn
  have h8 : IntKind.wrap .i64 (8 * ((x.n : Nat) : Int)) = ((8 * l.length : Nat) : Int) := by rw [hn, w64 (by omega) (by omega)]; omega
  refine T_mkV kd_u8 (by omega) (by omega) (by omega) fun b => ?_
  refine T_lpX (fun _ s => R * vec 5 1 s.1 (((l.take s.2.1.toNat).flatMap byteL).map fun b => .int .u8 b))
    (fun n (s : Sl × Int × Unit) => ∃ i : Nat, i ≤ l.length ∧ s.2.1 = i ∧ n = l.length - i) l.length rfl ⟨0, by omega, rfl, by omega⟩ ?_
  rintro n ⟨s1, s2, u⟩ c ⟨i, hi, h1, h2⟩ hc
  simp only at h1
  subst h1 h2
  simp only [Int.toNat_natCast]
  (repeat' (with_reducible refine T_brD (fun _ => ?_) (fun _ => ?_)))
  · rename_i hlt
    have hlt' : i < l.length := by omega
    refine T_ixV hx.init (by omega) (n := l[i]) (by simp [hlt']) ?_
    refine T_lpX (fun _ s => R * vec 5 1 s.1 (((l.take i).flatMap byteL ++ (List.range s.2.1.toNat).map (byteI l[i])).map fun b => .int .u8 b))
      (fun n (s : Sl × Int × Unit) => ∃ j : Nat, j ≤ 8 ∧ s.2.1 = j ∧ n = 8 - j) 8 (by simp) ⟨0, by omega, rfl, by omega⟩ ?_
    rintro n ⟨s1, s2, u⟩ c' ⟨j, hj, h1, h2⟩ hc'
    simp only at h1
    subst h1 h2
    simp only [Int.toNat_natCast]
    (repeat' (with_reducible refine T_brD (fun _ => ?_) (fun _ => ?_)))
    · rename_i hj8
      have e1 : IntKind.wrap .i64 (8 * ((j : Nat) : Int)) = ((8 * j : Nat) : Int) := by rw [w64 (by omega) (by omega)]; omega
      have e2 : IntKind.wrap .u64 (IntKind.wrap .i64 (8 * ((j : Nat) : Int))) = ((8 * j : Nat) : Int) := by rw [e1, wu64 (by omega) (by omega)]
      refine T_nneg (by omega) ?_
      refine T_app1 (new := [.int .u8 (IntKind.wrap .u8 (shrI .u64 l[i] (IntKind.wrap .u64 (IntKind.wrap .i64 (8 * (j : Int))))))]) kd_u8 rfl rfl ?_ fun s' => ?_
      · have := byteL_len (l.take i)
        simp only [List.length_map, List.length_append, List.length_range, List.length_take, Nat.div_one] at this ⊢
        omega
      · refine T.perm ?_ (hc' (8 - (j + 1)) (s', IntKind.wrap .i64 ((j : Int) + 1), ()) (by omega) ⟨j + 1, by omega, w64 (by omega) (by omega), rfl⟩)
        have e : (IntKind.wrap .i64 ((j : Int) + 1)).toNat = j + 1 := by rw [w64 (by omega) (by omega)]; omega
        simp only [e, List.range_succ, List.map_append, List.map_cons, List.map_nil, List.append_assoc]
        unfold byteI
        rw [e2]
    · rename_i hj8
      have : j = 8 := by omega
      subst this
      refine T.perm ?_ (hc (l.length - (i + 1)) (s1, IntKind.wrap .i64 (i + 1), ()) (by omega) ⟨i + 1, by omega, w64 (by omega) (by omega), rfl⟩)
      have e : (IntKind.wrap .i64 ((i : Int) + 1)).toNat = i + 1 := by rw [w64 (by omega) (by omega)]; omega
      simp only [e]
      rw [List.take_succ_eq_append_getElem hlt', List.flatMap_append]
      simp [byteL]
  · rename_i hge
    have : i = l.length := by omega
    subst this
    simp only [List.take_length]
    exact hk s1
theorem crc_Words_c {x : Sl} {l : List Int} (hl : l.length ≤ 2 ^ 20) (hx : Rd R x 1 (l.map fun b => .int .u64 b)) {k : Int → K}
    (hk : T B R (k (crcW l))) : T B R (c_crc_Words x k) := by
  refine T_of (crc_Words_ok x k) ?_
  refine bits_Bytes_c hl hx fun s => ?_
  refine T_of (crc_Sum_ok s _) ?_
  refine crc_More_c (l := l.flatMap byteL) ?_ (Rd.vec Frm.last) ?_
  · rw [byteL_len]; omega
  · exact hk.weak
end
end Go.Proofs.YtdgcbapclnnkkaaGreat.X
end
section
/- Contracts: seals, headers of blocks and of objects. Conditions: places below 2^40. -/
set_option linter.unusedVariables false
set_option maxRecDepth 4000
namespace Go.Proofs.YtdgcbapclnnkkaaGreat.X
open Go
theorem wu32' (n : Int) : IntKind.wrap .u32 n = n % 4294967296 := by
  unfold IntKind.wrap
  simp only [IntKind.bits, IntKind.signed, Bool.false_and, Bool.false_eq_true, if_false]
  rfl
theorem notI_rng (x : Int) : 0 ≤ notI .u32 x ∧ notI .u32 x < 4294967296 := by
  unfold notI bitI
  simp only [wu32']
  omega
theorem crcW_rng (l : List Int) : 0 ≤ crcW l ∧ crcW l < 4294967296 := notI_rng _
def sealI (n place : Int) : Int := n + 4294967296 * crcW [n, IntKind.wrap .u64 place]
theorem sealI_rng {n p : Int} (h0 : 0 ≤ n) (h1 : n < 4294967296) : 0 ≤ sealI n p ∧ sealI n p < 18446744073709551616 ∧ sealI n p % 4294967296 = n := by
  have := crcW_rng [n, IntKind.wrap .u64 p]
  unfold sealI; omega
section
variable {B : World} {R : SL}
theorem crc_Seal_c {n p : Int} (h0 : 0 ≤ n) (h1 : n < 4294967296) {k : Int → K} (hk : T B R (k (sealI n p))) : T B R (c_crc_Seal n p k) := by
  refine T_of (crc_Seal_ok n p k) ?_
  (repeat ((with_reducible refine T_al ?_; intro _)))
  rename_i b
  rw [wu64 h0 (by omega)]
  refine crc_Words_c (l := [n, IntKind.wrap .u64 p]) (by simp) (Rd.one Has.last rfl (Nat.le_refl _)) ?_
  have hc := crcW_rng [n, IntKind.wrap .u64 p]
  obtain ⟨c, hc'⟩ : ∃ c : Nat, crcW [n, IntKind.wrap .u64 p] = c := ⟨_, (Int.toNat_of_nonneg hc.1).symm⟩
  obtain ⟨m, rfl⟩ : ∃ m : Nat, n = m := ⟨_, (Int.toNat_of_nonneg h0).symm⟩
  unfold sealI at hk
  rw [hc'] at hc hk ⊢
  rw [wu64 (n := (c : Int)) (by omega) (by omega)]
  have hlt : c * 2 ^ 32 < 2 ^ 64 := by show c * 4294967296 < 18446744073709551616; omega
  have hm : m < 2 ^ 32 := by show m < 4294967296; omega
  have e1 : shlI .u64 (c : Int) 32 = ((c * 2 ^ 32 : Nat) : Int) := shl_n (s := 32) (by decide) hlt
  have e2 : c * 2 ^ 32 ||| m = c * 2 ^ 32 + m := by
    rw [Nat.mul_comm, ← Nat.two_pow_add_eq_or_of_lt hm]
  rw [e1, bit_or hlt (by omega), e2]
  have e3 : ((c * 2 ^ 32 + m : Nat) : Int) = (m : Int) + 4294967296 * c := by
    show ((c * 4294967296 + m : Nat) : Int) = _
    omega
  rw [e3]
  exact hk.weak
def openI (w p : Int) : Int × Bool := if sealI (w % 4294967296) p = w then (w % 4294967296, true) else (0, false)
theorem crc_Open_c {w p : Int} {k : Int × Bool → K} (hk : T B R (k (openI w p))) : T B R (c_crc_Open w p k) := by
  refine T_of (crc_Open_ok w p k) ?_
  unfold openI at hk
  refine crc_Seal_c (by rw [wu32']; omega) (by rw [wu32']; omega) ?_
  rw [wu32']
  (repeat' (with_reducible refine T_brNE (fun _ => ?_) (fun _ => ?_)))
  · rename_i h; rw [if_neg h] at hk; exact hk
  · rename_i h; rw [if_pos h] at hk; exact hk
/-! headers of blocks: kind, class, length -/
abbrev Hd := Int × Int × Int
def hRight (h : Hd) : Prop := (h = (0, 0, 0)) ∨ (h.1 = 1 ∧ 0 ≤ h.2.1 ∧ h.2.1 < 32 ∧ h.2.2 = 0) ∨ ((h.1 = 2 ∨ h.1 = 3) ∧ h.2.1 = 0 ∧ 1 ≤ h.2.2 ∧ h.2.2 < 256)
instance (h : Hd) : Decidable (hRight h) := by unfold hRight; infer_instance
theorem bhead_Right_c {h : Hd} {k : Bool → K} (hk : T B R (k (decide (hRight h)))) : T B R (c_bhead_Header_Right h k) := by
  refine T_of (bhead_Header_Right_ok h k) ?_
  obtain ⟨a, b, c⟩ := h
  (repeat' (first | ((with_reducible apply T_ldI); (focus rfl); (focus exact hasA); (focus rfl)) | (with_reducible refine T_al ?_; intro _) | with_reducible refine T_brD (fun _ => ?_) (fun _ => ?_) | with_reducible refine T_brE (fun _ => ?_) (fun _ => ?_)))
  case ht.refine_2.refine_1.ht =>
    refine class_Right_c ?_
    (repeat' (first | ((with_reducible apply T_ldI); (focus rfl); (focus exact hasA); (focus rfl)) | with_reducible refine T_brD (fun _ => ?_) (fun _ => ?_)))
    all_goals
      (refine T_end hk (by intro t h; repeat (first | exact h | refine T.weak ?_)) ?_)
      rw [Bool.eq_iff_iff]
      simp only [hRight, decide_eq_true_eq, beq_iff_eq, Prod.mk.injEq, Bool.false_eq_true] at *
      first | omega | (constructor <;> (intro h'; first | omega | (rcases h' with h' | h' | h' <;> omega))) 
  all_goals
    (refine T_end hk (by intro t h; repeat (first | exact h | refine T.weak ?_)) ?_)
    rw [Bool.eq_iff_iff]
    simp only [hRight, decide_eq_true_eq, Bool.and_eq_true, beq_iff_eq, Prod.mk.injEq, Bool.false_eq_true, and_true] at *
    first | omega | (constructor <;> (intro h'; first | omega | (rcases h' with h' | h' | h' <;> omega))) 
def hNum (h : Hd) : Int := h.1 + h.2.1 * 4 + h.2.2 * 256
def benc (b : Int) (h : Hd) : Int := if hRight h then sealI (hNum h) (256 + b) else 0
theorem hRight_rng {h : Hd} (r : hRight h) : 0 ≤ h.1 ∧ h.1 < 4 ∧ 0 ≤ h.2.1 ∧ h.2.1 < 64 ∧ 0 ≤ h.2.2 ∧ h.2.2 < 65536 := by
  obtain ⟨a, b, c⟩ := h
  simp only [hRight, Prod.mk.injEq] at *
  omega
theorem bits_Put_i {w at_ n x r : Int} (h : 0 ≤ w ∧ 0 ≤ x ∧ 0 ≤ at_ ∧ 0 ≤ n) (hw : w < 2 ^ at_.toNat) (h0 : 0 < n) (h1 : at_ + n ≤ 63) (hx : x < 2 ^ n.toNat) (hr : r = w + x * 2 ^ at_.toNat) {k : Int → K} (hk : T B R (k r)) : T B R (c_bits_Put w at_ n x k) := by
  obtain ⟨hw0, hx0, ha0, hn0⟩ := h
  obtain ⟨w, rfl⟩ := Int.eq_ofNat_of_zero_le hw0
  obtain ⟨x, rfl⟩ := Int.eq_ofNat_of_zero_le hx0
  obtain ⟨a, rfl⟩ := Int.eq_ofNat_of_zero_le ha0
  obtain ⟨n, rfl⟩ := Int.eq_ofNat_of_zero_le hn0
  simp only [Int.toNat_natCast] at *
  refine bits_Put_c (by exact_mod_cast hw) (by omega) (by omega) (by exact_mod_cast hx) ?_
  rw [hr] at hk
  have e : ((w + x * 2 ^ a : Nat) : Int) = (w : Int) + x * 2 ^ a := by rw [Int.natCast_add, Int.natCast_mul, Int.natCast_pow]; rfl
  rw [e]; exact hk
theorem bits_Get_i {x at_ n r : Int} (h : 0 ≤ x ∧ 0 ≤ at_ ∧ 0 < n) (hx : x < 18446744073709551616) (ha : at_ < 64) (h1 : n < 64) (hr : r = x / 2 ^ at_.toNat % 2 ^ n.toNat) {k : Int → K} (hk : T B R (k r)) : T B R (c_bits_Get x at_ n k) := by
  obtain ⟨hx0, ha0, hn0⟩ := h
  obtain ⟨x, rfl⟩ := Int.eq_ofNat_of_zero_le hx0
  obtain ⟨a, rfl⟩ := Int.eq_ofNat_of_zero_le ha0
  obtain ⟨n, rfl⟩ := Int.eq_ofNat_of_zero_le (Int.le_of_lt hn0)
  simp only [Int.toNat_natCast] at *
  refine bits_Get_c (by omega) (by omega) (by omega) (by omega) ?_
  rw [hr] at hk
  have e : ((x / 2 ^ a % 2 ^ n : Nat) : Int) = (x : Int) / 2 ^ a % 2 ^ n := by rw [Int.natCast_emod, Int.natCast_ediv, Int.natCast_pow, Int.natCast_pow]; rfl
  rw [e]; exact hk
theorem bhead_Encode_c {b : Int} {h : Hd} (hb : 0 ≤ b) (hb2 : b ≤ 2 ^ 40) {k : Int → K} (hk : T B R (k (benc b h))) : T B R (c_bhead_Encode b h k) := by
  refine T_of (bhead_Encode_ok b h k) ?_
  (repeat (first | ((with_reducible apply T_ldI); (focus rfl); (focus exact hasA); (focus rfl)) | (with_reducible refine T_al ?_; intro _)))
  refine bhead_Right_c ?_
  unfold benc at hk
  (repeat' (first | ((with_reducible apply T_ldI); (focus rfl); (focus exact hasA); (focus rfl)) | with_reducible refine T_brD (fun _ => ?_) (fun _ => ?_) | with_reducible refine T_brN ?_))
  · rename_i hr
    rw [if_pos hr] at hk
    have hg := hRight_rng hr
    (dsimp only [bhead_Encode, bhead_Encode_s0, bhead_Encode_s1, bhead_Encode_s2, bhead_Encode_s3, bhead_Encode_s4, bhead_Encode_s5, bhead_Encode_s6, bhead_Encode_s7])
    simp only at hg
    rw [wu64 (by omega) (by omega)]
    refine bits_Put_i (r := h.1) (by omega) (by decide) (by omega) (by omega) (by show h.1 < 4; omega) (by show h.1 = 0 + h.1 * 1; omega) ?_
    (repeat (((with_reducible apply T_ldI); (focus rfl); (focus exact hasA); (focus rfl))))
    rw [wu64 (by omega) (by omega)]
    refine bits_Put_i (r := h.1 + h.2.1 * 4) (by omega) (by show h.1 < 4; omega) (by omega) (by omega) (by show h.2.1 < 64; omega) rfl ?_
    (repeat (((with_reducible apply T_ldI); (focus rfl); (focus exact hasA); (focus rfl))))
    rw [wu64 (by omega) (by omega)]
    refine bits_Put_i (r := hNum h) (by omega) (by show h.1 + h.2.1 * 4 < 256; omega) (by omega) (by omega) (by show h.2.2 < 65536; omega) rfl ?_
    have hn : 0 ≤ hNum h ∧ hNum h < 4294967296 := by unfold hNum; omega
    rw [wu32', Int.emod_eq_of_lt hn.1 hn.2, w64 (by omega) (by omega)]
    refine crc_Seal_c hn.1 hn.2 ?_
    exact hk.weak
  · rename_i hr
    rw [if_neg hr] at hk
    exact hk.weak
def bnum (x : Int) : Hd := (x % 4, x / 4 % 64, x / 256 % 65536)
def bdec (b w : Int) : Hd × Int := if sealI (w % 4294967296) (256 + b) = w then (if benc b (bnum (w % 4294967296)) = w then (bnum (w % 4294967296), 0) else ((0, 0, 0), 26)) else ((0, 0, 0), 25)
theorem bhead_Decode_c {b w : Int} (hb : 0 ≤ b) (hb2 : b ≤ 2 ^ 40) {k : Hd × Int → K} (hk : T B R (k (bdec b w))) : T B R (c_bhead_Decode b w k) := by
  refine T_of (bhead_Decode_ok b w k) ?_
  (repeat ((with_reducible refine T_al ?_; intro _)))
  (dsimp only [bhead_Decode, bhead_Decode_s0, bhead_Decode_s1, bhead_Decode_s2, bhead_Decode_s3, bhead_Decode_s4, bhead_Decode_s5, bhead_Decode_s6, bhead_Decode_s7, bhead_Decode_s8, bhead_Decode_s9, bhead_Decode_s10, bhead_Decode_s11])
  rw [w64 (by omega) (by omega)]
  refine crc_Open_c ?_
  unfold bdec at hk
  unfold openI
  split
  · rename_i ho
    rw [if_pos ho] at hk
    skip
    have hm : 0 ≤ w % 4294967296 ∧ w % 4294967296 < 4294967296 := by omega
    generalize w % 4294967296 = x at *
    rw [wu64 (by omega) (by omega)]
    refine bits_Get_i (r := x % 4) (by omega) (by omega) (by omega) (by omega) (by show x % 4 = x / 1 % 4; rw [Int.ediv_one]) ?_
    refine bits_Get_i (r := x / 4 % 64) (by omega) (by omega) (by omega) (by omega) rfl ?_
    refine bits_Get_i (r := x / 256 % 65536) (by omega) (by omega) (by omega) (by omega) rfl ?_
    rw [w64 (by omega) (by omega), w64 (by omega) (by omega), w64 (by omega) (by omega)]
    (repeat (first | ((with_reducible apply T_ldI); (focus rfl); (focus exact hasA); (focus rfl)) | (with_reducible refine T_al ?_; intro _) | ((with_reducible apply T_st); (focus rfl); (focus exact updA); (focus simp); simp only [List.set, Nat.zero_add, Nat.reduceAdd])))
    refine bhead_Encode_c hb hb2 ?_
    (repeat' (first | ((with_reducible apply T_ldI); (focus rfl); (focus exact hasA); (focus rfl)) | ((with_reducible apply T_st); (focus rfl); (focus exact updA); (focus simp); simp only [List.set, Nat.zero_add, Nat.reduceAdd]) | with_reducible refine T_brNE (fun _ => ?_) (fun _ => ?_)))
    · rename_i hne
      (refine T_end hk (by intro t h; repeat (first | exact h | refine T.weak ?_)) ?_)
      exact if_neg hne
    · rename_i he
      (refine T_end hk (by intro t h; repeat (first | exact h | refine T.weak ?_)) ?_)
      exact if_pos he
  · rename_i ho
    rw [if_neg ho] at hk
    (repeat' (first | with_reducible refine T_brF ?_ | ((with_reducible apply T_ldI); (focus rfl); (focus exact hasA); (focus rfl)) | ((with_reducible apply T_st); (focus rfl); (focus exact updA); (focus simp); simp only [List.set, Nat.zero_add, Nat.reduceAdd]) | with_reducible refine T_brN ?_))
    (refine T_end hk (by intro t h; repeat (first | exact h | refine T.weak ?_)) ?_)
    rfl
end
theorem bdec_benc {b : Int} {h : Hd} (r : hRight h) : bdec b (benc b h) = (h, 0) := by
  have hg := hRight_rng r
  obtain ⟨a, c, d⟩ := h
  simp only at hg
  have hn : 0 ≤ hNum (a, c, d) ∧ hNum (a, c, d) < 4294967296 := by unfold hNum; simp only; omega
  have e : bnum (hNum (a, c, d)) = (a, c, d) := by
    unfold bnum hNum; simp only [Prod.mk.injEq]; omega
  have hb : benc b (a, c, d) = sealI (hNum (a, c, d)) (256 + b) := by unfold benc; rw [if_pos r]
  unfold bdec
  rw [hb, (sealI_rng hn.1 hn.2).2.2, if_pos rfl, e, hb, if_pos rfl]
end Go.Proofs.YtdgcbapclnnkkaaGreat.X
end
section
/- Contracts: objects' headers, cells. Conditions: at most 2^40 blocks. -/
set_option linter.unusedVariables false
set_option maxRecDepth 4000
namespace Go.Proofs.YtdgcbapclnnkkaaGreat.X
open Go
/-- the least class for so many words -/
def ofC (w : Int) : Int := (((List.range 32).find? fun (c : Nat) => decide (w ≤ clsW (c : Int))).getD 0 : Nat)
def kOf (w : Int) : Int × Bool := if 1 ≤ w ∧ w ≤ 256 then (ofC w, true) else (0, false)
theorem ofC_eq {w c : Int} (h : IsOf w c) : ofC w = c := by
  obtain ⟨h0, h1, h2, h3⟩ := h
  obtain ⟨n, rfl⟩ := Int.eq_ofNat_of_zero_le h0
  have : (List.range 32).find? (fun (c : Nat) => decide (w ≤ clsW (c : Int))) = some n := by
    rw [List.find?_range_eq_some]
    refine ⟨by simpa using h2, by simp; omega, fun j hj => ?_⟩
    have := h3 j (by omega) (by omega)
    simp; omega
  unfold ofC; rw [this]; rfl
section
variable {B : World} {R : SL}
theorem class_Of_p {w : Int} {k : Int × Bool → K} (hk : T B R (k (kOf w))) : T B R (c_class_Of w k) := by
  unfold kOf at hk
  refine class_Of_c (fun h => ?_) (fun h1 h2 c hc => ?_)
  · rw [if_neg (by omega)] at hk; exact hk
  · rw [if_pos (by omega), ofC_eq hc] at hk; exact hk
abbrev Ob := Int × Int
def oRight (o : Ob) : Prop := 0 ≤ o.1 ∧ o.1 ≤ 63 ∧ 0 ≤ o.2 ∧ o.2 ≤ 16384
instance (o : Ob) : Decidable (oRight o) := by unfold oRight; infer_instance
def oSize (o : Ob) : Int := if oRight o then 1 + o.1 + o.2 else 0
theorem oSize_rng (o : Ob) : 0 ≤ oSize o ∧ oSize o ≤ 16448 := by
  unfold oSize; split
  · rename_i h; unfold oRight at h; omega
  · omega
theorem ohead_Size_c {o : Ob} {k : Int → K} (hk : T B R (k (oSize o))) : T B R (c_ohead_Object_Size o k) := by
  refine T_of (ohead_Object_Size_ok o k) ?_
  (repeat (first | ((with_reducible apply T_ldI); (focus rfl); (focus exact hasA); (focus rfl)) | (with_reducible refine T_al ?_; intro _)))
  refine class_Size_c (fun h => ?_) (fun h1 h2 h3 h4 => ?_)
  · (repeat' (with_reducible refine T_brNE (fun _ => ?_) (fun _ => ?_)))
    · (refine T_end hk (by intro t h; repeat (first | exact h | refine T.weak ?_)) ?_)
      exact if_neg (by unfold oRight; omega)
    · simp only at *; omega
  · (repeat' (with_reducible refine T_brNE (fun _ => ?_) (fun _ => ?_)))
    · simp only at *; omega
    · (refine T_end hk (by intro t h; repeat (first | exact h | refine T.weak ?_)) ?_)
      exact if_pos (by unfold oRight; omega)
theorem ohead_Small_c {o : Ob} {k : Int × Bool → K} (hk : T B R (k (kOf (oSize o)))) : T B R (c_ohead_Object_Small o k) := by
  refine T_of (ohead_Object_Small_ok o k) ?_
  (repeat (first | ((with_reducible apply T_ldI); (focus rfl); (focus exact hasA); (focus rfl)) | (with_reducible refine T_al ?_; intro _)))
  refine ohead_Size_c ?_
  refine class_Of_p ?_
  skip
  (refine T_end hk (by intro t h; repeat (first | exact h | refine T.weak ?_)) ?_)
  rfl
def oBlocks (o : Ob) : Int := if 1 ≤ oSize o ∧ oSize o ≤ 256 then 0 else (oSize o + 511) / 512
theorem ohead_Blocks_c {o : Ob} {k : Int → K} (hk : T B R (k (oBlocks o))) : T B R (c_ohead_Object_Blocks o k) := by
  refine T_of (ohead_Object_Blocks_ok o k) ?_
  have hr := oSize_rng o
  (repeat (first | ((with_reducible apply T_ldI); (focus rfl); (focus exact hasA); (focus rfl)) | (with_reducible refine T_al ?_; intro _)))
  refine ohead_Small_c ?_
  unfold kOf
  split
  · rename_i h
    (repeat' (with_reducible refine T_brT ?_))
    (refine T_end hk (by intro t h; repeat (first | exact h | refine T.weak ?_)) ?_)
    unfold oBlocks; rw [if_pos h]
  · rename_i h
    (repeat' (first | with_reducible refine T_brF ?_ | ((with_reducible apply T_ldI); (focus rfl); (focus exact hasA); (focus rfl))))
    refine ohead_Size_c ?_
    refine bits_Up_c (by omega) (by show 0 ≤ oSize o; omega) (by show oSize o ≤ _; omega) ?_
    (refine T_end hk (by intro t h; repeat (first | exact h | refine T.weak ?_)) ?_)
    unfold oBlocks; rw [if_neg h]
    show _ = (oSize o + 512 - 1) / 512
    congr 1; omega
def oNum (o : Ob) : Int := 165 + o.1 * 256 + o.2 * 16384
def oenc (a : Int) (o : Ob) : Int := if oSize o = 0 then 0 else sealI (oNum o) a
theorem ohead_Encode_c {a : Int} {o : Ob} {k : Int → K} (hk : T B R (k (oenc a o))) : T B R (c_ohead_Object_Encode o a k) := by
  refine T_of (ohead_Object_Encode_ok o a k) ?_
  (repeat (first | ((with_reducible apply T_ldI); (focus rfl); (focus exact hasA); (focus rfl)) | (with_reducible refine T_al ?_; intro _)))
  refine ohead_Size_c ?_
  (repeat' (first | ((with_reducible apply T_ldI); (focus rfl); (focus exact hasA); (focus rfl)) | with_reducible refine T_brE (fun _ => ?_) (fun _ => ?_)))
  · rename_i h
    (refine T_end hk (by intro t h; repeat (first | exact h | refine T.weak ?_)) ?_)
    unfold oenc; exact if_pos h
  · rename_i h
    have h' : oSize o ≠ 0 := h
    have hr : oRight o := by
      by_cases hr : oRight o
      · exact hr
      · unfold oSize at h'; rw [if_neg hr] at h'; exact absurd rfl h'
    unfold oRight at hr
    (dsimp only [ohead_Object_Encode, ohead_Object_Encode_s0, ohead_Object_Encode_s1, ohead_Object_Encode_s2, ohead_Object_Encode_s3, ohead_Object_Encode_s4, ohead_Object_Encode_s5, ohead_Object_Encode_s6])
    rw [wu64 (by omega) (by omega)]
    refine bits_Put_i (r := 165 + o.1 * 256) (by omega) (by decide) (by omega) (by omega) (by show o.1 < 64; omega) rfl ?_
    (repeat (((with_reducible apply T_ldI); (focus rfl); (focus exact hasA); (focus rfl))))
    rw [wu64 (by omega) (by omega)]
    refine bits_Put_i (r := oNum o) (by omega) (by show 165 + o.1 * 256 < 16384; omega) (by omega) (by omega) (by show o.2 < 32768; omega) rfl ?_
    have hn : 0 ≤ oNum o ∧ oNum o < 4294967296 := by unfold oNum; omega
    rw [wu32', Int.emod_eq_of_lt hn.1 hn.2]
    refine crc_Seal_c hn.1 hn.2 ?_
    (refine T_end hk (by intro t h; repeat (first | exact h | refine T.weak ?_)) ?_)
    unfold oenc; exact if_neg h'
def onum (x : Int) : Ob := (x / 256 % 64, x / 16384 % 32768)
def odec (a w : Int) : Ob × Int := if sealI (w % 4294967296) a = w then (if oenc a (onum (w % 4294967296)) = w then (onum (w % 4294967296), 0) else ((0, 0), 26)) else ((0, 0), 25)
theorem ohead_Decode_c {a w : Int} {k : Ob × Int → K} (hk : T B R (k (odec a w))) : T B R (c_ohead_Decode a w k) := by
  refine T_of (ohead_Decode_ok a w k) ?_
  (repeat ((with_reducible refine T_al ?_; intro _)))
  (dsimp only [ohead_Decode, ohead_Decode_s0, ohead_Decode_s1, ohead_Decode_s2, ohead_Decode_s3, ohead_Decode_s4, ohead_Decode_s5, ohead_Decode_s6, ohead_Decode_s7, ohead_Decode_s8, ohead_Decode_s9, ohead_Decode_s10, ohead_Decode_s11])
  refine crc_Open_c ?_
  unfold odec at hk
  unfold openI
  split
  · rename_i ho
    rw [if_pos ho] at hk
    skip
    have hm : 0 ≤ w % 4294967296 ∧ w % 4294967296 < 4294967296 := by omega
    generalize w % 4294967296 = x at *
    rw [wu64 (by omega) (by omega)]
    refine bits_Get_i (r := x / 256 % 64) (by omega) (by omega) (by omega) (by omega) rfl ?_
    refine bits_Get_i (r := x / 16384 % 32768) (by omega) (by omega) (by omega) (by omega) rfl ?_
    rw [w64 (by omega) (by omega), w64 (by omega) (by omega)]
    (repeat (first | ((with_reducible apply T_ldI); (focus rfl); (focus exact hasA); (focus rfl)) | (with_reducible refine T_al ?_; intro _) | ((with_reducible apply T_st); (focus rfl); (focus exact updA); (focus simp); simp only [List.set, Nat.zero_add, Nat.reduceAdd])))
    refine ohead_Encode_c ?_
    (repeat' (first | ((with_reducible apply T_ldI); (focus rfl); (focus exact hasA); (focus rfl)) | ((with_reducible apply T_st); (focus rfl); (focus exact updA); (focus simp); simp only [List.set, Nat.zero_add, Nat.reduceAdd]) | with_reducible refine T_brNE (fun _ => ?_) (fun _ => ?_)))
    · rename_i hne
      (refine T_end hk (by intro t h; repeat (first | exact h | refine T.weak ?_)) ?_)
      exact if_neg hne
    · rename_i he
      (refine T_end hk (by intro t h; repeat (first | exact h | refine T.weak ?_)) ?_)
      exact if_pos he
  · rename_i ho
    rw [if_neg ho] at hk
    (repeat' (first | with_reducible refine T_brF ?_ | ((with_reducible apply T_ldI); (focus rfl); (focus exact hasA); (focus rfl)) | ((with_reducible apply T_st); (focus rfl); (focus exact updA); (focus simp); simp only [List.set, Nat.zero_add, Nat.reduceAdd]) | with_reducible refine T_brN ?_))
    (refine T_end hk (by intro t h; repeat (first | exact h | refine T.weak ?_)) ?_)
    rfl
def cellAt (g k : Int) (c : Int × Int) : Int := if ¬ (0 ≤ k ∧ k < 32) ∨ c.1 < 1 ∨ c.1 ≥ g ∨ c.2 < 0 ∨ c.2 ≥ cls k then -1 else c.1 * 512 + c.2 * clsW k
theorem cls_rng {k : Int} (h : 0 ≤ k ∧ k < 32) : 2 ≤ cls k ∧ cls k ≤ 256 ∧ cls k * clsW k ≤ 512 := by
  unfold cls clsW; rw [if_pos h, if_pos h]
  have : ∀ n : Nat, n < 32 → 2 ≤ 512 / szs.getD n 0 ∧ 512 / szs.getD n 0 ≤ 256 ∧ 512 / szs.getD n 0 * szs.getD n 0 ≤ 512 := by decide
  exact this k.toNat (by omega)
theorem cells_Address_c {g c : Int} {x : Int × Int} (h1 : g ≤ 2 ^ 40) {k : Int → K} (hk : T B R (k (cellAt g c x))) : T B R (c_cells_Address g c x k) := by
  refine T_of (cells_Address_ok g c x k) ?_
  unfold cellAt at hk
  (repeat (first | with_reducible refine T_tick ?_ | (with_reducible refine T_al ?_; intro _)))
  refine class_Right_c ?_
  (repeat' (first | with_reducible refine T_brT ?_ | ((with_reducible apply T_ldI); (focus rfl); (focus exact hasA); (focus rfl)) | with_reducible refine T_brD (fun _ => ?_) (fun _ => ?_) | with_reducible refine T_brN ?_))
  all_goals try ((refine T_end hk (by intro t h; repeat (first | exact h | refine T.weak ?_)) ?_); exact if_pos (by omega))
  refine class_Cells_c ?_
  (repeat' (first | with_reducible refine T_tick ?_ | with_reducible refine T_chk0 ?_ | ((with_reducible apply T_ldI); (focus rfl); (focus exact hasA); (focus rfl)) | ((with_reducible apply T_chk); (focus rfl); (focus exact hasA); (focus rfl)) | with_reducible refine T_brD (fun _ => ?_) (fun _ => ?_)))
  · (refine T_end hk (by intro t h; repeat (first | exact h | refine T.weak ?_)) ?_); exact if_pos (by omega)
  · have hr := cls_rng (k := c) (by omega)
    have hp := clsW_pos (c := c) (by omega)
    refine geom_First_c h1 ?_
    (repeat (first | with_reducible refine T_chk0 ?_ | ((with_reducible apply T_chk); (focus rfl); (focus exact hasA); (focus rfl))))
    refine class_Words_c ?_
    (repeat (first | with_reducible refine T_chk0 ?_ | ((with_reducible apply T_chk); (focus rfl); (focus exact hasA); (focus rfl))))
    have hm : x.2 * clsW c ≤ cls c * clsW c := Int.mul_le_mul_of_nonneg_right (by omega) (by omega)
    have hm0 : 0 ≤ x.2 * clsW c := Int.mul_nonneg (by omega) (by omega)
    have hf : first g x.1 = x.1 * 512 := by unfold first; rw [if_neg (by omega)]
    rw [hf, w64 (n := x.2 * clsW c) (by omega) (by omega), w64 (by omega) (by omega)]
    (refine T_end hk (by intro t h; repeat (first | exact h | refine T.weak ?_)) ?_)
    exact if_neg (by omega)
def cellOf (g k a : Int) : (Int × Int) × Bool :=
  if ¬ (0 ≤ k ∧ k < 32) ∨ ¬ 1 ≤ blockOf g a then ((0, 0), false) else ((blockOf g a, a % 512 / clsW k), decide (cellAt g k (blockOf g a, a % 512 / clsW k) = a))
theorem cells_At_c {g c a : Int} (h0 : 0 ≤ g) (h1 : g ≤ 2 ^ 40) {k : (Int × Int) × Bool → K} (hk : T B R (k (cellOf g c a))) : T B R (c_cells_At g c a k) := by
  refine T_of (cells_At_ok g c a k) ?_
  unfold cellOf at hk
  (repeat ((with_reducible refine T_al ?_; intro _)))
  (dsimp only [cells_At, cells_At_s0, cells_At_s1, cells_At_s2, cells_At_s3, cells_At_s4, cells_At_s5, cells_At_s6])
  refine class_Right_c ?_
  (repeat' (first | with_reducible refine T_brT ?_ | ((with_reducible apply T_ldI); (focus rfl); (focus exact hasA); (focus rfl)) | ((with_reducible apply T_st); (focus rfl); (focus exact updA); (focus simp); simp only [List.set, Nat.zero_add, Nat.reduceAdd]) | with_reducible refine T_brD (fun _ => ?_) (fun _ => ?_) | with_reducible refine T_brN ?_))
  all_goals try ((refine T_end hk (by intro t h; repeat (first | exact h | refine T.weak ?_)) ?_); exact if_pos (by omega))
  refine geom_Data_c h0 h1 ?_
  (repeat' (first | ((with_reducible apply T_ldI); (focus rfl); (focus exact hasA); (focus rfl)) | ((with_reducible apply T_st); (focus rfl); (focus exact updA); (focus simp); simp only [List.set, Nat.zero_add, Nat.reduceAdd]) | with_reducible refine T_brD (fun _ => ?_) (fun _ => ?_) | with_reducible refine T_brN ?_))
  · rename_i hd
    refine geom_BlockOf_c h0 h1 ?_
    refine class_Words_c ?_
    have hp := clsW_pos (c := c) (by assumption)
    refine T_nz (by omega) ?_
    (repeat (first | with_reducible refine T_tick ?_ | ((with_reducible apply T_ldI); (focus rfl); (focus exact hasA); (focus rfl)) | (with_reducible refine T_al ?_; intro _) | ((with_reducible apply T_st); (focus rfl); (focus exact updA); (focus simp); simp only [List.set, Nat.zero_add, Nat.reduceAdd])))
    have ha : 0 ≤ a := by unfold blockOf at hd; split at hd <;> omega
    have e1 : Int.tmod a 512 = a % 512 := Int.tmod_eq_emod_of_nonneg ha
    have e2 : Int.tdiv (a % 512) (clsW c) = a % 512 / clsW c := Int.tdiv_eq_ediv_of_nonneg (by omega)
    have e3 : 0 ≤ a % 512 / clsW c ∧ a % 512 / clsW c ≤ a % 512 := ⟨Int.ediv_nonneg (by omega) (by omega), Int.ediv_le_self _ (by omega)⟩
    have e4 : IntKind.wrap .i64 (Int.tdiv (Int.tmod a 512) (clsW c)) = a % 512 / clsW c := by rw [e1, e2, w64 (by omega) (by omega)]
    rw [e4]
    refine cells_Address_c h1 ?_
    (repeat (first | with_reducible refine T_chk0 ?_ | ((with_reducible apply T_ldI); (focus rfl); (focus exact hasA); (focus rfl)) | ((with_reducible apply T_st); (focus rfl); (focus exact updA); (focus simp); simp only [List.set, Nat.zero_add, Nat.reduceAdd]) | ((with_reducible apply T_chk); (focus rfl); (focus exact hasA); (focus rfl))))
    (refine T_end hk (by intro t h; repeat (first | exact h | refine T.weak ?_)) ?_)
    rw [if_neg (by omega)]
    rfl
  · (refine T_end hk (by intro t h; repeat (first | exact h | refine T.weak ?_)) ?_); exact if_pos (by omega)
end
end Go.Proofs.YtdgcbapclnnkkaaGreat.X
end
section
/- Printed by a program of this session (gen.py): the functions of the dump over typed primitives, and that they serve for the model's code. No condition. -/
set_option maxRecDepth 100000
set_option linter.unusedVariables false
namespace Go.Proofs.YtdgcbapclnnkkaaGreat.X
open Go
@[reducible] def slices_Clone_Sint_int_s0 (k : (Sl → K)) (x2 : Sl) : K :=
  k x2
@[reducible] def slices_Clone_Sint_int_s1 (s : Sl) (k : (Sl → K)) : K :=
  alK (.cells #[] 3) fun b =>
  semT Tryz.prog (Builtin.append_ #[27, 27] 27 #[.slice (some ⟨b, 0, none⟩) 0 0, s.v]) (.one (.sc (.slice))) fun x7 =>
  slices_Clone_Sint_int_s0 k x7
@[reducible] def slices_Clone_Sint_int_s2 (k : (Sl → K)) (x2_1 : Sl) : K :=
  k x2_1
@[reducible] def slices_Clone_Sint_int_s3 (s : Sl) (k : (Sl → K)) (x4 : Bool) : K :=
  brK x4
  (slices_Clone_Sint_int_s2 k ⟨none, 0, 0⟩)
  (slices_Clone_Sint_int_s1 s k)
@[reducible] def slices_Clone_Sint_int (s : Sl) : M Sl := fun k =>
  slices_Clone_Sint_int_s3 s k (Option.isNone s.p)
theorem slices_Clone_Sint_int_ok (s : Sl) (k : Sl → K) (w : World) (hyp_ : slices_Clone_Sint_int s k w) : c_slices_Clone_Sint_int s k w :=
  cl_of (P := Tryz.prog) Tryz.func146 rfl (by kernel_rfl)
  (RefK.seq [] [0] (fun z_ => [(0, s.v)]) (fun z_ => slices_Clone_Sint_int_s3 s k (Option.isNone s.p)) (by kernel_rfl) (fun _ => by kernel_rfl)
  (RefK.plain [] (by kernel_rfl))
  (fun _ => RefK.seq [] [0] (fun z_ => [(0, s.v)]) (fun z_ => slices_Clone_Sint_int_s1 s k) (by kernel_rfl) (fun _ => by kernel_rfl)
  (RefK.seq [(4, .bool)] [0] (fun z_ => [(4, .bool z_.1), (0, s.v)]) (fun z_ => slices_Clone_Sint_int_s3 s k z_.1) (by kernel_rfl) (fun _ => by kernel_rfl)
  (RefK.plain [] (by kernel_rfl))
  (fun ⟨x4, _⟩ => RefK.cond (b := x4) (t1 := slices_Clone_Sint_int_s2 k ⟨none, 0, 0⟩) (t2 := slices_Clone_Sint_int_s1 s k) (by kernel_rfl) (by kernel_rfl) (fun w h => brK_spec w h) (RefK.seq [(2, .slice)] [] (fun z_ => [(2, z_.1.v)]) (fun z_ => slices_Clone_Sint_int_s2 k z_.1) (by kernel_rfl) (fun _ => by kernel_rfl)
  (RefK.plain [] (by kernel_rfl))
  (fun ⟨x2_1, _⟩ => RefK.ret (by kernel_rfl))) (RefK.skip (by kernel_rfl))))
  (fun _ => RefK.seq [(2, .slice)] [] (fun z_ => [(2, z_.1.v)]) (fun z_ => slices_Clone_Sint_int_s0 k z_.1) (by kernel_rfl) (fun _ => by kernel_rfl)
  (RefK.plain [] (by kernel_rfl))
  (fun ⟨x2, _⟩ => RefK.ret (by kernel_rfl))))) hyp_
@[reducible] def slices_Contains_Sint_int_s0 (k : (Bool → K)) (x4 : Bool) : K :=
  k x4
@[reducible] def slices_Contains_Sint_int_s1 (s : Sl) (v : Int) (k : (Bool → K)) : K :=
  c_slices_Index_Sint_int s v fun x7 =>
  slices_Contains_Sint_int_s0 k (decide (x7 ≥ 0))
@[reducible] def slices_Contains_Sint_int (s : Sl) (v : Int) : M Bool := fun k =>
  slices_Contains_Sint_int_s1 s v k
theorem slices_Contains_Sint_int_ok (s : Sl) (v : Int) (k : Bool → K) (w : World) (hyp_ : slices_Contains_Sint_int s v k w) : c_slices_Contains_Sint_int s v k w :=
  cl_of (P := Tryz.prog) Tryz.func199 rfl (by kernel_rfl)
  (RefK.seq [] [0, 1] (fun z_ => [(0, s.v), (1, .int .i64 v)]) (fun z_ => slices_Contains_Sint_int_s1 s v k) (by kernel_rfl) (fun _ => by kernel_rfl)
  (RefK.plain [] (by kernel_rfl))
  (fun _ => RefK.seq [(4, .bool)] [] (fun z_ => [(4, .bool z_.1)]) (fun z_ => slices_Contains_Sint_int_s0 k z_.1) (by kernel_rfl) (fun _ => by kernel_rfl)
  (RefK.plain [] (by kernel_rfl))
  (fun ⟨x4, _⟩ => RefK.ret (by kernel_rfl)))) hyp_
@[reducible] def slices_Clone_Suint64_uint64_s0 (k : (Sl → K)) (x2 : Sl) : K :=
  k x2
@[reducible] def slices_Clone_Suint64_uint64_s1 (s : Sl) (k : (Sl → K)) : K :=
  alK (.cells #[] 109) fun b =>
  semT Tryz.prog (Builtin.append_ #[162, 162] 162 #[.slice (some ⟨b, 0, none⟩) 0 0, s.v]) (.one (.sc (.slice))) fun x7 =>
  slices_Clone_Suint64_uint64_s0 k x7
@[reducible] def slices_Clone_Suint64_uint64_s2 (k : (Sl → K)) (x2_1 : Sl) : K :=
  k x2_1
@[reducible] def slices_Clone_Suint64_uint64_s3 (s : Sl) (k : (Sl → K)) (x4 : Bool) : K :=
  brK x4
  (slices_Clone_Suint64_uint64_s2 k ⟨none, 0, 0⟩)
  (slices_Clone_Suint64_uint64_s1 s k)
@[reducible] def slices_Clone_Suint64_uint64 (s : Sl) : M Sl := fun k =>
  slices_Clone_Suint64_uint64_s3 s k (Option.isNone s.p)
theorem slices_Clone_Suint64_uint64_ok (s : Sl) (k : Sl → K) (w : World) (hyp_ : slices_Clone_Suint64_uint64 s k w) : c_slices_Clone_Suint64_uint64 s k w :=
  cl_of (P := Tryz.prog) Tryz.func217 rfl (by kernel_rfl)
  (RefK.seq [] [0] (fun z_ => [(0, s.v)]) (fun z_ => slices_Clone_Suint64_uint64_s3 s k (Option.isNone s.p)) (by kernel_rfl) (fun _ => by kernel_rfl)
  (RefK.plain [] (by kernel_rfl))
  (fun _ => RefK.seq [] [0] (fun z_ => [(0, s.v)]) (fun z_ => slices_Clone_Suint64_uint64_s1 s k) (by kernel_rfl) (fun _ => by kernel_rfl)
  (RefK.seq [(4, .bool)] [0] (fun z_ => [(4, .bool z_.1), (0, s.v)]) (fun z_ => slices_Clone_Suint64_uint64_s3 s k z_.1) (by kernel_rfl) (fun _ => by kernel_rfl)
  (RefK.plain [] (by kernel_rfl))
  (fun ⟨x4, _⟩ => RefK.cond (b := x4) (t1 := slices_Clone_Suint64_uint64_s2 k ⟨none, 0, 0⟩) (t2 := slices_Clone_Suint64_uint64_s1 s k) (by kernel_rfl) (by kernel_rfl) (fun w h => brK_spec w h) (RefK.seq [(2, .slice)] [] (fun z_ => [(2, z_.1.v)]) (fun z_ => slices_Clone_Suint64_uint64_s2 k z_.1) (by kernel_rfl) (fun _ => by kernel_rfl)
  (RefK.plain [] (by kernel_rfl))
  (fun ⟨x2_1, _⟩ => RefK.ret (by kernel_rfl))) (RefK.skip (by kernel_rfl))))
  (fun _ => RefK.seq [(2, .slice)] [] (fun z_ => [(2, z_.1.v)]) (fun z_ => slices_Clone_Suint64_uint64_s0 k z_.1) (by kernel_rfl) (fun _ => by kernel_rfl)
  (RefK.plain [] (by kernel_rfl))
  (fun ⟨x2, _⟩ => RefK.ret (by kernel_rfl))))) hyp_
@[reducible] def slices_Index_Sint_int_s0 (k : (Int → K)) (x4 : Int) : K :=
  k x4
@[reducible] def slices_Index_Sint_int_s1 (k : (Int → K)) (x4_1 : Int) : K :=
  k x4_1
@[reducible] def slices_Index_Sint_int_s2 (k : (Int → K)) (x8_1 : Int) (c : ((Int × Unit) → K)) (i : Int) (x16 : Bool) : K :=
  brK x16
  (slices_Index_Sint_int_s1 k i)
  (c ((IntKind.wrap .i64 (x8_1 + 1)), ()))
@[reducible] def slices_Index_Sint_int_s3 (s : Sl) (v : Int) (k : (Int → K)) (x8_1 : Int) (c : ((Int × Unit) → K)) (i : Int) : K :=
  ixS s.p s.n i 1 fun x14 =>
  ldI .i64 x14 fun x15 =>
  slices_Index_Sint_int_s2 k x8_1 c i (v == x15)
@[reducible] def slices_Index_Sint_int_s4 (s : Sl) (v : Int) (k : (Int → K)) (x8_1 : Int) (c : ((Int × Unit) → K)) (x9 : Bool) : K :=
  brK x9
  (slices_Index_Sint_int_s3 s v k x8_1 c x8_1)
  (slices_Index_Sint_int_s0 k (-1))
@[reducible] def slices_Index_Sint_int_l5 (s : Sl) (v : Int) (k : (Int → K)) (x7 : Int) (x8_1 : Int) (c : ((Int × Unit) → K)) : K :=
  slices_Index_Sint_int_s4 s v k x8_1 c (decide (x8_1 < x7))
@[reducible] def slices_Index_Sint_int_s6 (s : Sl) (v : Int) (k : (Int → K)) (x7 : Int) (x8 : Int) : K :=
  lp (fun (z_ : (Int × Unit)) c_ => slices_Index_Sint_int_l5 s v k x7 z_.1 c_) (x8, ())
@[reducible] def slices_Index_Sint_int (s : Sl) (v : Int) : M Int := fun k =>
  slices_Index_Sint_int_s6 s v k ((s.n : Nat) : Int) 0
theorem slices_Index_Sint_int_ok (s : Sl) (v : Int) (k : Int → K) (w : World) (hyp_ : slices_Index_Sint_int s v k w) : c_slices_Index_Sint_int s v k w :=
  cl_of (P := Tryz.prog) Tryz.func225 rfl (by kernel_rfl)
  (RefK.seq [] [0, 1] (fun z_ => [(0, s.v), (1, .int .i64 v)]) (fun z_ => slices_Index_Sint_int_s6 s v k ((s.n : Nat) : Int) 0) (by kernel_rfl) (fun _ => by kernel_rfl)
  (RefK.plain [] (by kernel_rfl))
  (fun _ => RefK.seq [] [] (fun z_ => []) (fun z_ => slices_Index_Sint_int_s0 k (-1)) (by kernel_rfl) (fun _ => by kernel_rfl)
  (RefK.seq [(7, .int .i64), (8, .int .i64)] [0, 1] (fun z_ => [(7, .int .i64 z_.1), (8, .int .i64 z_.2.1), (0, s.v), (1, .int .i64 v)]) (fun z_ => slices_Index_Sint_int_s6 s v k z_.1 z_.2.1) (by kernel_rfl) (fun _ => by kernel_rfl)
  (RefK.plain [] (by kernel_rfl))
  (fun ⟨x7, x8, _⟩ => RefK.block (RefK.loop [(8, .int .i64)] [0, 1, 7] (fun z_ => [(8, .int .i64 z_.1), (0, s.v), (1, .int .i64 v), (7, .int .i64 x7)]) (fun (z_ : (Int × Unit)) c_ => slices_Index_Sint_int_l5 s v k x7 z_.1 c_) (x8, ()) (by kernel_rfl) (fun _ => by kernel_rfl) (by kernel_rfl) (by kernel_rfl)
  (fun ⟨x8_1, _⟩ c => RefK.seq [(9, .bool)] [0, 1, 7, 8] (fun z_ => [(9, .bool z_.1), (0, s.v), (1, .int .i64 v), (7, .int .i64 x7), (8, .int .i64 x8_1)]) (fun z_ => slices_Index_Sint_int_s4 s v k x8_1 c z_.1) (by kernel_rfl) (fun _ => by kernel_rfl)
  (RefK.plain [] (by kernel_rfl))
  (fun ⟨x9, _⟩ => RefK.seq [] [0, 1, 7, 8] (fun z_ => [(0, s.v), (1, .int .i64 v), (7, .int .i64 x7), (8, .int .i64 x8_1)]) (fun z_ => slices_Index_Sint_int_s3 s v k x8_1 c x8_1) (by kernel_rfl) (fun _ => by kernel_rfl)
  (RefK.cond (b := x9) (t1 := slices_Index_Sint_int_s3 s v k x8_1 c x8_1) (t2 := slices_Index_Sint_int_s0 k (-1)) (by kernel_rfl) (by kernel_rfl) (fun w h => brK_spec w h) (RefK.skip (by kernel_rfl)) (RefK.exit (by kernel_rfl)))
  (fun _ => RefK.seq [] [0, 1, 7, 8] (fun z_ => [(0, s.v), (1, .int .i64 v), (7, .int .i64 x7), (8, .int .i64 x8_1)]) (fun z_ => c ((IntKind.wrap .i64 (x8_1 + 1)), ())) (by kernel_rfl) (fun _ => by kernel_rfl)
  (RefK.block (RefK.seq [(5, .int .i64)] [0, 1, 7, 8] (fun z_ => [(5, .int .i64 z_.1), (0, s.v), (1, .int .i64 v), (7, .int .i64 x7), (8, .int .i64 x8_1)]) (fun z_ => slices_Index_Sint_int_s3 s v k x8_1 c z_.1) (by kernel_rfl) (fun _ => by kernel_rfl)
  (RefK.plain [] (by kernel_rfl))
  (fun ⟨i, _⟩ => RefK.seq [(16, .bool)] [0, 1, 5, 7, 8] (fun z_ => [(16, .bool z_.1), (0, s.v), (1, .int .i64 v), (5, .int .i64 i), (7, .int .i64 x7), (8, .int .i64 x8_1)]) (fun z_ => slices_Index_Sint_int_s2 k x8_1 c i z_.1) (by kernel_rfl) (fun _ => by kernel_rfl)
  (RefK.plain [] (by kernel_rfl))
  (fun ⟨x16, _⟩ => RefK.cond (b := x16) (t1 := slices_Index_Sint_int_s1 k i) (t2 := c ((IntKind.wrap .i64 (x8_1 + 1)), ())) (by kernel_rfl) (by kernel_rfl) (fun w h => brK_spec w h) (RefK.seq [(4, .int .i64)] [] (fun z_ => [(4, .int .i64 z_.1)]) (fun z_ => slices_Index_Sint_int_s1 k z_.1) (by kernel_rfl) (fun _ => by kernel_rfl)
  (RefK.plain [] (by kernel_rfl))
  (fun ⟨x4_1, _⟩ => RefK.ret (by kernel_rfl))) (RefK.skip (by kernel_rfl))))))
  (fun _ => RefK.plain [] (by kernel_rfl))))))))
  (fun _ => RefK.seq [(4, .int .i64)] [] (fun z_ => [(4, .int .i64 z_.1)]) (fun z_ => slices_Index_Sint_int_s0 k z_.1) (by kernel_rfl) (fun _ => by kernel_rfl)
  (RefK.plain [] (by kernel_rfl))
  (fun ⟨x4, _⟩ => RefK.ret (by kernel_rfl))))) hyp_
@[reducible] def slices_Equal_Suint64_uint64_s0 (k : (Bool → K)) (x4 : Bool) : K :=
  k x4
@[reducible] def slices_Equal_Suint64_uint64_s1 (k : (Bool → K)) (x4_1 : Bool) : K :=
  k x4_1
@[reducible] def slices_Equal_Suint64_uint64_s2 (k : (Bool → K)) (x13_1 : Int) (c : ((Int × Unit) → K)) (x24 : Bool) : K :=
  brK x24
  (slices_Equal_Suint64_uint64_s1 k false)
  (c ((IntKind.wrap .i64 (x13_1 + 1)), ()))
@[reducible] def slices_Equal_Suint64_uint64_s3 (s1 : Sl) (s2 : Sl) (k : (Bool → K)) (x13_1 : Int) (c : ((Int × Unit) → K)) (i : Int) : K :=
  tick fun _ =>
  ixS s1.p s1.n i 1 fun x18 =>
  ldI .u64 x18 fun x19 =>
  ixS s2.p s2.n i 1 fun x22 =>
  ldI .u64 x22 fun x23 =>
  slices_Equal_Suint64_uint64_s2 k x13_1 c (x19 != x23)
@[reducible] def slices_Equal_Suint64_uint64_s4 (s1 : Sl) (s2 : Sl) (k : (Bool → K)) (x13_1 : Int) (c : ((Int × Unit) → K)) (x14 : Bool) : K :=
  brK x14
  (slices_Equal_Suint64_uint64_s3 s1 s2 k x13_1 c x13_1)
  (slices_Equal_Suint64_uint64_s0 k true)
@[reducible] def slices_Equal_Suint64_uint64_l5 (s1 : Sl) (s2 : Sl) (k : (Bool → K)) (x12 : Int) (x13_1 : Int) (c : ((Int × Unit) → K)) : K :=
  slices_Equal_Suint64_uint64_s4 s1 s2 k x13_1 c (decide (x13_1 < x12))
@[reducible] def slices_Equal_Suint64_uint64_s6 (s1 : Sl) (s2 : Sl) (k : (Bool → K)) (x12 : Int) (x13 : Int) : K :=
  lp (fun (z_ : (Int × Unit)) c_ => slices_Equal_Suint64_uint64_l5 s1 s2 k x12 z_.1 c_) (x13, ())
@[reducible] def slices_Equal_Suint64_uint64_s7 (k : (Bool → K)) (x4_2 : Bool) : K :=
  k x4_2
@[reducible] def slices_Equal_Suint64_uint64_s8 (s1 : Sl) (s2 : Sl) (k : (Bool → K)) (x10 : Bool) : K :=
  brK x10
  (slices_Equal_Suint64_uint64_s7 k false)
  (slices_Equal_Suint64_uint64_s6 s1 s2 k ((s1.n : Nat) : Int) 0)
@[reducible] def slices_Equal_Suint64_uint64 (s1 : Sl) (s2 : Sl) : M Bool := fun k =>
  slices_Equal_Suint64_uint64_s8 s1 s2 k (((s1.n : Nat) : Int) != ((s2.n : Nat) : Int))
theorem slices_Equal_Suint64_uint64_ok (s1 : Sl) (s2 : Sl) (k : Bool → K) (w : World) (hyp_ : slices_Equal_Suint64_uint64 s1 s2 k w) : c_slices_Equal_Suint64_uint64 s1 s2 k w :=
  cl_of (P := Tryz.prog) Tryz.func234 rfl (by kernel_rfl)
  (RefK.seq [] [0, 1] (fun z_ => [(0, s1.v), (1, s2.v)]) (fun z_ => slices_Equal_Suint64_uint64_s8 s1 s2 k (((s1.n : Nat) : Int) != ((s2.n : Nat) : Int))) (by kernel_rfl) (fun _ => by kernel_rfl)
  (RefK.plain [] (by kernel_rfl))
  (fun _ => RefK.seq [] [0, 1] (fun z_ => [(0, s1.v), (1, s2.v)]) (fun z_ => slices_Equal_Suint64_uint64_s6 s1 s2 k ((s1.n : Nat) : Int) 0) (by kernel_rfl) (fun _ => by kernel_rfl)
  (RefK.seq [(10, .bool)] [0, 1] (fun z_ => [(10, .bool z_.1), (0, s1.v), (1, s2.v)]) (fun z_ => slices_Equal_Suint64_uint64_s8 s1 s2 k z_.1) (by kernel_rfl) (fun _ => by kernel_rfl)
  (RefK.plain [] (by kernel_rfl))
  (fun ⟨x10, _⟩ => RefK.cond (b := x10) (t1 := slices_Equal_Suint64_uint64_s7 k false) (t2 := slices_Equal_Suint64_uint64_s6 s1 s2 k ((s1.n : Nat) : Int) 0) (by kernel_rfl) (by kernel_rfl) (fun w h => brK_spec w h) (RefK.seq [(4, .bool)] [] (fun z_ => [(4, .bool z_.1)]) (fun z_ => slices_Equal_Suint64_uint64_s7 k z_.1) (by kernel_rfl) (fun _ => by kernel_rfl)
  (RefK.plain [] (by kernel_rfl))
  (fun ⟨x4_2, _⟩ => RefK.ret (by kernel_rfl))) (RefK.skip (by kernel_rfl))))
  (fun _ => RefK.seq [] [] (fun z_ => []) (fun z_ => slices_Equal_Suint64_uint64_s0 k true) (by kernel_rfl) (fun _ => by kernel_rfl)
  (RefK.seq [(12, .int .i64), (13, .int .i64)] [0, 1] (fun z_ => [(12, .int .i64 z_.1), (13, .int .i64 z_.2.1), (0, s1.v), (1, s2.v)]) (fun z_ => slices_Equal_Suint64_uint64_s6 s1 s2 k z_.1 z_.2.1) (by kernel_rfl) (fun _ => by kernel_rfl)
  (RefK.plain [] (by kernel_rfl))
  (fun ⟨x12, x13, _⟩ => RefK.block (RefK.loop [(13, .int .i64)] [0, 1, 12] (fun z_ => [(13, .int .i64 z_.1), (0, s1.v), (1, s2.v), (12, .int .i64 x12)]) (fun (z_ : (Int × Unit)) c_ => slices_Equal_Suint64_uint64_l5 s1 s2 k x12 z_.1 c_) (x13, ()) (by kernel_rfl) (fun _ => by kernel_rfl) (by kernel_rfl) (by kernel_rfl)
  (fun ⟨x13_1, _⟩ c => RefK.seq [(14, .bool)] [0, 1, 12, 13] (fun z_ => [(14, .bool z_.1), (0, s1.v), (1, s2.v), (12, .int .i64 x12), (13, .int .i64 x13_1)]) (fun z_ => slices_Equal_Suint64_uint64_s4 s1 s2 k x13_1 c z_.1) (by kernel_rfl) (fun _ => by kernel_rfl)
  (RefK.plain [] (by kernel_rfl))
  (fun ⟨x14, _⟩ => RefK.seq [] [0, 1, 12, 13] (fun z_ => [(0, s1.v), (1, s2.v), (12, .int .i64 x12), (13, .int .i64 x13_1)]) (fun z_ => slices_Equal_Suint64_uint64_s3 s1 s2 k x13_1 c x13_1) (by kernel_rfl) (fun _ => by kernel_rfl)
  (RefK.cond (b := x14) (t1 := slices_Equal_Suint64_uint64_s3 s1 s2 k x13_1 c x13_1) (t2 := slices_Equal_Suint64_uint64_s0 k true) (by kernel_rfl) (by kernel_rfl) (fun w h => brK_spec w h) (RefK.skip (by kernel_rfl)) (RefK.exit (by kernel_rfl)))
  (fun _ => RefK.seq [] [0, 1, 12, 13] (fun z_ => [(0, s1.v), (1, s2.v), (12, .int .i64 x12), (13, .int .i64 x13_1)]) (fun z_ => c ((IntKind.wrap .i64 (x13_1 + 1)), ())) (by kernel_rfl) (fun _ => by kernel_rfl)
  (RefK.block (RefK.seq [(5, .int .i64)] [0, 1, 12, 13] (fun z_ => [(5, .int .i64 z_.1), (0, s1.v), (1, s2.v), (12, .int .i64 x12), (13, .int .i64 x13_1)]) (fun z_ => slices_Equal_Suint64_uint64_s3 s1 s2 k x13_1 c z_.1) (by kernel_rfl) (fun _ => by kernel_rfl)
  (RefK.plain [] (by kernel_rfl))
  (fun ⟨i, _⟩ => RefK.seq [(24, .bool)] [0, 1, 12, 13] (fun z_ => [(24, .bool z_.1), (0, s1.v), (1, s2.v), (12, .int .i64 x12), (13, .int .i64 x13_1)]) (fun z_ => slices_Equal_Suint64_uint64_s2 k x13_1 c z_.1) (by kernel_rfl) (fun _ => by kernel_rfl)
  (RefK.draw [] [0, 0, 3, 7, 0, 0, 48, 112, 255] [0, 1, 2, 3, 4, 5, 6, 7, 8] [0, 1, 2, 3, 4, 5, 6, 7, 8] (by kernel_rfl) (by kernel_rfl))
  (fun ⟨x24, _⟩ => RefK.cond (b := x24) (t1 := slices_Equal_Suint64_uint64_s1 k false) (t2 := c ((IntKind.wrap .i64 (x13_1 + 1)), ())) (by kernel_rfl) (by kernel_rfl) (fun w h => brK_spec w h) (RefK.seq [(4, .bool)] [] (fun z_ => [(4, .bool z_.1)]) (fun z_ => slices_Equal_Suint64_uint64_s1 k z_.1) (by kernel_rfl) (fun _ => by kernel_rfl)
  (RefK.plain [] (by kernel_rfl))
  (fun ⟨x4_1, _⟩ => RefK.ret (by kernel_rfl))) (RefK.skip (by kernel_rfl))))))
  (fun _ => RefK.plain [] (by kernel_rfl))))))))
  (fun _ => RefK.seq [(4, .bool)] [] (fun z_ => [(4, .bool z_.1)]) (fun z_ => slices_Equal_Suint64_uint64_s0 k z_.1) (by kernel_rfl) (fun _ => by kernel_rfl)
  (RefK.plain [] (by kernel_rfl))
  (fun ⟨x4, _⟩ => RefK.ret (by kernel_rfl)))))) hyp_
end Go.Proofs.YtdgcbapclnnkkaaGreat.X
end
section
/- Contracts: small functions over slices. Conditions: at most 2^40 elements. -/
set_option linter.unusedVariables false
set_option maxRecDepth 4000
namespace Go.Proofs.YtdgcbapclnnkkaaGreat.X
open Go
def ints (l : List Int) : List Value := l.map (.int .i64)
def wds (l : List Int) : List Value := l.map (.int .u64)
def bls (l : List Bool) : List Value := l.map .bool
theorem kd_u64 : Kd Tryz.prog 162 109 1 := ⟨by kernel_rfl, by kernel_rfl, by kernel_rfl, by kernel_rfl, by kernel_rfl, by decide +kernel, by decide +kernel⟩
theorem kd_int : Kd Tryz.prog 27 3 1 := ⟨by kernel_rfl, by kernel_rfl, by kernel_rfl, by kernel_rfl, by kernel_rfl, by decide +kernel, by decide +kernel⟩
theorem kd_bool : Kd Tryz.prog 101 4 1 := ⟨by kernel_rfl, by kernel_rfl, by kernel_rfl, by kernel_rfl, by kernel_rfl, by decide +kernel, by decide +kernel⟩
theorem ints_len (l : List Int) : (ints l).length = l.length := List.length_map _
theorem wds_len (l : List Int) : (wds l).length = l.length := List.length_map _
theorem bls_len (l : List Bool) : (bls l).length = l.length := List.length_map _
theorem ints_scal (l : List Int) : (ints l).all scal = true := by simp [ints, List.all_eq_true, scal]
theorem wds_scal (l : List Int) : (wds l).all scal = true := by simp [wds, List.all_eq_true, scal]
theorem ints_at {l : List Int} {i : Nat} (h : i < l.length) : (ints l)[i]? = some (.int .i64 l[i]) := by simp [ints, h]
theorem wds_at {l : List Int} {i : Nat} (h : i < l.length) : (wds l)[i]? = some (.int .u64 l[i]) := by simp [wds, h]
theorem bls_at {l : List Bool} {i : Nat} (h : i < l.length) : (bls l)[i]? = some (.bool l[i]) := by simp [bls, h]
theorem wds_set (l : List Int) (i : Nat) (n : Int) : (wds l).set i (.int .u64 n) = wds (l.set i n) := by simp [wds, List.map_set]
theorem bls_set (l : List Bool) (i : Nat) (n : Bool) : (bls l).set i (.bool n) = bls (l.set i n) := by simp [bls, List.map_set]
theorem repZ_wds (n : Nat) : repZ (zerosP Tryz.prog 109) n = wds (List.replicate n 0) := by
  have : zerosP Tryz.prog 109 = [.int .u64 0] := by kernel_rfl
  rw [this]; simp [repZ, wds]
theorem repZ_bls (n : Nat) : repZ (zerosP Tryz.prog 4) n = bls (List.replicate n false) := by
  have : zerosP Tryz.prog 4 = [.bool false] := by kernel_rfl
  rw [this]; simp [repZ, bls]
section
variable {B : World} {R : SL}
theorem clone_u64_c {s : Sl} {l : List Int} (hl : l.length ≤ 2 ^ 39) (h : Rd R s 1 (wds l)) {k : Sl → K} (hk : ∀ s', T B (R * vec 109 1 s' (wds l)) (k s')) : T B R (c_slices_Clone_Suint64_uint64 s k) := by
  refine T_of (slices_Clone_Suint64_uint64_ok s k) ?_
  refine T_rdlen h fun hn => ?_
  rw [wds_len, Nat.mul_one] at hn
  refine T_rdp h fun hp => ?_
  refine T_br (fun e => ?_) (fun e => ?_)
  · have hl0 : wds l = [] := hp (by simpa using e)
    rw [hl0] at hk
    exact T_vecN rfl rfl (hk ⟨none, 0, 0⟩)
  · (repeat ((with_reducible refine T_al ?_; intro _)))
    rename_i b
    refine T_vecN (E := 109) (sz := 1) (s := ⟨some ⟨b, 0, none⟩, 0, 0⟩) rfl rfl ?_
    refine T_append (s := ⟨some ⟨b, 0, none⟩, 0, 0⟩) kd_u64 h.init (wds_scal l) (by simp; omega) fun s' => ?_
    exact T_dropM (hk s')
theorem index_int_c {s : Sl} {l : List Int} {v : Int} (hl : l.length ≤ 2 ^ 40) (h : Rd R s 1 (ints l)) {k : Int → K} (h0 : v ∉ l → T B R (k (-1))) (h1 : ∀ i : Nat, i < l.length → v ∈ l → T B R (k i)) : T B R (c_slices_Index_Sint_int s v k) := by
  refine T_of (slices_Index_Sint_int_ok s v k) ?_
  refine T_rdlen h fun hn => ?_
  rw [ints_len, Nat.mul_one] at hn
  refine T_lpX (fun _ _ => R) (fun n (s : Int × Unit) => ∃ i : Nat, i ≤ l.length ∧ s.1 = i ∧ n = l.length - i ∧ v ∉ l.take i) l.length rfl ⟨0, by omega, rfl, by omega, by simp⟩ ?_
  rintro n ⟨s1, u⟩ c ⟨i, hi, e1, e2, hv⟩ hc
  simp only at e1
  subst e1 e2
  (repeat' (with_reducible refine T_brD (fun _ => ?_) (fun _ => ?_)))
  · rename_i hlt
    have hlt' : i < l.length := by omega
    refine T_ixV h (by omega) (n := l[i]) (by rw [Int.toNat_natCast]; exact ints_at hlt') ?_
    (repeat' (with_reducible refine T_brE (fun _ => ?_) (fun _ => ?_)))
    · rename_i he
      exact h1 i hlt' (by rw [he]; exact List.getElem_mem hlt')
    · rename_i he
      refine hc (l.length - (i + 1)) _ (by omega) ⟨i + 1, by omega, w64 (by omega) (by omega), rfl, ?_⟩
      rw [List.take_succ_eq_append_getElem hlt']
      simp only [List.mem_append, List.mem_singleton, not_or]
      exact ⟨hv, he⟩
  · rename_i hge
    have : i = l.length := by omega
    subst this
    rw [List.take_length] at hv
    exact h0 hv
theorem contains_int_c {s : Sl} {l : List Int} {v : Int} (hl : l.length ≤ 2 ^ 40) (h : Rd R s 1 (ints l)) {k : Bool → K} (hk : T B R (k (decide (v ∈ l)))) : T B R (c_slices_Contains_Sint_int s v k) := by
  refine T_of (slices_Contains_Sint_int_ok s v k) ?_
  refine index_int_c hl h (fun hv => ?_) (fun i hi hv => ?_)
  · (refine T_end hk (by intro t h; repeat (first | exact h | refine T.weak ?_)) ?_); simp [hv]
  · (refine T_end hk (by intro t h; repeat (first | exact h | refine T.weak ?_)) ?_); simp [hv]
theorem equal_u64_c {s1 s2 : Sl} {l1 l2 : List Int} (hl : l1.length ≤ 2 ^ 40) (h1 : Rd R s1 1 (wds l1)) (h2 : Rd R s2 1 (wds l2)) {k : Bool → K} (hk : T B R (k (decide (l1 = l2)))) : T B R (c_slices_Equal_Suint64_uint64 s1 s2 k) := by
  refine T_of (slices_Equal_Suint64_uint64_ok s1 s2 k) ?_
  refine T_rdlen h1 fun hn1 => ?_
  refine T_rdlen h2 fun hn2 => ?_
  rw [wds_len, Nat.mul_one] at hn1 hn2
  (repeat' (with_reducible refine T_brNE (fun _ => ?_) (fun _ => ?_)))
  · rename_i hne
    (refine T_end hk (by intro t h; repeat (first | exact h | refine T.weak ?_)) ?_)
    simp only [decide_eq_false_iff_not]
    intro e; subst e; omega
  · rename_i heq
    have hll : l1.length = l2.length := by omega
    refine T_lpX (fun _ _ => R) (fun n (s : Int × Unit) => ∃ i : Nat, i ≤ l1.length ∧ s.1 = i ∧ n = l1.length - i ∧ l1.take i = l2.take i) l1.length rfl ⟨0, by omega, rfl, by omega, by simp⟩ ?_
    rintro n ⟨s1', u⟩ c ⟨i, hi, e1, e2, hv⟩ hc
    simp only at e1
    subst e1 e2
    (repeat' (first | with_reducible refine T_tick ?_ | with_reducible refine T_brD (fun _ => ?_) (fun _ => ?_)))
    · rename_i hlt
      have hlt1 : i < l1.length := by omega
      have hlt2 : i < l2.length := by omega
      refine T_ixV h1 (by omega) (n := l1[i]) (by rw [Int.toNat_natCast]; exact wds_at hlt1) ?_
      refine T_ixV h2 (by omega) (n := l2[i]) (by rw [Int.toNat_natCast]; exact wds_at hlt2) ?_
      (repeat' (with_reducible refine T_brNE (fun _ => ?_) (fun _ => ?_)))
      · rename_i he
        (refine T_end hk (by intro t h; repeat (first | exact h | refine T.weak ?_)) ?_)
        simp only [decide_eq_false_iff_not]
        intro e; subst e; exact he rfl
      · rename_i he
        refine hc (l1.length - (i + 1)) _ (by omega) ⟨i + 1, by omega, w64 (by omega) (by omega), rfl, ?_⟩
        rw [List.take_succ_eq_append_getElem hlt1, List.take_succ_eq_append_getElem hlt2, hv, he]
    · rename_i hge
      have : i = l1.length := by omega
      (refine T_end hk (by intro t h; repeat (first | exact h | refine T.weak ?_)) ?_)
      simp only [decide_eq_true_eq]
      rw [List.take_of_length_le (by omega), List.take_of_length_le (by omega)] at hv
      exact hv
end
end Go.Proofs.YtdgcbapclnnkkaaGreat.X
end
section
/- Printed by a program of this session (gen.py): the functions of the dump over typed primitives, and that they serve for the model's code. No condition. -/
set_option maxRecDepth 100000
set_option linter.unusedVariables false
namespace Go.Proofs.YtdgcbapclnnkkaaGreat.X
open Go
@[reducible] def nvm_Device_Get_s0 (k : (Int → K)) (x4 : Int) : K :=
  k x4
@[reducible] def nvm_Device_Get_s1 (d : (Option Addr)) (at_1 : Int) (k : (Int → K)) : K :=
  nn d fun x17 =>
  ldS (Addr.add x17 1) fun x19 =>
  ixS x19.p x19.n at_1 1 fun x21 =>
  ldI .u64 x21 fun x22 =>
  nvm_Device_Get_s0 k x22
@[reducible] def nvm_Device_Get_s2 (k : (Int → K)) (x4_1 : Int) : K :=
  k x4_1
@[reducible] def nvm_Device_Get_s3 (d : (Option Addr)) (at_1 : Int) (k : (Int → K)) (x15 : Bool) : K :=
  brK x15
  (nvm_Device_Get_s2 k 0)
  (nvm_Device_Get_s1 d at_1 k)
@[reducible] def nvm_Device_Get_s4 (d : (Option Addr)) (at_1 : Int) (k : (Int → K)) : K :=
  brK (decide (at_1 < 0))
  (nvm_Device_Get_s3 d at_1 k true)
  (nn d fun x10 =>
  ldS (Addr.add x10 1) fun x12 =>
  nvm_Device_Get_s3 d at_1 k (decide (at_1 ≥ ((x12.n : Nat) : Int))))
@[reducible] def nvm_Device_Get (d : (Option Addr)) (at_1 : Int) : M Int := fun k =>
  nvm_Device_Get_s4 d at_1 k
theorem nvm_Device_Get_ok (d : (Option Addr)) (at_1 : Int) (k : Int → K) (w : World) (hyp_ : nvm_Device_Get d at_1 k w) : c_nvm_Device_Get d at_1 k w :=
  cl_of (P := Tryz.prog) Tryz.func53 rfl (by kernel_rfl)
  (RefK.seq [] [0, 1] (fun z_ => [(0, .pointer d), (1, .int .i64 at_1)]) (fun z_ => nvm_Device_Get_s4 d at_1 k) (by kernel_rfl) (fun _ => by kernel_rfl)
  (RefK.plain [] (by kernel_rfl))
  (fun _ => RefK.seq [] [0, 1] (fun z_ => [(0, .pointer d), (1, .int .i64 at_1)]) (fun z_ => nvm_Device_Get_s1 d at_1 k) (by kernel_rfl) (fun _ => by kernel_rfl)
  (RefK.seq [(15, .bool)] [0, 1] (fun z_ => [(15, .bool z_.1), (0, .pointer d), (1, .int .i64 at_1)]) (fun z_ => nvm_Device_Get_s3 d at_1 k z_.1) (by kernel_rfl) (fun _ => by kernel_rfl)
  (RefK.plain [2] (by kernel_rfl))
  (fun ⟨x15, _⟩ => RefK.cond (b := x15) (t1 := nvm_Device_Get_s2 k 0) (t2 := nvm_Device_Get_s1 d at_1 k) (by kernel_rfl) (by kernel_rfl) (fun w h => brK_spec w h) (RefK.seq [(4, .int .u64)] [] (fun z_ => [(4, .int .u64 z_.1)]) (fun z_ => nvm_Device_Get_s2 k z_.1) (by kernel_rfl) (fun _ => by kernel_rfl)
  (RefK.plain [] (by kernel_rfl))
  (fun ⟨x4_1, _⟩ => RefK.ret (by kernel_rfl))) (RefK.skip (by kernel_rfl))))
  (fun _ => RefK.seq [(4, .int .u64)] [] (fun z_ => [(4, .int .u64 z_.1)]) (fun z_ => nvm_Device_Get_s0 k z_.1) (by kernel_rfl) (fun _ => by kernel_rfl)
  (RefK.plain [] (by kernel_rfl))
  (fun ⟨x4, _⟩ => RefK.ret (by kernel_rfl))))) hyp_
@[reducible] def nvm_Device_Store_s0 (k : (Int → K)) (x6 : Int) : K :=
  k x6
@[reducible] def nvm_Device_Store_s1 (d : (Option Addr)) (at_1 : Int) (k : (Int → K)) : K :=
  nn d fun x31 =>
  ldS (Addr.add x31 3) fun x33 =>
  ixS x33.p x33.n (IntKind.wrap .i64 (Int.tdiv at_1 8)) 1 fun x36 =>
  stK (Addr.add x36 0) (.bool true) <|
  nvm_Device_Store_s0 k 0
@[reducible] def nvm_Device_Store_s2 (d : (Option Addr)) (at_1 : Int) (w_1 : Int) (k : (Int → K)) : K :=
  nn d fun x24 =>
  ldS (Addr.add x24 1) fun x26 =>
  ixS x26.p x26.n at_1 1 fun x29 =>
  stK (Addr.add x29 0) (.int .u64 w_1) <|
  nvm_Device_Store_s1 d at_1 k
@[reducible] def nvm_Device_Store_s3 (k : (Int → K)) (x6_1 : Int) : K :=
  k x6_1
@[reducible] def nvm_Device_Store_s4 (k : (Int → K)) (x6_2 : Int) : K :=
  k x6_2
@[reducible] def nvm_Device_Store_s5 (d : (Option Addr)) (at_1 : Int) (w_1 : Int) (k : (Int → K)) (x19 : Bool) : K :=
  brK x19
  (nvm_Device_Store_s4 k 3)
  (nvm_Device_Store_s2 d at_1 w_1 k)
@[reducible] def nvm_Device_Store_s6 (d : (Option Addr)) (at_1 : Int) (w_1 : Int) (k : (Int → K)) : K :=
  c_nvm_Device_step d fun x21 =>
  nvm_Device_Store_s5 d at_1 w_1 k (!x21)
@[reducible] def nvm_Device_Store_s7 (d : (Option Addr)) (at_1 : Int) (w_1 : Int) (k : (Int → K)) (x7 : Bool) : K :=
  brK x7
  (nvm_Device_Store_s3 k 2)
  (nvm_Device_Store_s6 d at_1 w_1 k)
@[reducible] def nvm_Device_Store_s8 (d : (Option Addr)) (at_1 : Int) (w_1 : Int) (k : (Int → K)) : K :=
  brK (decide (at_1 < 0))
  (nvm_Device_Store_s7 d at_1 w_1 k true)
  (nn d fun x13 =>
  ldS (Addr.add x13 1) fun x15 =>
  nvm_Device_Store_s7 d at_1 w_1 k (decide (at_1 ≥ ((x15.n : Nat) : Int))))
@[reducible] def nvm_Device_Store (d : (Option Addr)) (at_1 : Int) (w_1 : Int) : M Int := fun k =>
  nvm_Device_Store_s8 d at_1 w_1 k
theorem nvm_Device_Store_ok (d : (Option Addr)) (at_1 : Int) (w_1 : Int) (k : Int → K) (w : World) (hyp_ : nvm_Device_Store d at_1 w_1 k w) : c_nvm_Device_Store d at_1 w_1 k w :=
  cl_of (P := Tryz.prog) Tryz.func54 rfl (by kernel_rfl)
  (RefK.seq [] [0, 1, 2] (fun z_ => [(0, .pointer d), (1, .int .i64 at_1), (2, .int .u64 w_1)]) (fun z_ => nvm_Device_Store_s8 d at_1 w_1 k) (by kernel_rfl) (fun _ => by kernel_rfl)
  (RefK.plain [] (by kernel_rfl))
  (fun _ => RefK.seq [] [0, 1, 2] (fun z_ => [(0, .pointer d), (1, .int .i64 at_1), (2, .int .u64 w_1)]) (fun z_ => nvm_Device_Store_s2 d at_1 w_1 k) (by kernel_rfl) (fun _ => by kernel_rfl)
  (RefK.block (RefK.seq [(7, .bool)] [0, 1, 2] (fun z_ => [(7, .bool z_.1), (0, .pointer d), (1, .int .i64 at_1), (2, .int .u64 w_1)]) (fun z_ => nvm_Device_Store_s7 d at_1 w_1 k z_.1) (by kernel_rfl) (fun _ => by kernel_rfl)
  (RefK.plain [2] (by kernel_rfl))
  (fun ⟨x7, _⟩ => RefK.cond (b := x7) (t1 := nvm_Device_Store_s3 k 2) (t2 := nvm_Device_Store_s6 d at_1 w_1 k) (by kernel_rfl) (by kernel_rfl) (fun w h => brK_spec w h) (RefK.seq [(6, .int .i64)] [] (fun z_ => [(6, .int .i64 z_.1)]) (fun z_ => nvm_Device_Store_s3 k z_.1) (by kernel_rfl) (fun _ => by kernel_rfl)
  (RefK.plain [] (by kernel_rfl))
  (fun ⟨x6_1, _⟩ => RefK.ret (by kernel_rfl))) (RefK.seq [(19, .bool)] [0, 1, 2] (fun z_ => [(19, .bool z_.1), (0, .pointer d), (1, .int .i64 at_1), (2, .int .u64 w_1)]) (fun z_ => nvm_Device_Store_s5 d at_1 w_1 k z_.1) (by kernel_rfl) (fun _ => by kernel_rfl)
  (RefK.plain [] (by kernel_rfl))
  (fun ⟨x19, _⟩ => RefK.cond (b := x19) (t1 := nvm_Device_Store_s4 k 3) (t2 := nvm_Device_Store_s2 d at_1 w_1 k) (by kernel_rfl) (by kernel_rfl) (fun w h => brK_spec w h) (RefK.seq [(6, .int .i64)] [] (fun z_ => [(6, .int .i64 z_.1)]) (fun z_ => nvm_Device_Store_s4 k z_.1) (by kernel_rfl) (fun _ => by kernel_rfl)
  (RefK.plain [] (by kernel_rfl))
  (fun ⟨x6_2, _⟩ => RefK.ret (by kernel_rfl))) (RefK.skip (by kernel_rfl)))))))
  (fun _ => RefK.seq [] [0, 1] (fun z_ => [(0, .pointer d), (1, .int .i64 at_1)]) (fun z_ => nvm_Device_Store_s1 d at_1 k) (by kernel_rfl) (fun _ => by kernel_rfl)
  (RefK.plain [] (by kernel_rfl))
  (fun _ => RefK.seq [] [] (fun z_ => []) (fun z_ => nvm_Device_Store_s0 k 0) (by kernel_rfl) (fun _ => by kernel_rfl)
  (RefK.plain [] (by kernel_rfl))
  (fun _ => RefK.seq [(6, .int .i64)] [] (fun z_ => [(6, .int .i64 z_.1)]) (fun z_ => nvm_Device_Store_s0 k z_.1) (by kernel_rfl) (fun _ => by kernel_rfl)
  (RefK.plain [] (by kernel_rfl))
  (fun ⟨x6, _⟩ => RefK.ret (by kernel_rfl))))))) hyp_
@[reducible] def nvm_Device_Len_s0 (k : (Int → K)) (x2 : Int) : K :=
  k x2
@[reducible] def nvm_Device_Len_s1 (d : (Option Addr)) (k : (Int → K)) : K :=
  nn d fun x4 =>
  ldS (Addr.add x4 1) fun x6 =>
  nvm_Device_Len_s0 k ((x6.n : Nat) : Int)
@[reducible] def nvm_Device_Len (d : (Option Addr)) : M Int := fun k =>
  nvm_Device_Len_s1 d k
theorem nvm_Device_Len_ok (d : (Option Addr)) (k : Int → K) (w : World) (hyp_ : nvm_Device_Len d k w) : c_nvm_Device_Len d k w :=
  cl_of (P := Tryz.prog) Tryz.func112 rfl (by kernel_rfl)
  (RefK.seq [] [0] (fun z_ => [(0, .pointer d)]) (fun z_ => nvm_Device_Len_s1 d k) (by kernel_rfl) (fun _ => by kernel_rfl)
  (RefK.plain [] (by kernel_rfl))
  (fun _ => RefK.seq [(2, .int .i64)] [] (fun z_ => [(2, .int .i64 z_.1)]) (fun z_ => nvm_Device_Len_s0 k z_.1) (by kernel_rfl) (fun _ => by kernel_rfl)
  (RefK.plain [] (by kernel_rfl))
  (fun ⟨x2, _⟩ => RefK.ret (by kernel_rfl)))) hyp_
@[reducible] def nvm_Device_step_s0 (k : (Bool → K)) (x2 : Bool) : K :=
  k x2
@[reducible] def nvm_Device_step_s1 (d : (Option Addr)) (k : (Bool → K)) : K :=
  nn d fun x31 =>
  ldI .i64 (Addr.add x31 5) fun x33 =>
  nn d fun x35 =>
  stK (Addr.add (Addr.add x35 5) 0) (.int .i64 (IntKind.wrap .i64 (x33 + 1))) <|
  nvm_Device_step_s0 k true
@[reducible] def nvm_Device_step_s2 (d : (Option Addr)) (k : (Bool → K)) : K :=
  nn d fun x24 =>
  ldI .i64 (Addr.add x24 6) fun x26 =>
  nn d fun x28 =>
  stK (Addr.add (Addr.add x28 6) 0) (.int .i64 (IntKind.wrap .i64 (x26 - 1))) <|
  nvm_Device_step_s1 d k
@[reducible] def nvm_Device_step_s3 (k : (Bool → K)) (x2_1 : Bool) : K :=
  k x2_1
@[reducible] def nvm_Device_step_s4 (d : (Option Addr)) (k : (Bool → K)) : K :=
  nn d fun x21 =>
  stK (Addr.add (Addr.add x21 8) 0) (.bool true) <|
  nvm_Device_step_s3 k false
@[reducible] def nvm_Device_step_s5 (d : (Option Addr)) (k : (Bool → K)) (x19 : Bool) : K :=
  brK x19
  (nvm_Device_step_s4 d k)
  (nvm_Device_step_s2 d k)
@[reducible] def nvm_Device_step_s6 (d : (Option Addr)) (k : (Bool → K)) : K :=
  nn d fun x4 =>
  ldB (Addr.add x4 8) fun x6 =>
  brK x6
  (nvm_Device_step_s5 d k true)
  (nn d fun x9 =>
  ldB (Addr.add x9 7) fun x11 =>
  brK x11
  (nn d fun x14 =>
  ldI .i64 (Addr.add x14 6) fun x16 =>
  nvm_Device_step_s5 d k (x16 == 0))
  (nvm_Device_step_s5 d k false))
@[reducible] def nvm_Device_step (d : (Option Addr)) : M Bool := fun k =>
  nvm_Device_step_s6 d k
theorem nvm_Device_step_ok (d : (Option Addr)) (k : Bool → K) (w : World) (hyp_ : nvm_Device_step d k w) : c_nvm_Device_step d k w :=
  cl_of (P := Tryz.prog) Tryz.func115 rfl (by kernel_rfl)
  (RefK.seq [] [0] (fun z_ => [(0, .pointer d)]) (fun z_ => nvm_Device_step_s6 d k) (by kernel_rfl) (fun _ => by kernel_rfl)
  (RefK.plain [] (by kernel_rfl))
  (fun _ => RefK.seq [] [0] (fun z_ => [(0, .pointer d)]) (fun z_ => nvm_Device_step_s2 d k) (by kernel_rfl) (fun _ => by kernel_rfl)
  (RefK.seq [(19, .bool)] [0] (fun z_ => [(19, .bool z_.1), (0, .pointer d)]) (fun z_ => nvm_Device_step_s5 d k z_.1) (by kernel_rfl) (fun _ => by kernel_rfl)
  (RefK.plain [4, 9] (by kernel_rfl))
  (fun ⟨x19, _⟩ => RefK.cond (b := x19) (t1 := nvm_Device_step_s4 d k) (t2 := nvm_Device_step_s2 d k) (by kernel_rfl) (by kernel_rfl) (fun w h => brK_spec w h) (RefK.seq [] [] (fun z_ => []) (fun z_ => nvm_Device_step_s3 k false) (by kernel_rfl) (fun _ => by kernel_rfl)
  (RefK.plain [] (by kernel_rfl))
  (fun _ => RefK.seq [(2, .bool)] [] (fun z_ => [(2, .bool z_.1)]) (fun z_ => nvm_Device_step_s3 k z_.1) (by kernel_rfl) (fun _ => by kernel_rfl)
  (RefK.plain [] (by kernel_rfl))
  (fun ⟨x2_1, _⟩ => RefK.ret (by kernel_rfl)))) (RefK.skip (by kernel_rfl))))
  (fun _ => RefK.seq [] [0] (fun z_ => [(0, .pointer d)]) (fun z_ => nvm_Device_step_s1 d k) (by kernel_rfl) (fun _ => by kernel_rfl)
  (RefK.plain [] (by kernel_rfl))
  (fun _ => RefK.seq [] [] (fun z_ => []) (fun z_ => nvm_Device_step_s0 k true) (by kernel_rfl) (fun _ => by kernel_rfl)
  (RefK.plain [] (by kernel_rfl))
  (fun _ => RefK.seq [(2, .bool)] [] (fun z_ => [(2, .bool z_.1)]) (fun z_ => nvm_Device_step_s0 k z_.1) (by kernel_rfl) (fun _ => by kernel_rfl)
  (RefK.plain [] (by kernel_rfl))
  (fun ⟨x2, _⟩ => RefK.ret (by kernel_rfl))))))) hyp_
@[reducible] def nvm_New_s0 (k : ((Option Addr) → K)) (x2 : (Option Addr)) : K :=
  k x2
@[reducible] def nvm_New_s1 (k : ((Option Addr) → K)) (n : Int) : K :=
  mkS Tryz.prog 109 (IntKind.wrap .i64 (n * 8)) (IntKind.wrap .i64 (n * 8)) fun b =>
  c_nvm_load ⟨(some ⟨b, 0, none⟩), (Int.toNat (IntKind.wrap .i64 (n * 8))), (Int.toNat (IntKind.wrap .i64 (n * 8)))⟩ fun x9 =>
  nvm_New_s0 k x9
@[reducible] def nvm_New_s2 (words : Int) (k : ((Option Addr) → K)) : K :=
  c_bits_Up words 8 fun x5 =>
  nvm_New_s1 k x5
@[reducible] def nvm_New (words : Int) : M (Option Addr) := fun k =>
  nvm_New_s2 words k
theorem nvm_New_ok (words : Int) (k : (Option Addr) → K) (w : World) (hyp_ : nvm_New words k w) : c_nvm_New words k w :=
  cl_of (P := Tryz.prog) Tryz.func120 rfl (by kernel_rfl)
  (RefK.seq [] [0] (fun z_ => [(0, .int .i64 words)]) (fun z_ => nvm_New_s2 words k) (by kernel_rfl) (fun _ => by kernel_rfl)
  (RefK.plain [] (by kernel_rfl))
  (fun _ => RefK.seq [(3, .int .i64)] [] (fun z_ => [(3, .int .i64 z_.1)]) (fun z_ => nvm_New_s1 k z_.1) (by kernel_rfl) (fun _ => by kernel_rfl)
  (RefK.plain [] (by kernel_rfl))
  (fun ⟨n, _⟩ => RefK.seq [(2, .ptr)] [] (fun z_ => [(2, .pointer z_.1)]) (fun z_ => nvm_New_s0 k z_.1) (by kernel_rfl) (fun _ => by kernel_rfl)
  (RefK.plain [] (by kernel_rfl))
  (fun ⟨x2, _⟩ => RefK.ret (by kernel_rfl))))) hyp_
@[reducible] def nvm_Device_Persist_s0 (k : (Int → K)) (x6 : Int) : K :=
  k x6
@[reducible] def nvm_Device_Persist_s1 (d : (Option Addr)) (k : (Int → K)) : K :=
  c_nvm_Device_Fence d fun x49 =>
  nvm_Device_Persist_s0 k x49
@[reducible] def nvm_Device_Persist_s2 (k : (Int → K)) (x6_1 : Int) : K :=
  k x6_1
@[reducible] def nvm_Device_Persist_s3 (k : (Int → K)) (line_1 : Int) (c : ((Int × Unit) → K)) (e : Int) (x46 : Bool) : K :=
  brK x46
  (nvm_Device_Persist_s2 k e)
  (c ((IntKind.wrap .i64 (line_1 + 1)), ()))
@[reducible] def nvm_Device_Persist_s4 (k : (Int → K)) (line_1 : Int) (c : ((Int × Unit) → K)) (e : Int) : K :=
  nvm_Device_Persist_s3 k line_1 c e (e != 0)
@[reducible] def nvm_Device_Persist_s5 (d : (Option Addr)) (k : (Int → K)) (line_1 : Int) (c : ((Int × Unit) → K)) : K :=
  c_nvm_Device_Flush d line_1 fun x44 =>
  nvm_Device_Persist_s4 k line_1 c x44
@[reducible] def nvm_Device_Persist_s6 (d : (Option Addr)) (k : (Int → K)) (line_1 : Int) (c : ((Int × Unit) → K)) (x39 : Bool) : K :=
  brK x39
  (nvm_Device_Persist_s5 d k line_1 c)
  (nvm_Device_Persist_s1 d k)
@[reducible] def nvm_Device_Persist_l7 (d : (Option Addr)) (at_1 : Int) (words : Int) (k : (Int → K)) (line_1 : Int) (c : ((Int × Unit) → K)) : K :=
  nvm_Device_Persist_s6 d k line_1 c (decide (line_1 ≤ (IntKind.wrap .i64 (Int.tdiv (IntKind.wrap .i64 ((IntKind.wrap .i64 (at_1 + words)) - 1)) 8))))
@[reducible] def nvm_Device_Persist_s8 (d : (Option Addr)) (at_1 : Int) (words : Int) (k : (Int → K)) (line : Int) : K :=
  lp (fun (z_ : (Int × Unit)) c_ => nvm_Device_Persist_l7 d at_1 words k z_.1 c_) (line, ())
@[reducible] def nvm_Device_Persist_s9 (d : (Option Addr)) (at_1 : Int) (words : Int) (k : (Int → K)) (x30 : Bool) : K :=
  brK x30
  (nvm_Device_Persist_s8 d at_1 words k (IntKind.wrap .i64 (Int.tdiv at_1 8)))
  (nvm_Device_Persist_s1 d k)
@[reducible] def nvm_Device_Persist_s10 (k : (Int → K)) (x6_2 : Int) : K :=
  k x6_2
@[reducible] def nvm_Device_Persist_s11 (d : (Option Addr)) (at_1 : Int) (words : Int) (k : (Int → K)) (x28 : Bool) : K :=
  brK x28
  (nvm_Device_Persist_s10 k 2)
  (nvm_Device_Persist_s9 d at_1 words k (decide (words > 0)))
@[reducible] def nvm_Device_Persist_s12 (d : (Option Addr)) (at_1 : Int) (words : Int) (k : (Int → K)) : K :=
  brK (decide (at_1 < 0))
  (nvm_Device_Persist_s11 d at_1 words k true)
  (brK (decide (words < 0))
  (nvm_Device_Persist_s11 d at_1 words k true)
  (c_nvm_Device_Len d fun x18 =>
  brK (decide (at_1 > x18))
  (nvm_Device_Persist_s11 d at_1 words k true)
  (c_nvm_Device_Len d fun x24 =>
  nvm_Device_Persist_s11 d at_1 words k (decide (words > (IntKind.wrap .i64 (x24 - at_1)))))))
@[reducible] def nvm_Device_Persist (d : (Option Addr)) (at_1 : Int) (words : Int) : M Int := fun k =>
  nvm_Device_Persist_s12 d at_1 words k
theorem nvm_Device_Persist_ok (d : (Option Addr)) (at_1 : Int) (words : Int) (k : Int → K) (w : World) (hyp_ : nvm_Device_Persist d at_1 words k w) : c_nvm_Device_Persist d at_1 words k w :=
  cl_of (P := Tryz.prog) Tryz.func178 rfl (by kernel_rfl)
  (RefK.seq [] [0, 1, 2] (fun z_ => [(0, .pointer d), (1, .int .i64 at_1), (2, .int .i64 words)]) (fun z_ => nvm_Device_Persist_s12 d at_1 words k) (by kernel_rfl) (fun _ => by kernel_rfl)
  (RefK.plain [] (by kernel_rfl))
  (fun _ => RefK.seq [] [0, 1, 2] (fun z_ => [(0, .pointer d), (1, .int .i64 at_1), (2, .int .i64 words)]) (fun z_ => nvm_Device_Persist_s9 d at_1 words k (decide (words > 0))) (by kernel_rfl) (fun _ => by kernel_rfl)
  (RefK.seq [(28, .bool)] [0, 1, 2] (fun z_ => [(28, .bool z_.1), (0, .pointer d), (1, .int .i64 at_1), (2, .int .i64 words)]) (fun z_ => nvm_Device_Persist_s11 d at_1 words k z_.1) (by kernel_rfl) (fun _ => by kernel_rfl)
  (RefK.plain [2, 6, 12] (by kernel_rfl))
  (fun ⟨x28, _⟩ => RefK.cond (b := x28) (t1 := nvm_Device_Persist_s10 k 2) (t2 := nvm_Device_Persist_s9 d at_1 words k (decide (words > 0))) (by kernel_rfl) (by kernel_rfl) (fun w h => brK_spec w h) (RefK.seq [(6, .int .i64)] [] (fun z_ => [(6, .int .i64 z_.1)]) (fun z_ => nvm_Device_Persist_s10 k z_.1) (by kernel_rfl) (fun _ => by kernel_rfl)
  (RefK.plain [] (by kernel_rfl))
  (fun ⟨x6_2, _⟩ => RefK.ret (by kernel_rfl))) (RefK.skip (by kernel_rfl))))
  (fun _ => RefK.seq [] [0] (fun z_ => [(0, .pointer d)]) (fun z_ => nvm_Device_Persist_s1 d k) (by kernel_rfl) (fun _ => by kernel_rfl)
  (RefK.seq [(30, .bool)] [0, 1, 2] (fun z_ => [(30, .bool z_.1), (0, .pointer d), (1, .int .i64 at_1), (2, .int .i64 words)]) (fun z_ => nvm_Device_Persist_s9 d at_1 words k z_.1) (by kernel_rfl) (fun _ => by kernel_rfl)
  (RefK.plain [] (by kernel_rfl))
  (fun ⟨x30, _⟩ => RefK.cond (b := x30) (t1 := nvm_Device_Persist_s8 d at_1 words k (IntKind.wrap .i64 (Int.tdiv at_1 8))) (t2 := nvm_Device_Persist_s1 d k) (by kernel_rfl) (by kernel_rfl) (fun w h => brK_spec w h) (RefK.seq [(7, .int .i64)] [0, 1, 2] (fun z_ => [(7, .int .i64 z_.1), (0, .pointer d), (1, .int .i64 at_1), (2, .int .i64 words)]) (fun z_ => nvm_Device_Persist_s8 d at_1 words k z_.1) (by kernel_rfl) (fun _ => by kernel_rfl)
  (RefK.plain [] (by kernel_rfl))
  (fun ⟨line, _⟩ => RefK.block (RefK.loop [(7, .int .i64)] [0, 1, 2] (fun z_ => [(7, .int .i64 z_.1), (0, .pointer d), (1, .int .i64 at_1), (2, .int .i64 words)]) (fun (z_ : (Int × Unit)) c_ => nvm_Device_Persist_l7 d at_1 words k z_.1 c_) (line, ()) (by kernel_rfl) (fun _ => by kernel_rfl) (by kernel_rfl) (by kernel_rfl)
  (fun ⟨line_1, _⟩ c => RefK.seq [] [0, 1, 2, 7] (fun z_ => [(0, .pointer d), (1, .int .i64 at_1), (2, .int .i64 words), (7, .int .i64 line_1)]) (fun z_ => nvm_Device_Persist_s5 d k line_1 c) (by kernel_rfl) (fun _ => by kernel_rfl)
  (RefK.seq [(39, .bool)] [0, 1, 2, 7] (fun z_ => [(39, .bool z_.1), (0, .pointer d), (1, .int .i64 at_1), (2, .int .i64 words), (7, .int .i64 line_1)]) (fun z_ => nvm_Device_Persist_s6 d k line_1 c z_.1) (by kernel_rfl) (fun _ => by kernel_rfl)
  (RefK.plain [] (by kernel_rfl))
  (fun ⟨x39, _⟩ => RefK.cond (b := x39) (t1 := nvm_Device_Persist_s5 d k line_1 c) (t2 := nvm_Device_Persist_s1 d k) (by kernel_rfl) (by kernel_rfl) (fun w h => brK_spec w h) (RefK.skip (by kernel_rfl)) (RefK.exit (by kernel_rfl))))
  (fun _ => RefK.seq [] [0, 1, 2, 7] (fun z_ => [(0, .pointer d), (1, .int .i64 at_1), (2, .int .i64 words), (7, .int .i64 line_1)]) (fun z_ => c ((IntKind.wrap .i64 (line_1 + 1)), ())) (by kernel_rfl) (fun _ => by kernel_rfl)
  (RefK.block (RefK.seq [(8, .int .i64)] [0, 1, 2, 7] (fun z_ => [(8, .int .i64 z_.1), (0, .pointer d), (1, .int .i64 at_1), (2, .int .i64 words), (7, .int .i64 line_1)]) (fun z_ => nvm_Device_Persist_s4 k line_1 c z_.1) (by kernel_rfl) (fun _ => by kernel_rfl)
  (RefK.plain [] (by kernel_rfl))
  (fun ⟨e, _⟩ => RefK.seq [(46, .bool)] [0, 1, 2, 7, 8] (fun z_ => [(46, .bool z_.1), (0, .pointer d), (1, .int .i64 at_1), (2, .int .i64 words), (7, .int .i64 line_1), (8, .int .i64 e)]) (fun z_ => nvm_Device_Persist_s3 k line_1 c e z_.1) (by kernel_rfl) (fun _ => by kernel_rfl)
  (RefK.plain [] (by kernel_rfl))
  (fun ⟨x46, _⟩ => RefK.cond (b := x46) (t1 := nvm_Device_Persist_s2 k e) (t2 := c ((IntKind.wrap .i64 (line_1 + 1)), ())) (by kernel_rfl) (by kernel_rfl) (fun w h => brK_spec w h) (RefK.seq [(6, .int .i64)] [] (fun z_ => [(6, .int .i64 z_.1)]) (fun z_ => nvm_Device_Persist_s2 k z_.1) (by kernel_rfl) (fun _ => by kernel_rfl)
  (RefK.plain [] (by kernel_rfl))
  (fun ⟨x6_1, _⟩ => RefK.ret (by kernel_rfl))) (RefK.skip (by kernel_rfl))))))
  (fun _ => RefK.plain [] (by kernel_rfl))))))) (RefK.skip (by kernel_rfl))))
  (fun _ => RefK.seq [(6, .int .i64)] [] (fun z_ => [(6, .int .i64 z_.1)]) (fun z_ => nvm_Device_Persist_s0 k z_.1) (by kernel_rfl) (fun _ => by kernel_rfl)
  (RefK.plain [] (by kernel_rfl))
  (fun ⟨x6, _⟩ => RefK.ret (by kernel_rfl)))))) hyp_
@[reducible] def nvm_Device_Flush_s0 (k : (Int → K)) (x4 : Int) : K :=
  k x4
@[reducible] def nvm_Device_Flush_s1 (d : (Option Addr)) (line : Int) (k : (Int → K)) : K :=
  tick fun _ =>
  nn d fun x36 =>
  ldS (Addr.add x36 2) fun x38 =>
  nn d fun x43 =>
  ldS (Addr.add x43 1) fun x45 =>
  c_nvm_Device_part d x38 line fun x40 =>
  chk [.cell (Addr.add x43 1) (x45.v)] fun _ =>
  c_nvm_Device_part d x45 line fun x47 =>
  semT Tryz.prog (Builtin.copy_ #[162, 162] 3 #[x40.v, x47.v]) (.one (.sc (.int .i64))) fun x48 =>
  nvm_Device_Flush_s0 k 0
@[reducible] def nvm_Device_Flush_s2 (d : (Option Addr)) (line : Int) (k : (Int → K)) : K :=
  nn d fun x29 =>
  ldS (Addr.add x29 4) fun x31 =>
  ixS x31.p x31.n line 1 fun x33 =>
  stK (Addr.add x33 0) (.bool true) <|
  nvm_Device_Flush_s1 d line k
@[reducible] def nvm_Device_Flush_s3 (d : (Option Addr)) (line : Int) (k : (Int → K)) (x27 : Bool) : K :=
  brK x27
  (nvm_Device_Flush_s2 d line k)
  (nvm_Device_Flush_s0 k 0)
@[reducible] def nvm_Device_Flush_s4 (d : (Option Addr)) (line : Int) (k : (Int → K)) : K :=
  nn d fun x22 =>
  ldS (Addr.add x22 3) fun x24 =>
  ixS x24.p x24.n line 1 fun x26 =>
  ldB x26 fun x27_1 =>
  nvm_Device_Flush_s3 d line k x27_1
@[reducible] def nvm_Device_Flush_s5 (k : (Int → K)) (x4_1 : Int) : K :=
  k x4_1
@[reducible] def nvm_Device_Flush_s6 (k : (Int → K)) (x4_2 : Int) : K :=
  k x4_2
@[reducible] def nvm_Device_Flush_s7 (d : (Option Addr)) (line : Int) (k : (Int → K)) (x17 : Bool) : K :=
  brK x17
  (nvm_Device_Flush_s6 k 3)
  (nvm_Device_Flush_s4 d line k)
@[reducible] def nvm_Device_Flush_s8 (d : (Option Addr)) (line : Int) (k : (Int → K)) : K :=
  c_nvm_Device_step d fun x19 =>
  nvm_Device_Flush_s7 d line k (!x19)
@[reducible] def nvm_Device_Flush_s9 (d : (Option Addr)) (line : Int) (k : (Int → K)) (x5 : Bool) : K :=
  brK x5
  (nvm_Device_Flush_s5 k 2)
  (nvm_Device_Flush_s8 d line k)
@[reducible] def nvm_Device_Flush_s10 (d : (Option Addr)) (line : Int) (k : (Int → K)) : K :=
  brK (decide (line < 0))
  (nvm_Device_Flush_s9 d line k true)
  (nn d fun x11 =>
  ldS (Addr.add x11 3) fun x13 =>
  nvm_Device_Flush_s9 d line k (decide (line ≥ ((x13.n : Nat) : Int))))
@[reducible] def nvm_Device_Flush (d : (Option Addr)) (line : Int) : M Int := fun k =>
  nvm_Device_Flush_s10 d line k
theorem nvm_Device_Flush_ok (d : (Option Addr)) (line : Int) (k : Int → K) (w : World) (hyp_ : nvm_Device_Flush d line k w) : c_nvm_Device_Flush d line k w :=
  cl_of (P := Tryz.prog) Tryz.func218 rfl (by kernel_rfl)
  (RefK.seq [] [0, 1] (fun z_ => [(0, .pointer d), (1, .int .i64 line)]) (fun z_ => nvm_Device_Flush_s10 d line k) (by kernel_rfl) (fun _ => by kernel_rfl)
  (RefK.plain [] (by kernel_rfl))
  (fun _ => RefK.seq [] [0, 1] (fun z_ => [(0, .pointer d), (1, .int .i64 line)]) (fun z_ => nvm_Device_Flush_s4 d line k) (by kernel_rfl) (fun _ => by kernel_rfl)
  (RefK.block (RefK.seq [(5, .bool)] [0, 1] (fun z_ => [(5, .bool z_.1), (0, .pointer d), (1, .int .i64 line)]) (fun z_ => nvm_Device_Flush_s9 d line k z_.1) (by kernel_rfl) (fun _ => by kernel_rfl)
  (RefK.plain [2] (by kernel_rfl))
  (fun ⟨x5, _⟩ => RefK.cond (b := x5) (t1 := nvm_Device_Flush_s5 k 2) (t2 := nvm_Device_Flush_s8 d line k) (by kernel_rfl) (by kernel_rfl) (fun w h => brK_spec w h) (RefK.seq [(4, .int .i64)] [] (fun z_ => [(4, .int .i64 z_.1)]) (fun z_ => nvm_Device_Flush_s5 k z_.1) (by kernel_rfl) (fun _ => by kernel_rfl)
  (RefK.plain [] (by kernel_rfl))
  (fun ⟨x4_1, _⟩ => RefK.ret (by kernel_rfl))) (RefK.seq [(17, .bool)] [0, 1] (fun z_ => [(17, .bool z_.1), (0, .pointer d), (1, .int .i64 line)]) (fun z_ => nvm_Device_Flush_s7 d line k z_.1) (by kernel_rfl) (fun _ => by kernel_rfl)
  (RefK.plain [] (by kernel_rfl))
  (fun ⟨x17, _⟩ => RefK.cond (b := x17) (t1 := nvm_Device_Flush_s6 k 3) (t2 := nvm_Device_Flush_s4 d line k) (by kernel_rfl) (by kernel_rfl) (fun w h => brK_spec w h) (RefK.seq [(4, .int .i64)] [] (fun z_ => [(4, .int .i64 z_.1)]) (fun z_ => nvm_Device_Flush_s6 k z_.1) (by kernel_rfl) (fun _ => by kernel_rfl)
  (RefK.plain [] (by kernel_rfl))
  (fun ⟨x4_2, _⟩ => RefK.ret (by kernel_rfl))) (RefK.skip (by kernel_rfl)))))))
  (fun _ => RefK.seq [] [] (fun z_ => []) (fun z_ => nvm_Device_Flush_s0 k 0) (by kernel_rfl) (fun _ => by kernel_rfl)
  (RefK.seq [(27, .bool)] [0, 1] (fun z_ => [(27, .bool z_.1), (0, .pointer d), (1, .int .i64 line)]) (fun z_ => nvm_Device_Flush_s3 d line k z_.1) (by kernel_rfl) (fun _ => by kernel_rfl)
  (RefK.plain [] (by kernel_rfl))
  (fun ⟨x27, _⟩ => RefK.cond (b := x27) (t1 := nvm_Device_Flush_s2 d line k) (t2 := nvm_Device_Flush_s0 k 0) (by kernel_rfl) (by kernel_rfl) (fun w h => brK_spec w h) (RefK.seq [] [0, 1] (fun z_ => [(0, .pointer d), (1, .int .i64 line)]) (fun z_ => nvm_Device_Flush_s1 d line k) (by kernel_rfl) (fun _ => by kernel_rfl)
  (RefK.plain [] (by kernel_rfl))
  (fun _ => RefK.draw [] [0, 0, 2, 6, 14, 0, 63, 0, 0, 256, 768, 1792, 0, 8191, 16383] [0, 1, 2, 3, 4, 5, 7, 8, 9, 10, 11, 12, 6, 13, 14] [0, 1, 2, 3, 4, 5, 6, 7, 8, 9, 10, 11, 12, 13, 14] (by kernel_rfl) (by kernel_rfl))) (RefK.skip (by kernel_rfl))))
  (fun _ => RefK.seq [(4, .int .i64)] [] (fun z_ => [(4, .int .i64 z_.1)]) (fun z_ => nvm_Device_Flush_s0 k z_.1) (by kernel_rfl) (fun _ => by kernel_rfl)
  (RefK.plain [] (by kernel_rfl))
  (fun ⟨x4, _⟩ => RefK.ret (by kernel_rfl)))))) hyp_
@[reducible] def nvm_Device_Fence_s0 (k : (Int → K)) (x2 : Int) : K :=
  k x2
@[reducible] def nvm_Device_Fence_s1 (d : (Option Addr)) (x13_1 : Int) (c : ((Int × Unit) → K)) (line : Int) : K :=
  tick fun _ =>
  nn d fun x41 =>
  ldS (Addr.add x41 3) fun x43 =>
  nn d fun x47 =>
  ldS (Addr.add x47 0) fun x49 =>
  nn d fun x54 =>
  ldS (Addr.add x54 1) fun x56 =>
  c_nvm_Device_part d x49 line fun x51 =>
  chk [.cell (Addr.add x54 1) (x56.v), .cell (Addr.add x41 3) (x43.v)] fun _ =>
  c_nvm_Device_part d x56 line fun x58 =>
  chk [.cell (Addr.add x41 3) (x43.v)] fun _ =>
  c_slices_Equal_Suint64_uint64 x51 x58 fun x59 =>
  chk [.cell (Addr.add x41 3) (x43.v)] fun _ =>
  ixS x43.p x43.n line 1 fun x61 =>
  stK (Addr.add x61 0) (.bool (!x59)) <|
  c ((IntKind.wrap .i64 (x13_1 + 1)), ())
@[reducible] def nvm_Device_Fence_s2 (d : (Option Addr)) (x13_1 : Int) (c : ((Int × Unit) → K)) (line : Int) : K :=
  nn d fun x35 =>
  ldS (Addr.add x35 4) fun x37 =>
  ixS x37.p x37.n line 1 fun x39 =>
  stK (Addr.add x39 0) (.bool false) <|
  nvm_Device_Fence_s1 d x13_1 c line
@[reducible] def nvm_Device_Fence_s3 (d : (Option Addr)) (x13_1 : Int) (c : ((Int × Unit) → K)) (line : Int) : K :=
  tick fun _ =>
  nn d fun x21 =>
  ldS (Addr.add x21 0) fun x23 =>
  nn d fun x28 =>
  ldS (Addr.add x28 2) fun x30 =>
  c_nvm_Device_part d x23 line fun x25 =>
  chk [.cell (Addr.add x28 2) (x30.v)] fun _ =>
  c_nvm_Device_part d x30 line fun x32 =>
  semT Tryz.prog (Builtin.copy_ #[162, 162] 3 #[x25.v, x32.v]) (.one (.sc (.int .i64))) fun x33 =>
  nvm_Device_Fence_s2 d x13_1 c line
@[reducible] def nvm_Device_Fence_s4 (d : (Option Addr)) (x13_1 : Int) (c : ((Int × Unit) → K)) (line : Int) (x18 : Bool) : K :=
  brK x18
  (nvm_Device_Fence_s3 d x13_1 c line)
  (c ((IntKind.wrap .i64 (x13_1 + 1)), ()))
@[reducible] def nvm_Device_Fence_s5 (d : (Option Addr)) (x13_1 : Int) (c : ((Int × Unit) → K)) (line : Int) (is : Bool) : K :=
  nvm_Device_Fence_s4 d x13_1 c line is
@[reducible] def nvm_Device_Fence_s6 (d : (Option Addr)) (x11 : Sl) (x13_1 : Int) (c : ((Int × Unit) → K)) : K :=
  ixS x11.p x11.n x13_1 1 fun x16 =>
  ldB x16 fun x17 =>
  nvm_Device_Fence_s5 d x13_1 c x13_1 x17
@[reducible] def nvm_Device_Fence_s7 (d : (Option Addr)) (k : (Int → K)) (x11 : Sl) (x13_1 : Int) (c : ((Int × Unit) → K)) (x14 : Bool) : K :=
  brK x14
  (nvm_Device_Fence_s6 d x11 x13_1 c)
  (nvm_Device_Fence_s0 k 0)
@[reducible] def nvm_Device_Fence_l8 (d : (Option Addr)) (k : (Int → K)) (x11 : Sl) (x12 : Int) (x13_1 : Int) (c : ((Int × Unit) → K)) : K :=
  nvm_Device_Fence_s7 d k x11 x13_1 c (decide (x13_1 < x12))
@[reducible] def nvm_Device_Fence_s9 (d : (Option Addr)) (k : (Int → K)) (x11 : Sl) (x12 : Int) (x13 : Int) : K :=
  lp (fun (z_ : (Int × Unit)) c_ => nvm_Device_Fence_l8 d k x11 x12 z_.1 c_) (x13, ())
@[reducible] def nvm_Device_Fence_s10 (d : (Option Addr)) (k : (Int → K)) : K :=
  nn d fun x9 =>
  ldS (Addr.add x9 4) fun x11_1 =>
  nvm_Device_Fence_s9 d k x11_1 ((x11_1.n : Nat) : Int) 0
@[reducible] def nvm_Device_Fence_s11 (k : (Int → K)) (x2_1 : Int) : K :=
  k x2_1
@[reducible] def nvm_Device_Fence_s12 (d : (Option Addr)) (k : (Int → K)) (x7 : Bool) : K :=
  brK x7
  (nvm_Device_Fence_s11 k 3)
  (nvm_Device_Fence_s10 d k)
@[reducible] def nvm_Device_Fence_s13 (d : (Option Addr)) (k : (Int → K)) : K :=
  c_nvm_Device_step d fun x6 =>
  nvm_Device_Fence_s12 d k (!x6)
@[reducible] def nvm_Device_Fence (d : (Option Addr)) : M Int := fun k =>
  nvm_Device_Fence_s13 d k
theorem nvm_Device_Fence_ok (d : (Option Addr)) (k : Int → K) (w : World) (hyp_ : nvm_Device_Fence d k w) : c_nvm_Device_Fence d k w :=
  cl_of (P := Tryz.prog) Tryz.func219 rfl (by kernel_rfl)
  (RefK.seq [] [0] (fun z_ => [(0, .pointer d)]) (fun z_ => nvm_Device_Fence_s13 d k) (by kernel_rfl) (fun _ => by kernel_rfl)
  (RefK.plain [] (by kernel_rfl))
  (fun _ => RefK.seq [] [0] (fun z_ => [(0, .pointer d)]) (fun z_ => nvm_Device_Fence_s10 d k) (by kernel_rfl) (fun _ => by kernel_rfl)
  (RefK.seq [(7, .bool)] [0] (fun z_ => [(7, .bool z_.1), (0, .pointer d)]) (fun z_ => nvm_Device_Fence_s12 d k z_.1) (by kernel_rfl) (fun _ => by kernel_rfl)
  (RefK.plain [] (by kernel_rfl))
  (fun ⟨x7, _⟩ => RefK.cond (b := x7) (t1 := nvm_Device_Fence_s11 k 3) (t2 := nvm_Device_Fence_s10 d k) (by kernel_rfl) (by kernel_rfl) (fun w h => brK_spec w h) (RefK.seq [(2, .int .i64)] [] (fun z_ => [(2, .int .i64 z_.1)]) (fun z_ => nvm_Device_Fence_s11 k z_.1) (by kernel_rfl) (fun _ => by kernel_rfl)
  (RefK.plain [] (by kernel_rfl))
  (fun ⟨x2_1, _⟩ => RefK.ret (by kernel_rfl))) (RefK.skip (by kernel_rfl))))
  (fun _ => RefK.seq [] [] (fun z_ => []) (fun z_ => nvm_Device_Fence_s0 k 0) (by kernel_rfl) (fun _ => by kernel_rfl)
  (RefK.seq [(11, .slice), (12, .int .i64), (13, .int .i64)] [0] (fun z_ => [(11, z_.1.v), (12, .int .i64 z_.2.1), (13, .int .i64 z_.2.2.1), (0, .pointer d)]) (fun z_ => nvm_Device_Fence_s9 d k z_.1 z_.2.1 z_.2.2.1) (by kernel_rfl) (fun _ => by kernel_rfl)
  (RefK.plain [] (by kernel_rfl))
  (fun ⟨x11, x12, x13, _⟩ => RefK.block (RefK.loop [(13, .int .i64)] [0, 11, 12] (fun z_ => [(13, .int .i64 z_.1), (0, .pointer d), (11, x11.v), (12, .int .i64 x12)]) (fun (z_ : (Int × Unit)) c_ => nvm_Device_Fence_l8 d k x11 x12 z_.1 c_) (x13, ()) (by kernel_rfl) (fun _ => by kernel_rfl) (by kernel_rfl) (by kernel_rfl)
  (fun ⟨x13_1, _⟩ c => RefK.seq [(14, .bool)] [0, 11, 12, 13] (fun z_ => [(14, .bool z_.1), (0, .pointer d), (11, x11.v), (12, .int .i64 x12), (13, .int .i64 x13_1)]) (fun z_ => nvm_Device_Fence_s7 d k x11 x13_1 c z_.1) (by kernel_rfl) (fun _ => by kernel_rfl)
  (RefK.plain [] (by kernel_rfl))
  (fun ⟨x14, _⟩ => RefK.seq [] [0, 11, 12, 13] (fun z_ => [(0, .pointer d), (11, x11.v), (12, .int .i64 x12), (13, .int .i64 x13_1)]) (fun z_ => nvm_Device_Fence_s6 d x11 x13_1 c) (by kernel_rfl) (fun _ => by kernel_rfl)
  (RefK.cond (b := x14) (t1 := nvm_Device_Fence_s6 d x11 x13_1 c) (t2 := nvm_Device_Fence_s0 k 0) (by kernel_rfl) (by kernel_rfl) (fun w h => brK_spec w h) (RefK.skip (by kernel_rfl)) (RefK.exit (by kernel_rfl)))
  (fun _ => RefK.seq [] [0, 11, 12, 13] (fun z_ => [(0, .pointer d), (11, x11.v), (12, .int .i64 x12), (13, .int .i64 x13_1)]) (fun z_ => c ((IntKind.wrap .i64 (x13_1 + 1)), ())) (by kernel_rfl) (fun _ => by kernel_rfl)
  (RefK.block (RefK.seq [(3, .int .i64), (4, .bool)] [0, 11, 12, 13] (fun z_ => [(3, .int .i64 z_.1), (4, .bool z_.2.1), (0, .pointer d), (11, x11.v), (12, .int .i64 x12), (13, .int .i64 x13_1)]) (fun z_ => nvm_Device_Fence_s5 d x13_1 c z_.1 z_.2.1) (by kernel_rfl) (fun _ => by kernel_rfl)
  (RefK.plain [] (by kernel_rfl))
  (fun ⟨line, is, _⟩ => RefK.seq [(18, .bool)] [0, 3, 11, 12, 13] (fun z_ => [(18, .bool z_.1), (0, .pointer d), (3, .int .i64 line), (11, x11.v), (12, .int .i64 x12), (13, .int .i64 x13_1)]) (fun z_ => nvm_Device_Fence_s4 d x13_1 c line z_.1) (by kernel_rfl) (fun _ => by kernel_rfl)
  (RefK.plain [] (by kernel_rfl))
  (fun ⟨x18, _⟩ => RefK.cond (b := x18) (t1 := nvm_Device_Fence_s3 d x13_1 c line) (t2 := c ((IntKind.wrap .i64 (x13_1 + 1)), ())) (by kernel_rfl) (by kernel_rfl) (fun w h => brK_spec w h) (RefK.seq [] [0, 3, 11, 12, 13] (fun z_ => [(0, .pointer d), (3, .int .i64 line), (11, x11.v), (12, .int .i64 x12), (13, .int .i64 x13_1)]) (fun z_ => nvm_Device_Fence_s2 d x13_1 c line) (by kernel_rfl) (fun _ => by kernel_rfl)
  (RefK.draw [] [0, 0, 2, 6, 14, 0, 63, 0, 0, 256, 768, 1792, 0, 8191, 16383] [0, 1, 2, 3, 4, 5, 7, 8, 9, 10, 11, 12, 6, 13, 14] [0, 1, 2, 3, 4, 5, 6, 7, 8, 9, 10, 11, 12, 13, 14] (by kernel_rfl) (by kernel_rfl))
  (fun _ => RefK.seq [] [0, 3, 11, 12, 13] (fun z_ => [(0, .pointer d), (3, .int .i64 line), (11, x11.v), (12, .int .i64 x12), (13, .int .i64 x13_1)]) (fun z_ => nvm_Device_Fence_s1 d x13_1 c line) (by kernel_rfl) (fun _ => by kernel_rfl)
  (RefK.plain [] (by kernel_rfl))
  (fun _ => RefK.draw [] [0, 1, 3, 7, 0, 0, 0, 64, 192, 448, 0, 2016, 0, 0, 8192, 24576, 57344, 0, 262112, 524256, 1048544, 2097151, 4194303] [0, 1, 2, 3, 4, 5, 6, 7, 8, 9, 10, 12, 13, 14, 15, 16, 17, 11, 18, 19, 20, 21, 22] [0, 1, 2, 3, 4, 5, 6, 7, 8, 9, 10, 11, 12, 13, 14, 15, 16, 17, 18, 19, 20, 21, 22] (by kernel_rfl) (by kernel_rfl)))) (RefK.skip (by kernel_rfl))))))
  (fun _ => RefK.plain [] (by kernel_rfl))))))))
  (fun _ => RefK.seq [(2, .int .i64)] [] (fun z_ => [(2, .int .i64 z_.1)]) (fun z_ => nvm_Device_Fence_s0 k z_.1) (by kernel_rfl) (fun _ => by kernel_rfl)
  (RefK.plain [] (by kernel_rfl))
  (fun ⟨x2, _⟩ => RefK.ret (by kernel_rfl)))))) hyp_
@[reducible] def nvm_Device_part_s0 (k : (Sl → K)) (x6 : Sl) : K :=
  k x6
@[reducible] def nvm_Device_part_s1 (words : Sl) (line : Int) (k : (Sl → K)) : K :=
  loB (some (.int .i64 (IntKind.wrap .i64 ((IntKind.wrap .i64 (line + 1)) * 8)))) words.n words.c fun h =>
  loB (some (.int .i64 (IntKind.wrap .i64 (line * 8)))) 0 h fun l =>
  nvm_Device_part_s0 k ⟨(cutP words.p l words.c 1), (h - l), (words.c - l)⟩
@[reducible] def nvm_Device_part (d : (Option Addr)) (words : Sl) (line : Int) : M Sl := fun k =>
  nvm_Device_part_s1 words line k
theorem nvm_Device_part_ok (d : (Option Addr)) (words : Sl) (line : Int) (k : Sl → K) (w : World) (hyp_ : nvm_Device_part d words line k w) : c_nvm_Device_part d words line k w :=
  cl_of (P := Tryz.prog) Tryz.func233 rfl (by kernel_rfl)
  (RefK.seq [] [1, 2] (fun z_ => [(1, words.v), (2, .int .i64 line)]) (fun z_ => nvm_Device_part_s1 words line k) (by kernel_rfl) (fun _ => by kernel_rfl)
  (RefK.plain [] (by kernel_rfl))
  (fun _ => RefK.seq [(6, .slice)] [] (fun z_ => [(6, z_.1.v)]) (fun z_ => nvm_Device_part_s0 k z_.1) (by kernel_rfl) (fun _ => by kernel_rfl)
  (RefK.plain [] (by kernel_rfl))
  (fun ⟨x6, _⟩ => RefK.ret (by kernel_rfl)))) hyp_
end Go.Proofs.YtdgcbapclnnkkaaGreat.X
end
section
/- Regions whose calls and allocations have no order of their own: a tree of walks, one for each order of these. Condition: the checks of 'regionOkM'. -/
namespace Go.Proofs.YtdgcbapclnnkkaaGreat.X
open Go
inductive Tr where
  | nil
  | step (i : Nat) (t : Tr)
  | alt (i : Nat) (t r : Tr)
  | no
section
variable (P : Program) (ops : Array Oper) (B : Nat → Nat → Bool)
def EVT (Q : Act → World → Prop) : Tr → Pend → Act → World → Prop
  | .nil, _, a, w => Q a w
  | .step i t, p, a, w => st1 P ops B p i (EVT Q t) a w
  | .alt i t r, p, a, w => st1 P ops B p i (EVT Q t) a w ∧ EVT Q r p a w
  | .no, _, _, _ => True
end
mutual
def okTr (ops : Array Oper) (B : Nat → Nat → Bool) : Tr → List Nat → Bool
  | .nil, rem => rem.isEmpty
  | .step i t, rem => rem.contains i && (rem.all fun j => j == i || B j i || indep ops i j) && okTr ops B t (rem.erase i)
  | .alt i t r, rem => rem.contains i && okTr ops B t (rem.erase i) && okAl ops B r rem [i]
  | .no, _ => false
def okAl (ops : Array Oper) (B : Nat → Nat → Bool) : Tr → List Nat → List Nat → Bool
  | .alt i t r, rem, seen => rem.contains i && okTr ops B t (rem.erase i) && okAl ops B r rem (i :: seen)
  | .no, rem, seen => rem.all fun j => seen.contains j || rem.any fun k => B j k
  | .nil, _, _ => false
  | .step _ _, _, _ => false
end
section
variable {P : Program} {ops : Array Oper} {B : Nat → Nat → Bool}
theorem EVT.anti {Q : Act → World → Prop} : ∀ {t : Tr} {p p' : Pend} {a : Act} {w : World}, (∀ x ∈ p', x ∈ p) → EVT P ops B Q t p a w → EVT P ops B Q t p' a w
  | .nil, _, _, _, _, _, h => h
  | .step i t, _, _, _, _, hp, h => st1.anti hp (fun _ _ _ _ hp h => EVT.anti hp h) h
  | .alt i t r, _, _, _, _, hp, h => ⟨st1.anti hp (fun _ _ _ _ hp h => EVT.anti hp h) h.1, EVT.anti hp h.2⟩
  | .no, _, _, _, _, _, _ => trivial
theorem EVT.front {Q : Act → World → Prop} {i : Nat} : ∀ (t : Tr) (rem : List Nat), rem.Nodup → i ∈ rem → (∀ j ∈ rem, B i j = false) →
    (okTr ops B t rem = true → ∃ t', okTr ops B t' (rem.erase i) = true ∧ ∀ p a w, EVT P ops B Q t p a w → st1 P ops B p i (EVT P ops B Q t') a w) ∧
    (∀ seen, okAl ops B t rem seen = true → i ∉ seen → ∃ t', okTr ops B t' (rem.erase i) = true ∧ ∀ p a w, EVT P ops B Q t p a w → st1 P ops B p i (EVT P ops B Q t') a w) := by
  intro t
  induction t with
  | nil =>
    intro rem hn hi hm
    refine ⟨fun h => ?_, fun seen h => by simp [okAl] at h⟩
    simp only [okTr, List.isEmpty_iff] at h; subst h; cases hi
  | no =>
    intro rem hn hi hm
    refine ⟨fun h => by simp [okTr] at h, fun seen h hs => ?_⟩
    simp only [okAl, List.all_eq_true, Bool.or_eq_true, List.any_eq_true] at h
    rcases h i hi with h1 | ⟨k, hk, hb⟩
    · exact absurd (by simpa using h1) hs
    · rw [hm k hk] at hb; cases hb
  | step j t ih =>
    intro rem hn hi hm
    refine ⟨fun h => ?_, fun seen h => by simp [okAl] at h⟩
    simp only [okTr, Bool.and_eq_true, List.all_eq_true, Bool.or_eq_true, beq_iff_eq] at h
    obtain ⟨⟨h1, h2⟩, h3⟩ := h
    by_cases hji : j = i
    · subst hji; exact ⟨t, h3, fun p a w h => h⟩
    · obtain ⟨t', h4, h5⟩ := (ih (rem.erase j) (hn.erase j) ((List.mem_erase_of_ne (Ne.symm hji)).2 hi) (fun k hk => hm k (List.mem_of_mem_erase hk))).1 h3
      have hjr : j ∈ rem := by simpa using h1
      have hBij := hm j hjr
      have hind : indep ops j i = true := by
        rcases h2 i hi with (h | h) | h
        · exact absurd h.symm hji
        · rw [hBij] at h; cases h
        · exact h
      refine ⟨.step j t', ?_, fun p a w h => ?_⟩
      · simp only [okTr, Bool.and_eq_true, List.all_eq_true, Bool.or_eq_true, beq_iff_eq]
        refine ⟨⟨by simpa using (List.mem_erase_of_ne hji).2 hjr, fun k hk => h2 k (List.mem_of_mem_erase hk)⟩, ?_⟩
        rw [List.erase_comm]; exact h4
      · have hh : st1 P ops B p j (fun p a w => st1 P ops B p i (EVT P ops B Q t') a w) a w := st1.anti (fun _ h => h) (fun p1 p2 a1 w1 hp h => st1.anti hp (fun _ _ _ _ hp h => EVT.anti hp h) (h5 _ _ _ h)) h
        exact st1.swap hind hBij (fun _ _ _ _ hp h => EVT.anti hp h) hh
  | alt j t r iht ihr =>
    intro rem hn hi hm
    have key : ∀ seen, (rem.contains j && okTr ops B t (rem.erase j) && okAl ops B r rem seen) = true → (i ≠ j → i ∉ seen) → ∃ t', okTr ops B t' (rem.erase i) = true ∧ ∀ p a w, EVT P ops B Q (.alt j t r) p a w → st1 P ops B p i (EVT P ops B Q t') a w := by
      intro seen h hs
      simp only [Bool.and_eq_true] at h
      by_cases hji : j = i
      · subst hji; exact ⟨t, h.1.2, fun p a w h => h.1⟩
      · obtain ⟨t', h1, h2⟩ := (ihr rem hn hi hm).2 seen h.2 (hs (Ne.symm hji))
        exact ⟨t', h1, fun p a w h => h2 _ _ _ h.2⟩
    refine ⟨fun h => ?_, fun seen h hs => ?_⟩
    · exact key [j] (by simpa only [okTr] using h) (fun h => by simpa using h)
    · exact key (j :: seen) (by simpa only [okAl] using h) (fun h => by simp [h, hs])

theorem EVT.wpAny {md : Region.Mode} {Q : Exit → Act → World → Prop} {T : List Nat} (hmd : ∀ e, Region.binds .any e = true → Region.binds md e = true)
    (he : edgesOk ops B = true) (hT : topoOk md ops T [] = true) (hTn : ∀ i, i < ops.size → i ∈ T) (hTs : ∀ i ∈ T, i < ops.size) :
    ∀ (fuel : Nat) (rem : List Nat) (t : Tr) (listed : Array Bool) (p : Pend) (a : Act) (w : World), rem.length = fuel → rem.Nodup → okTr ops B t rem = true → EVT P ops B (Q .normal) t p a w →
      listed.size = ops.size → (∀ i, i < ops.size → (i ∈ rem ↔ listed.getD i false = false)) → (∀ i ∈ rem, i < ops.size) →
      (∀ i j, i < ops.size → listed.getD i false = true → B i j = true → j < ops.size → listed.getD j false = true) →
      Go.wpAny P md ops Q fuel listed a w := by
  intro fuel
  induction fuel with
  | zero =>
    intro rem t listed p a w hl hn hok h hsz hC hrs hd
    obtain rfl : rem = [] := List.eq_nil_of_length_eq_zero hl
    refine ⟨?_, ?_⟩
    · apply List.eq_nil_iff_forall_not_mem.2
      intro i hi
      obtain ⟨h0, o, ho, _⟩ := mem_ready.1 hi
      have hlt : i < ops.size := (Array.getElem?_eq_some_iff.1 ho).1
      have := (hC i hlt).2 (by simpa [hsz, hlt] using h0)
      cases this
    · cases t with
      | nil => exact h
      | step => simp [okTr] at hok
      | alt => simp [okTr] at hok
      | no => simp [okTr] at hok
  | succ fuel ih =>
    intro rem t listed p a w hl hn hok h hsz hC hrs hd
    refine ⟨fun hr => ?_, fun i hi => ?_⟩
    · have hall := topoOk_spec hT listed (fun _ h => by cases h) (fun j hj => by rw [hsz]; exact hTs j hj) hr
      cases rem with
      | nil => simp at hl
      | cons j C =>
        have hj := hrs j List.mem_cons_self
        have h1 := (hC j hj).1 List.mem_cons_self
        rw [hall j (hTn j hj)] at h1
        cases h1
    · obtain ⟨h0, o, ho, hall⟩ := mem_ready.1 hi
      have hlt : i < ops.size := (Array.getElem?_eq_some_iff.1 ho).1
      have hif : listed.getD i false = false := by simpa [hsz, hlt] using h0
      have hiC : i ∈ rem := (hC i hlt).2 hif
      have hbefore : ∀ j, B i j = true → j < ops.size → listed.getD j false = true := by
        intro j hb hj
        unfold edgesOk at he
        simp only [List.all_eq_true, List.mem_range] at he
        have h1 := he i hlt
        simp only [ho, Bool.and_eq_true, List.all_eq_true, List.mem_range] at h1
        have h2 := h1.2 j hj
        simp only [hb, Bool.not_true, Bool.false_or] at h2
        obtain ⟨e, hem, h3⟩ := Array.any_eq_true'.1 h2
        simp only [Bool.and_eq_true, Bool.or_eq_true, beq_iff_eq] at h3
        have hon := hall e hem (hmd e h3.1)
        have honlt : e.on < ops.size := by
          rw [← hsz]
          rcases Nat.lt_or_ge e.on listed.size with h' | h'
          · exact h'
          · simp [Array.getElem?_eq_none h'] at hon
        rcases h3.2 with rfl | h4
        · exact hon
        · exact hd e.on j honlt hon h4 hj
      have hfree : ∀ j ∈ rem, B i j = false := by
        intro j hj
        cases hb : B i j with
        | false => rfl
        | true => have := (hC j (hrs j hj)).1 hj; rw [hbefore j hb (hrs j hj)] at this; cases this
      obtain ⟨t', hok', hf⟩ := (EVT.front (P := P) (Q := Q .normal) t rem hn hiC hfree).1 hok
      refine wpOp_mono ?_ (st1.wpOp (hf _ _ _ h))
      rintro a' w' ⟨p', h'⟩
      refine ih (rem.erase i) t' _ p' a' w' ?_ (hn.erase i) hok' h' ?_ ?_ ?_ ?_
      · rw [List.length_erase_of_mem hiC]; omega
      · simpa using hsz
      · intro k hk
        by_cases hik : i = k
        · subst hik
          have hnot : i ∉ rem.erase i := fun h => (hn.mem_erase_iff.1 h).1 rfl
          simp [hnot, hsz, hk]
        · rw [getD_set_ne false hik, ← hC k hk]
          exact List.mem_erase_of_ne (Ne.symm hik)
      · exact fun k hk => hrs k (List.mem_of_mem_erase hk)
      · intro k j hk hkl hb hj
        by_cases hik : i = k
        · subst hik; exact getD_set_true (hbefore j hb hj)
        · rw [getD_set_ne false hik] at hkl
          exact getD_set_true (hd k j hk hkl hb hj)

def regionOkM (ops : Array Oper) (B : Nat → Nat → Bool) (t : Tr) (gc : List Nat) : Bool :=
  okTr ops B t (List.range ops.size) && allIn ops.size gc && edgesOk ops B && topoOk .any ops gc [] && topoOk .text ops (List.range ops.size) [] && topoOk .gc ops gc []
theorem region_drawM {Q : Exit → Act → World → Prop} {id : Nat} {t : Tr} {gc : List Nat} {a : Act} {w : World} (hok : regionOkM ops B t gc = true) (h : EVT P ops B (Q .normal) t [] a { w with drawn := w.drawn + 1 }) : (Code.region id ops true).wp P Q a w := by
  unfold regionOkM at hok
  simp only [Bool.and_eq_true] at hok
  obtain ⟨⟨⟨⟨⟨h1, h2⟩, h3⟩, h5⟩, h6⟩, h7⟩ := hok
  obtain ⟨g1, g2, g3, g4⟩ := allIn_spec h2
  have main : ∀ (md : Region.Mode) (T : List Nat), (∀ e, Region.binds .any e = true → Region.binds md e = true) → topoOk md ops T [] = true → (∀ i, i < ops.size → i ∈ T) → (∀ i ∈ T, i < ops.size) →
      Go.wpAny P md ops Q ops.size (Array.replicate ops.size false) a { w with drawn := w.drawn + 1 } := fun md T hmd hT hT1 hT2 =>
    EVT.wpAny hmd h3 hT hT1 hT2 ops.size (List.range ops.size) t _ [] a _ (by simp) List.nodup_range h1 h (by simp)
      (fun i hi => by simp [hi]) (fun i hi => List.mem_range.1 hi) (fun i j hi hl => by simp [hi] at hl)
  refine wp_region_draw fun t => ?_
  unfold Region.schedule
  split
  · exact wpAny_sound ops.size t _ a _ (main .any gc (fun _ h => h) h5 g2 g4)
  · split
    · exact wpAny_sound ops.size _ _ a _ (main .text (List.range ops.size) (fun e h => by revert h; unfold Region.binds; cases e.ground <;> simp) h6 (fun i hi => List.mem_range.2 hi) (fun i hi => List.mem_range.1 hi))
    · exact wpAny_sound ops.size _ _ a _ (main .gc gc (fun e h => by revert h; unfold Region.binds; cases e.ground <;> simp) h7 g2 g4)
end
def stepE (P : Program) (n : Nat) (ops : Array Oper) (B : Nat → Nat → Bool) (sp : List Nat) (i : Nat) (pd : List (Nat × List Ft)) (E : Env) (K' : List (Nat × List Ft) → Env → K) : K :=
  onSome ops[i]? fun o => gd (okOper n E o) (onSome (wantE E ops o) fun wa => match wa with
    | false => K' pd (E.put o.dst undef)
    | true => match clsOf o with
      | .pure => pureK P o E.rho fun v => splitK (sp.contains i) v fun v => K' pd (E.put o.dst v)
      | .read => readK P o E.rho fun fs v => K' ((i, fs) :: pd) (E.put o.dst v)
      | .alloc => allocK P o E.rho fun v => K' pd (E.put o.dst v)
      | .eff => effK P o E.rho fun v => chk (pends B i pd) fun _ => K' pd (E.put o.dst v))
def andK (a b : K) : K := fun w => a w ∧ b w
def rgnT (P : Program) (n : Nat) (ops : Array Oper) (B : Nat → Nat → Bool) (sp : List Nat) : Tr → List (Nat × List Ft) → Env → (Env → K) → K
  | .nil, _, E, k => k E
  | .step i t, pd, E, k => stepE P n ops B sp i pd E fun pd E => rgnT P n ops B sp t pd E k
  | .alt i t r, pd, E, k => andK (stepE P n ops B sp i pd E fun pd E => rgnT P n ops B sp t pd E k) (rgnT P n ops B sp r pd E k)
  | .no, _, _, _ => fun _ => True
section
variable {P : Program} {n : Nat} {ops : Array Oper} {B : Nat → Nat → Bool} {sp : List Nat}
theorem stepE_st1 {a0 : Act} {K' : List (Nat × List Ft) → Env → K} {KK : Pend → Act → World → Prop} {i : Nat} {pd : List (Nat × List Ft)} {E : Env} {p : Pend} {a : Act} {w : World}
    (ih : ∀ (pd : List (Nat × List Ft)) (E : Env) (p : Pend) (a : Act) (w : World), K' pd E w → Agree n E a → Fr (dstsL ops.toList) a0 a → PdOk P p pd → KK p a w)
    (h : stepE P n ops B sp i pd E K' w) (ha : Agree n E a) (hfr : Fr (dstsL ops.toList) a0 a) (hp : PdOk P p pd) : st1 P ops B p i KK a w := by
  unfold stepE at h
  obtain ⟨o, ho, h⟩ := optK h
  obtain ⟨hok, h⟩ := gd_spec h
  obtain ⟨wa, hwa, h⟩ := optK h
  have hw := ha.want hwa
  have hd := okOper.dst hok
  have hfp : ∀ v, Fr (dstsL ops.toList) a0 (a.put o.dst v) := fun v => hfr.put fun d hd => dstsL_mem (by simpa using Array.mem_of_getElem? ho) hd
  refine ⟨o, ho, ?_⟩
  cases wa with
  | false => exact .inl ⟨hw, ih _ _ _ _ _ h (ha.put hd) (hfp _) hp⟩
  | true =>
    refine .inr ⟨hw, ?_⟩
    cases hc : clsOf o with
    | pure =>
      simp only [hc] at h
      have he := ha.exec hok (notsel (by rw [hc]; simp))
      obtain ⟨v, hv, h⟩ := pureK_run hc h
      exact .inl ⟨rfl, v, by rw [he]; exact hv, ih _ _ _ _ _ (splitK_spec h) (ha.put hd) (hfp _) hp⟩
    | read =>
      simp only [hc] at h
      have he := ha.exec hok (notsel (by rw [hc]; simp))
      obtain ⟨v, fs, h, hf, hr⟩ := readK_run h
      refine .inr (.inl ⟨rfl, v, ?_, ih _ _ _ _ _ h (ha.put hd) (hfp _) ?_⟩)
      · rw [he]; exact fun w' hx => hr w' fun f hm => Ft.holds_ext hx (hf f hm)
      · intro x hx
        rcases List.mem_cons.1 hx with rfl | hx
        · exact ⟨fs, List.mem_cons_self, by simp only; rw [he]; exact hr⟩
        · obtain ⟨gs, hm, hg⟩ := hp x hx
          exact ⟨gs, List.mem_cons_of_mem _ hm, hg⟩
    | alloc =>
      simp only [hc] at h
      have he := ha.exec hok (notsel (by rw [hc]; simp))
      obtain ⟨f, ob, hr, h⟩ := allocK_run h
      exact .inr (.inr (.inl ⟨rfl, f, ob, by rw [he]; exact hr, ih _ _ _ _ _ h (ha.put hd) (hfp _) hp⟩))
    | eff =>
      simp only [hc] at h
      have he : execOp a.eval o = execOp E.rho o := by
        by_cases hs : ∀ cs b, o.op ≠ .select cs b
        · exact ha.exec hok hs
        · exfalso
          have : ∃ cs b, o.op = .select cs b := Classical.byContradiction fun hn => hs fun cs b e => hn ⟨cs, b, e⟩
          obtain ⟨cs, b, e⟩ := this
          unfold effK at h
          simp only [e] at h
          exact h.elim
      refine .inr (.inr (.inr ⟨rfl, ?_⟩))
      rw [he]
      refine (effK_run (fun f => rfl) h).mono fun v w' h' => ?_
      obtain ⟨h1, h2⟩ := chk_spec h'
      refine ⟨fun x hx hb => ?_, ih _ _ _ _ _ h2 (ha.put hd) (hfp _) hp⟩
      obtain ⟨fs, hm, hg⟩ := hp x hx
      exact fun w'' hx' => hg w'' fun f hf => Ft.holds_ext hx' (h1 f (pends_mem hm hb f hf))

theorem rgnT_EVT {Q : Act → World → Prop} {k : Env → K} {a0 : Act} (hk : ∀ E' a' w', Agree n E' a' → Fr (dstsL ops.toList) a0 a' → k E' w' → Q a' w') :
    ∀ (t : Tr) (pd : List (Nat × List Ft)) (E : Env) (p : Pend) (a : Act) (w : World), rgnT P n ops B sp t pd E k w → Agree n E a → Fr (dstsL ops.toList) a0 a → PdOk P p pd → EVT P ops B Q t p a w := by
  intro t
  induction t with
  | nil => intro pd E p a w h ha hfr _; exact hk _ _ _ ha hfr h
  | step i t ih => intro pd E p a w h ha hfr hp; exact stepE_st1 ih h ha hfr hp
  | alt i t r iht ihr => intro pd E p a w h ha hfr hp; exact ⟨stepE_st1 iht h.1 ha hfr hp, ihr _ _ _ _ _ h.2 ha hfr hp⟩
  | no => intros; trivial
theorem region_drawM_E {Q : Exit → Act → World → Prop} {k : Env → K} {id : Nat} {t : Tr} {gc : List Nat} {E : Env} {a : Act} {w : World} (ha : Agree n E a)
    (hk : ∀ E' a' w', Agree n E' a' → Fr (dstsL ops.toList) a a' → k E' w' → Q .normal a' w') (hok : regionOkM ops B t gc = true) (h : rgnT P n ops B sp t [] E k { w with drawn := w.drawn + 1 }) : (Code.region id ops true).wp P Q a w :=
  region_drawM hok (rgnT_EVT hk _ _ _ _ _ _ h ha (Fr.refl _ _) fun _ hx => (List.not_mem_nil hx).elim)
theorem RefK.drawM (sp bits : List Nat) (tr : Tr) (gc : List Nat) {id : Nat} {ops : Array Oper} {E : Env} {t : K} {Q : Exit → Env → K} (hok : regionOkM ops (bB bits) tr gc = true)
    (h : t = tick fun _ => rgnT P n ops (bB bits) sp tr [] E (Q .normal)) : RefK P n (.region id ops true) E t Q :=
  fun _ _ _ ha ht hq => region_drawM_E ha (fun _ _ _ ha' hf hk => hq _ _ _ _ ha' hf hk) hok (by subst h; exact ht)
end
end Go.Proofs.YtdgcbapclnnkkaaGreat.X
end
section
/- Printed by a program of this session (gen.py): the functions of the dump over typed primitives, and that they serve for the model's code. No condition. -/
set_option maxRecDepth 100000
set_option linter.unusedVariables false
namespace Go.Proofs.YtdgcbapclnnkkaaGreat.X
open Go
@[reducible] def nvm_load_s0 (k : ((Option Addr) → K)) (x2 : Addr) : K :=
  k (some x2)
@[reducible] def nvm_load_s1 (words : Sl) (k : ((Option Addr) → K)) (n : Int) : K :=
  tick fun _ =>
  andK
  (c_slices_Clone_Suint64_uint64 words fun x9 =>
  andK
  (mkS Tryz.prog 109 ((words.n : Nat) : Int) ((words.n : Nat) : Int) fun b =>
  andK
  (mkS Tryz.prog 4 n n fun b_1 =>
  mkS Tryz.prog 4 n n fun b_2 =>
  alK (.cells #[words.v, x9.v, .slice (some ⟨b, 0, none⟩) (Int.toNat ((words.n : Nat) : Int)) (Int.toNat ((words.n : Nat) : Int)), .slice (some ⟨b_1, 0, none⟩) (Int.toNat n) (Int.toNat n), .slice (some ⟨b_2, 0, none⟩) (Int.toNat n) (Int.toNat n), .int .i64 0, .int .i64 0, .bool false, .bool false] 165) fun b_3 =>
  nvm_load_s0 k ⟨b_3, 0, none⟩)
  (andK
  (mkS Tryz.prog 4 n n fun b_4 =>
  mkS Tryz.prog 4 n n fun b_5 =>
  alK (.cells #[words.v, x9.v, .slice (some ⟨b, 0, none⟩) (Int.toNat ((words.n : Nat) : Int)) (Int.toNat ((words.n : Nat) : Int)), .slice (some ⟨b_5, 0, none⟩) (Int.toNat n) (Int.toNat n), .slice (some ⟨b_4, 0, none⟩) (Int.toNat n) (Int.toNat n), .int .i64 0, .int .i64 0, .bool false, .bool false] 165) fun b_6 =>
  nvm_load_s0 k ⟨b_6, 0, none⟩)
  ((fun _ => True))))
  (andK
  (mkS Tryz.prog 4 n n fun b_7 =>
  andK
  (mkS Tryz.prog 109 ((words.n : Nat) : Int) ((words.n : Nat) : Int) fun b_8 =>
  mkS Tryz.prog 4 n n fun b_9 =>
  alK (.cells #[words.v, x9.v, .slice (some ⟨b_8, 0, none⟩) (Int.toNat ((words.n : Nat) : Int)) (Int.toNat ((words.n : Nat) : Int)), .slice (some ⟨b_7, 0, none⟩) (Int.toNat n) (Int.toNat n), .slice (some ⟨b_9, 0, none⟩) (Int.toNat n) (Int.toNat n), .int .i64 0, .int .i64 0, .bool false, .bool false] 165) fun b_10 =>
  nvm_load_s0 k ⟨b_10, 0, none⟩)
  (andK
  (mkS Tryz.prog 4 n n fun b_11 =>
  mkS Tryz.prog 109 ((words.n : Nat) : Int) ((words.n : Nat) : Int) fun b_12 =>
  alK (.cells #[words.v, x9.v, .slice (some ⟨b_12, 0, none⟩) (Int.toNat ((words.n : Nat) : Int)) (Int.toNat ((words.n : Nat) : Int)), .slice (some ⟨b_7, 0, none⟩) (Int.toNat n) (Int.toNat n), .slice (some ⟨b_11, 0, none⟩) (Int.toNat n) (Int.toNat n), .int .i64 0, .int .i64 0, .bool false, .bool false] 165) fun b_13 =>
  nvm_load_s0 k ⟨b_13, 0, none⟩)
  ((fun _ => True))))
  (andK
  (mkS Tryz.prog 4 n n fun b_14 =>
  andK
  (mkS Tryz.prog 109 ((words.n : Nat) : Int) ((words.n : Nat) : Int) fun b_15 =>
  mkS Tryz.prog 4 n n fun b_16 =>
  alK (.cells #[words.v, x9.v, .slice (some ⟨b_15, 0, none⟩) (Int.toNat ((words.n : Nat) : Int)) (Int.toNat ((words.n : Nat) : Int)), .slice (some ⟨b_16, 0, none⟩) (Int.toNat n) (Int.toNat n), .slice (some ⟨b_14, 0, none⟩) (Int.toNat n) (Int.toNat n), .int .i64 0, .int .i64 0, .bool false, .bool false] 165) fun b_17 =>
  nvm_load_s0 k ⟨b_17, 0, none⟩)
  (andK
  (mkS Tryz.prog 4 n n fun b_18 =>
  mkS Tryz.prog 109 ((words.n : Nat) : Int) ((words.n : Nat) : Int) fun b_19 =>
  alK (.cells #[words.v, x9.v, .slice (some ⟨b_19, 0, none⟩) (Int.toNat ((words.n : Nat) : Int)) (Int.toNat ((words.n : Nat) : Int)), .slice (some ⟨b_18, 0, none⟩) (Int.toNat n) (Int.toNat n), .slice (some ⟨b_14, 0, none⟩) (Int.toNat n) (Int.toNat n), .int .i64 0, .int .i64 0, .bool false, .bool false] 165) fun b_20 =>
  nvm_load_s0 k ⟨b_20, 0, none⟩)
  ((fun _ => True))))
  ((fun _ => True)))))
  (andK
  (mkS Tryz.prog 109 ((words.n : Nat) : Int) ((words.n : Nat) : Int) fun b_21 =>
  andK
  (c_slices_Clone_Suint64_uint64 words fun x9_1 =>
  andK
  (mkS Tryz.prog 4 n n fun b_22 =>
  mkS Tryz.prog 4 n n fun b_23 =>
  alK (.cells #[words.v, x9_1.v, .slice (some ⟨b_21, 0, none⟩) (Int.toNat ((words.n : Nat) : Int)) (Int.toNat ((words.n : Nat) : Int)), .slice (some ⟨b_22, 0, none⟩) (Int.toNat n) (Int.toNat n), .slice (some ⟨b_23, 0, none⟩) (Int.toNat n) (Int.toNat n), .int .i64 0, .int .i64 0, .bool false, .bool false] 165) fun b_24 =>
  nvm_load_s0 k ⟨b_24, 0, none⟩)
  (andK
  (mkS Tryz.prog 4 n n fun b_25 =>
  mkS Tryz.prog 4 n n fun b_26 =>
  alK (.cells #[words.v, x9_1.v, .slice (some ⟨b_21, 0, none⟩) (Int.toNat ((words.n : Nat) : Int)) (Int.toNat ((words.n : Nat) : Int)), .slice (some ⟨b_26, 0, none⟩) (Int.toNat n) (Int.toNat n), .slice (some ⟨b_25, 0, none⟩) (Int.toNat n) (Int.toNat n), .int .i64 0, .int .i64 0, .bool false, .bool false] 165) fun b_27 =>
  nvm_load_s0 k ⟨b_27, 0, none⟩)
  ((fun _ => True))))
  (andK
  (mkS Tryz.prog 4 n n fun b_28 =>
  andK
  (c_slices_Clone_Suint64_uint64 words fun x9_2 =>
  mkS Tryz.prog 4 n n fun b_29 =>
  alK (.cells #[words.v, x9_2.v, .slice (some ⟨b_21, 0, none⟩) (Int.toNat ((words.n : Nat) : Int)) (Int.toNat ((words.n : Nat) : Int)), .slice (some ⟨b_28, 0, none⟩) (Int.toNat n) (Int.toNat n), .slice (some ⟨b_29, 0, none⟩) (Int.toNat n) (Int.toNat n), .int .i64 0, .int .i64 0, .bool false, .bool false] 165) fun b_30 =>
  nvm_load_s0 k ⟨b_30, 0, none⟩)
  (andK
  (mkS Tryz.prog 4 n n fun b_31 =>
  c_slices_Clone_Suint64_uint64 words fun x9_3 =>
  alK (.cells #[words.v, x9_3.v, .slice (some ⟨b_21, 0, none⟩) (Int.toNat ((words.n : Nat) : Int)) (Int.toNat ((words.n : Nat) : Int)), .slice (some ⟨b_28, 0, none⟩) (Int.toNat n) (Int.toNat n), .slice (some ⟨b_31, 0, none⟩) (Int.toNat n) (Int.toNat n), .int .i64 0, .int .i64 0, .bool false, .bool false] 165) fun b_32 =>
  nvm_load_s0 k ⟨b_32, 0, none⟩)
  ((fun _ => True))))
  (andK
  (mkS Tryz.prog 4 n n fun b_33 =>
  andK
  (c_slices_Clone_Suint64_uint64 words fun x9_4 =>
  mkS Tryz.prog 4 n n fun b_34 =>
  alK (.cells #[words.v, x9_4.v, .slice (some ⟨b_21, 0, none⟩) (Int.toNat ((words.n : Nat) : Int)) (Int.toNat ((words.n : Nat) : Int)), .slice (some ⟨b_34, 0, none⟩) (Int.toNat n) (Int.toNat n), .slice (some ⟨b_33, 0, none⟩) (Int.toNat n) (Int.toNat n), .int .i64 0, .int .i64 0, .bool false, .bool false] 165) fun b_35 =>
  nvm_load_s0 k ⟨b_35, 0, none⟩)
  (andK
  (mkS Tryz.prog 4 n n fun b_36 =>
  c_slices_Clone_Suint64_uint64 words fun x9_5 =>
  alK (.cells #[words.v, x9_5.v, .slice (some ⟨b_21, 0, none⟩) (Int.toNat ((words.n : Nat) : Int)) (Int.toNat ((words.n : Nat) : Int)), .slice (some ⟨b_36, 0, none⟩) (Int.toNat n) (Int.toNat n), .slice (some ⟨b_33, 0, none⟩) (Int.toNat n) (Int.toNat n), .int .i64 0, .int .i64 0, .bool false, .bool false] 165) fun b_37 =>
  nvm_load_s0 k ⟨b_37, 0, none⟩)
  ((fun _ => True))))
  ((fun _ => True)))))
  (andK
  (mkS Tryz.prog 4 n n fun b_38 =>
  andK
  (c_slices_Clone_Suint64_uint64 words fun x9_6 =>
  andK
  (mkS Tryz.prog 109 ((words.n : Nat) : Int) ((words.n : Nat) : Int) fun b_39 =>
  mkS Tryz.prog 4 n n fun b_40 =>
  alK (.cells #[words.v, x9_6.v, .slice (some ⟨b_39, 0, none⟩) (Int.toNat ((words.n : Nat) : Int)) (Int.toNat ((words.n : Nat) : Int)), .slice (some ⟨b_38, 0, none⟩) (Int.toNat n) (Int.toNat n), .slice (some ⟨b_40, 0, none⟩) (Int.toNat n) (Int.toNat n), .int .i64 0, .int .i64 0, .bool false, .bool false] 165) fun b_41 =>
  nvm_load_s0 k ⟨b_41, 0, none⟩)
  (andK
  (mkS Tryz.prog 4 n n fun b_42 =>
  mkS Tryz.prog 109 ((words.n : Nat) : Int) ((words.n : Nat) : Int) fun b_43 =>
  alK (.cells #[words.v, x9_6.v, .slice (some ⟨b_43, 0, none⟩) (Int.toNat ((words.n : Nat) : Int)) (Int.toNat ((words.n : Nat) : Int)), .slice (some ⟨b_38, 0, none⟩) (Int.toNat n) (Int.toNat n), .slice (some ⟨b_42, 0, none⟩) (Int.toNat n) (Int.toNat n), .int .i64 0, .int .i64 0, .bool false, .bool false] 165) fun b_44 =>
  nvm_load_s0 k ⟨b_44, 0, none⟩)
  ((fun _ => True))))
  (andK
  (mkS Tryz.prog 109 ((words.n : Nat) : Int) ((words.n : Nat) : Int) fun b_45 =>
  andK
  (c_slices_Clone_Suint64_uint64 words fun x9_7 =>
  mkS Tryz.prog 4 n n fun b_46 =>
  alK (.cells #[words.v, x9_7.v, .slice (some ⟨b_45, 0, none⟩) (Int.toNat ((words.n : Nat) : Int)) (Int.toNat ((words.n : Nat) : Int)), .slice (some ⟨b_38, 0, none⟩) (Int.toNat n) (Int.toNat n), .slice (some ⟨b_46, 0, none⟩) (Int.toNat n) (Int.toNat n), .int .i64 0, .int .i64 0, .bool false, .bool false] 165) fun b_47 =>
  nvm_load_s0 k ⟨b_47, 0, none⟩)
  (andK
  (mkS Tryz.prog 4 n n fun b_48 =>
  c_slices_Clone_Suint64_uint64 words fun x9_8 =>
  alK (.cells #[words.v, x9_8.v, .slice (some ⟨b_45, 0, none⟩) (Int.toNat ((words.n : Nat) : Int)) (Int.toNat ((words.n : Nat) : Int)), .slice (some ⟨b_38, 0, none⟩) (Int.toNat n) (Int.toNat n), .slice (some ⟨b_48, 0, none⟩) (Int.toNat n) (Int.toNat n), .int .i64 0, .int .i64 0, .bool false, .bool false] 165) fun b_49 =>
  nvm_load_s0 k ⟨b_49, 0, none⟩)
  ((fun _ => True))))
  (andK
  (mkS Tryz.prog 4 n n fun b_50 =>
  andK
  (c_slices_Clone_Suint64_uint64 words fun x9_9 =>
  mkS Tryz.prog 109 ((words.n : Nat) : Int) ((words.n : Nat) : Int) fun b_51 =>
  alK (.cells #[words.v, x9_9.v, .slice (some ⟨b_51, 0, none⟩) (Int.toNat ((words.n : Nat) : Int)) (Int.toNat ((words.n : Nat) : Int)), .slice (some ⟨b_38, 0, none⟩) (Int.toNat n) (Int.toNat n), .slice (some ⟨b_50, 0, none⟩) (Int.toNat n) (Int.toNat n), .int .i64 0, .int .i64 0, .bool false, .bool false] 165) fun b_52 =>
  nvm_load_s0 k ⟨b_52, 0, none⟩)
  (andK
  (mkS Tryz.prog 109 ((words.n : Nat) : Int) ((words.n : Nat) : Int) fun b_53 =>
  c_slices_Clone_Suint64_uint64 words fun x9_10 =>
  alK (.cells #[words.v, x9_10.v, .slice (some ⟨b_53, 0, none⟩) (Int.toNat ((words.n : Nat) : Int)) (Int.toNat ((words.n : Nat) : Int)), .slice (some ⟨b_38, 0, none⟩) (Int.toNat n) (Int.toNat n), .slice (some ⟨b_50, 0, none⟩) (Int.toNat n) (Int.toNat n), .int .i64 0, .int .i64 0, .bool false, .bool false] 165) fun b_54 =>
  nvm_load_s0 k ⟨b_54, 0, none⟩)
  ((fun _ => True))))
  ((fun _ => True)))))
  (andK
  (mkS Tryz.prog 4 n n fun b_55 =>
  andK
  (c_slices_Clone_Suint64_uint64 words fun x9_11 =>
  andK
  (mkS Tryz.prog 109 ((words.n : Nat) : Int) ((words.n : Nat) : Int) fun b_56 =>
  mkS Tryz.prog 4 n n fun b_57 =>
  alK (.cells #[words.v, x9_11.v, .slice (some ⟨b_56, 0, none⟩) (Int.toNat ((words.n : Nat) : Int)) (Int.toNat ((words.n : Nat) : Int)), .slice (some ⟨b_57, 0, none⟩) (Int.toNat n) (Int.toNat n), .slice (some ⟨b_55, 0, none⟩) (Int.toNat n) (Int.toNat n), .int .i64 0, .int .i64 0, .bool false, .bool false] 165) fun b_58 =>
  nvm_load_s0 k ⟨b_58, 0, none⟩)
  (andK
  (mkS Tryz.prog 4 n n fun b_59 =>
  mkS Tryz.prog 109 ((words.n : Nat) : Int) ((words.n : Nat) : Int) fun b_60 =>
  alK (.cells #[words.v, x9_11.v, .slice (some ⟨b_60, 0, none⟩) (Int.toNat ((words.n : Nat) : Int)) (Int.toNat ((words.n : Nat) : Int)), .slice (some ⟨b_59, 0, none⟩) (Int.toNat n) (Int.toNat n), .slice (some ⟨b_55, 0, none⟩) (Int.toNat n) (Int.toNat n), .int .i64 0, .int .i64 0, .bool false, .bool false] 165) fun b_61 =>
  nvm_load_s0 k ⟨b_61, 0, none⟩)
  ((fun _ => True))))
  (andK
  (mkS Tryz.prog 109 ((words.n : Nat) : Int) ((words.n : Nat) : Int) fun b_62 =>
  andK
  (c_slices_Clone_Suint64_uint64 words fun x9_12 =>
  mkS Tryz.prog 4 n n fun b_63 =>
  alK (.cells #[words.v, x9_12.v, .slice (some ⟨b_62, 0, none⟩) (Int.toNat ((words.n : Nat) : Int)) (Int.toNat ((words.n : Nat) : Int)), .slice (some ⟨b_63, 0, none⟩) (Int.toNat n) (Int.toNat n), .slice (some ⟨b_55, 0, none⟩) (Int.toNat n) (Int.toNat n), .int .i64 0, .int .i64 0, .bool false, .bool false] 165) fun b_64 =>
  nvm_load_s0 k ⟨b_64, 0, none⟩)
  (andK
  (mkS Tryz.prog 4 n n fun b_65 =>
  c_slices_Clone_Suint64_uint64 words fun x9_13 =>
  alK (.cells #[words.v, x9_13.v, .slice (some ⟨b_62, 0, none⟩) (Int.toNat ((words.n : Nat) : Int)) (Int.toNat ((words.n : Nat) : Int)), .slice (some ⟨b_65, 0, none⟩) (Int.toNat n) (Int.toNat n), .slice (some ⟨b_55, 0, none⟩) (Int.toNat n) (Int.toNat n), .int .i64 0, .int .i64 0, .bool false, .bool false] 165) fun b_66 =>
  nvm_load_s0 k ⟨b_66, 0, none⟩)
  ((fun _ => True))))
  (andK
  (mkS Tryz.prog 4 n n fun b_67 =>
  andK
  (c_slices_Clone_Suint64_uint64 words fun x9_14 =>
  mkS Tryz.prog 109 ((words.n : Nat) : Int) ((words.n : Nat) : Int) fun b_68 =>
  alK (.cells #[words.v, x9_14.v, .slice (some ⟨b_68, 0, none⟩) (Int.toNat ((words.n : Nat) : Int)) (Int.toNat ((words.n : Nat) : Int)), .slice (some ⟨b_67, 0, none⟩) (Int.toNat n) (Int.toNat n), .slice (some ⟨b_55, 0, none⟩) (Int.toNat n) (Int.toNat n), .int .i64 0, .int .i64 0, .bool false, .bool false] 165) fun b_69 =>
  nvm_load_s0 k ⟨b_69, 0, none⟩)
  (andK
  (mkS Tryz.prog 109 ((words.n : Nat) : Int) ((words.n : Nat) : Int) fun b_70 =>
  c_slices_Clone_Suint64_uint64 words fun x9_15 =>
  alK (.cells #[words.v, x9_15.v, .slice (some ⟨b_70, 0, none⟩) (Int.toNat ((words.n : Nat) : Int)) (Int.toNat ((words.n : Nat) : Int)), .slice (some ⟨b_67, 0, none⟩) (Int.toNat n) (Int.toNat n), .slice (some ⟨b_55, 0, none⟩) (Int.toNat n) (Int.toNat n), .int .i64 0, .int .i64 0, .bool false, .bool false] 165) fun b_71 =>
  nvm_load_s0 k ⟨b_71, 0, none⟩)
  ((fun _ => True))))
  ((fun _ => True)))))
  ((fun _ => True)))))
@[reducible] def nvm_load (words : Sl) : M (Option Addr) := fun k =>
  nvm_load_s1 words k (IntKind.wrap .i64 (Int.tdiv ((words.n : Nat) : Int) 8))
theorem nvm_load_ok (words : Sl) (k : (Option Addr) → K) (w : World) (hyp_ : nvm_load words k w) : c_nvm_load words k w :=
  cl_of (P := Tryz.prog) Tryz.func176 rfl (by kernel_rfl)
  (RefK.seq [] [0] (fun z_ => [(0, words.v)]) (fun z_ => nvm_load_s1 words k (IntKind.wrap .i64 (Int.tdiv ((words.n : Nat) : Int) 8))) (by kernel_rfl) (fun _ => by kernel_rfl)
  (RefK.plain [] (by kernel_rfl))
  (fun _ => RefK.seq [(3, .int .i64)] [0] (fun z_ => [(3, .int .i64 z_.1), (0, words.v)]) (fun z_ => nvm_load_s1 words k z_.1) (by kernel_rfl) (fun _ => by kernel_rfl)
  (RefK.plain [] (by kernel_rfl))
  (fun ⟨n, _⟩ => RefK.seq [(2, .addr)] [] (fun z_ => [(2, .pointer (some z_.1))]) (fun z_ => nvm_load_s0 k z_.1) (by kernel_rfl) (fun _ => by kernel_rfl)
  (RefK.drawM [] [0, 0, 2, 0, 8, 24, 0, 64, 0, 256, 1023, 2047, 4095] (.step 0 (.step 1 (.step 3 (.step 4 (.step 6 (.step 8 (.alt 2 (.alt 5 (.alt 7 (.step 9 (.step 10 (.step 11 (.step 12 .nil)))) (.alt 9 (.step 7 (.step 10 (.step 11 (.step 12 .nil)))) .no)) (.alt 7 (.alt 5 (.step 9 (.step 10 (.step 11 (.step 12 .nil)))) (.alt 9 (.step 5 (.step 10 (.step 11 (.step 12 .nil)))) .no)) (.alt 9 (.alt 5 (.step 7 (.step 10 (.step 11 (.step 12 .nil)))) (.alt 7 (.step 5 (.step 10 (.step 11 (.step 12 .nil)))) .no)) .no))) (.alt 5 (.alt 2 (.alt 7 (.step 9 (.step 10 (.step 11 (.step 12 .nil)))) (.alt 9 (.step 7 (.step 10 (.step 11 (.step 12 .nil)))) .no)) (.alt 7 (.alt 2 (.step 9 (.step 10 (.step 11 (.step 12 .nil)))) (.alt 9 (.step 2 (.step 10 (.step 11 (.step 12 .nil)))) .no)) (.alt 9 (.alt 2 (.step 7 (.step 10 (.step 11 (.step 12 .nil)))) (.alt 7 (.step 2 (.step 10 (.step 11 (.step 12 .nil)))) .no)) .no))) (.alt 7 (.alt 2 (.alt 5 (.step 9 (.step 10 (.step 11 (.step 12 .nil)))) (.alt 9 (.step 5 (.step 10 (.step 11 (.step 12 .nil)))) .no)) (.alt 5 (.alt 2 (.step 9 (.step 10 (.step 11 (.step 12 .nil)))) (.alt 9 (.step 2 (.step 10 (.step 11 (.step 12 .nil)))) .no)) (.alt 9 (.alt 2 (.step 5 (.step 10 (.step 11 (.step 12 .nil)))) (.alt 5 (.step 2 (.step 10 (.step 11 (.step 12 .nil)))) .no)) .no))) (.alt 9 (.alt 2 (.alt 5 (.step 7 (.step 10 (.step 11 (.step 12 .nil)))) (.alt 7 (.step 5 (.step 10 (.step 11 (.step 12 .nil)))) .no)) (.alt 5 (.alt 2 (.step 7 (.step 10 (.step 11 (.step 12 .nil)))) (.alt 7 (.step 2 (.step 10 (.step 11 (.step 12 .nil)))) .no)) (.alt 7 (.alt 2 (.step 5 (.step 10 (.step 11 (.step 12 .nil)))) (.alt 5 (.step 2 (.step 10 (.step 11 (.step 12 .nil)))) .no)) .no))) .no)))))))))) [0, 1, 2, 3, 4, 5, 6, 7, 8, 9, 10, 11, 12] (by kernel_rfl) (by kernel_rfl))
  (fun ⟨x2, _⟩ => RefK.ret (by kernel_rfl))))) hyp_
end Go.Proofs.YtdgcbapclnnkkaaGreat.X
end
