/- Part 2 of the proof that the law holds for every input: the theorems of this part. Conditions: each theorem bears its own; the last has none. -/
import Derived.Test.YtdgcbapclnnkkaaGreatKa
set_option linter.all false
set_option maxRecDepth 4000
namespace Go.Proofs.YtdgcbapclnnkkaaGreat.X
open Go
section
set_option maxRecDepth 100000
abbrev Zaa0 (k : ((Int × Bool) → K)) (x2 : Int) (x3 : Bool) : K :=
  k (x2, x3)
abbrev Zaa1 (k : ((Int × Bool) → K)) (o_1 : Addr) : K :=
  ldI .i64 (o_1.add 0) fun x4_0 =>
  ldI .i64 (o_1.add 1) fun x4_1 =>
  c_ohead_Object_Size (x4_0, x4_1) fun x5 =>
  c_class_Of x5 fun x6 =>
  Zaa0 k x6.1 x6.2
abbrev ohead_Object_Small (o : (Int × Int)) : M (Int × Bool) := fun k =>
  alK (.cells #[.int .i64 o.1, .int .i64 o.2] 68) fun b =>
  Zaa1 k ⟨b, 0, none⟩
theorem ohead_Object_Small_ok (o : (Int × Int)) (k : (Int × Bool) → K) (w : World) (hyp_ : ohead_Object_Small o k w) : c_ohead_Object_Small o k w :=
  cl_of (P := Tryz.prog) Tryz.func78 rfl (by kernel_rfl)
  (Qs [(1, .addr)] [] (fun z_ => Zaa1 k z_.1)
  Qz
  (fun ⟨o_1, _⟩ => Qs [(2, .int .i64), (3, .bool)] [] (fun z_ => Zaa0 k z_.1 z_.2.1)
  Qz
  (fun ⟨x2, x3, _⟩ => Qr))) hyp_
abbrev Zab0 (k : (Int → K)) (x4 : Int) : K :=
  k x4
abbrev Zab1 (k : (Int → K)) (x4_1 : Int) : K :=
  k x4_1
abbrev Zab2 (at_1 : Int) (k : (Int → K)) (x12 : Bool) : K :=
  brK x12
  (Zab1 k (-1))
  (Zab0 k (IntKind.wrap .i64 (Int.tdiv at_1 512)))
abbrev Zab3 (at_1 : Int) (k : (Int → K)) (g_1 : Addr) : K :=
  brK (decide (at_1 < 0))
  (Zab2 at_1 k true)
  (ldI .i64 (g_1.add 0) fun x9_0 =>
  c_geom_Geometry_Words x9_0 fun x10 =>
  Zab2 at_1 k (decide (at_1 ≥ x10)))
abbrev geom_Geometry_BlockOf (g : Int) (at_1 : Int) : M Int := fun k =>
  alK (.cells #[.int .i64 g] 43) fun b =>
  Zab3 at_1 k ⟨b, 0, none⟩
theorem geom_Geometry_BlockOf_ok (g : Int) (at_1 : Int) (k : Int → K) (w : World) (hyp_ : geom_Geometry_BlockOf g at_1 k w) : c_geom_Geometry_BlockOf g at_1 k w :=
  cl_of (P := Tryz.prog) Tryz.func80 rfl (by kernel_rfl)
  (Qs [(2, .addr)] [1] (fun z_ => Zab3 at_1 k z_.1)
  Qz
  (fun ⟨g_1, _⟩ => Qs [] [1] (fun z_ => Zab0 k (IntKind.wrap .i64 (Int.tdiv at_1 512)))
  (Qs [(12, .bool)] [1] (fun z_ => Zab2 at_1 k z_.1)
  (Qp [2])
  (fun ⟨x12, _⟩ => Qc (x12) (Zab1 k (-1)) (Zab0 k (IntKind.wrap .i64 (Int.tdiv at_1 512))) (Qs [(4, .int .i64)] [] (fun z_ => Zab1 k z_.1)
  Qz
  (fun ⟨x4_1, _⟩ => Qr)) Qk))
  (fun _ => Qs [(4, .int .i64)] [] (fun z_ => Zab0 k z_.1)
  Qz
  (fun ⟨x4, _⟩ => Qr)))) hyp_
abbrev Zac0 (k : (Int → K)) (x2 : Int) : K :=
  k x2
abbrev Zac1 (k : (Int → K)) (x2_1 : Int) : K :=
  k x2_1
abbrev Zac2 (k : (Int → K)) (n : Int) (x14 : Bool) : K :=
  brK x14
  (Zac1 k 0)
  (Zac0 k n)
abbrev Zac3 (k : (Int → K)) (n : Int) (e : Int) : K :=
  Zac2 k n (e != 0)
abbrev Zac4 (k : (Int → K)) (o_1 : Addr) : K :=
  ldI .i64 (o_1.add 0) fun x7 =>
  ldI .i64 (o_1.add 1) fun x9 =>
  c_class_Size x7 x9 fun x10 =>
  Zac3 k x10.1 x10.2
abbrev ohead_Object_Size (o : (Int × Int)) : M Int := fun k =>
  alK (.cells #[.int .i64 o.1, .int .i64 o.2] 68) fun b =>
  Zac4 k ⟨b, 0, none⟩
theorem ohead_Object_Size_ok (o : (Int × Int)) (k : Int → K) (w : World) (hyp_ : ohead_Object_Size o k w) : c_ohead_Object_Size o k w :=
  cl_of (P := Tryz.prog) Tryz.func86 rfl (by kernel_rfl)
  (Qs [(1, .addr)] [] (fun z_ => Zac4 k z_.1)
  Qz
  (fun ⟨o_1, _⟩ => Qs [(3, .int .i64), (4, .int .i64)] [] (fun z_ => Zac3 k z_.1 z_.2.1)
  Qz
  (fun ⟨n, e, _⟩ => Qs [] [3] (fun z_ => Zac0 k n)
  (Qs [(14, .bool)] [3] (fun z_ => Zac2 k n z_.1)
  Qz
  (fun ⟨x14, _⟩ => Qc (x14) (Zac1 k 0) (Zac0 k n) (Qs [(2, .int .i64)] [] (fun z_ => Zac1 k z_.1)
  Qz
  (fun ⟨x2_1, _⟩ => Qr)) Qk))
  (fun _ => Qs [(2, .int .i64)] [] (fun z_ => Zac0 k z_.1)
  Qz
  (fun ⟨x2, _⟩ => Qr))))) hyp_
abbrev Zad0 (k : (Int → K)) (x2 : Int) : K :=
  k x2
abbrev Zad1 (k : (Int → K)) (g_1 : Addr) : K :=
  ldI .i64 (g_1.add 0) fun x4 =>
  Zad0 k (IntKind.wrap .i64 ((max2I 0 (IntKind.wrap .i64 (x4 - 1))) * 512))
abbrev geom_Geometry_Most (g : Int) : M Int := fun k =>
  alK (.cells #[.int .i64 g] 43) fun b =>
  Zad1 k ⟨b, 0, none⟩
theorem geom_Geometry_Most_ok (g : Int) (k : Int → K) (w : World) (hyp_ : geom_Geometry_Most g k w) : c_geom_Geometry_Most g k w :=
  cl_of (P := Tryz.prog) Tryz.func87 rfl (by kernel_rfl)
  (Qs [(1, .addr)] [] (fun z_ => Zad1 k z_.1)
  Qz
  (fun ⟨g_1, _⟩ => Qs [(2, .int .i64)] [] (fun z_ => Zad0 k z_.1)
  Qz
  (fun ⟨x2, _⟩ => Qr))) hyp_
abbrev Zae0 (k : (Int → K)) (x2 : Int) : K :=
  k x2
abbrev Zae1 (k : (Int → K)) (o_1 : Addr) : K :=
  ldI .i64 (o_1.add 0) fun x11_0 =>
  ldI .i64 (o_1.add 1) fun x11_1 =>
  c_ohead_Object_Size (x11_0, x11_1) fun x12 =>
  c_bits_Up x12 512 fun x13 =>
  Zae0 k x13
abbrev Zae2 (k : (Int → K)) (x2_1 : Int) : K :=
  k x2_1
abbrev Zae3 (k : (Int → K)) (o_1 : Addr) (x10 : Bool) : K :=
  brK x10
  (Zae2 k 0)
  (Zae1 k o_1)
abbrev Zae4 (k : (Int → K)) (o_1 : Addr) (ok : Bool) : K :=
  Zae3 k o_1 ok
abbrev Zae5 (k : (Int → K)) (o_1 : Addr) : K :=
  ldI .i64 (o_1.add 0) fun x6_0 =>
  ldI .i64 (o_1.add 1) fun x6_1 =>
  c_ohead_Object_Small (x6_0, x6_1) fun x7 =>
  Zae4 k o_1 x7.2
abbrev ohead_Object_Blocks (o : (Int × Int)) : M Int := fun k =>
  alK (.cells #[.int .i64 o.1, .int .i64 o.2] 68) fun b =>
  Zae5 k ⟨b, 0, none⟩
theorem ohead_Object_Blocks_ok (o : (Int × Int)) (k : Int → K) (w : World) (hyp_ : ohead_Object_Blocks o k w) : c_ohead_Object_Blocks o k w :=
  cl_of (P := Tryz.prog) Tryz.func88 rfl (by kernel_rfl)
  (Qs [(1, .addr)] [] (fun z_ => Zae5 k z_.1)
  Qz
  (fun ⟨o_1, _⟩ => Qs [] [1] (fun z_ => Zae1 k o_1)
  (Qs [(4, .bool)] [1] (fun z_ => Zae4 k o_1 z_.1)
  Qz
  (fun ⟨ok, _⟩ => Qs [(10, .bool)] [1] (fun z_ => Zae3 k o_1 z_.1)
  Qz
  (fun ⟨x10, _⟩ => Qc (x10) (Zae2 k 0) (Zae1 k o_1) (Qs [(2, .int .i64)] [] (fun z_ => Zae2 k z_.1)
  Qz
  (fun ⟨x2_1, _⟩ => Qr)) Qk)))
  (fun _ => Qs [(2, .int .i64)] [] (fun z_ => Zae0 k z_.1)
  Qz
  (fun ⟨x2, _⟩ => Qr)))) hyp_
abbrev Zaf0 (k : (Int → K)) (x2 : Int) : K :=
  k x2
abbrev Zaf1 (k_1 : Int) (k : (Int → K)) : K :=
  c_class_sizes fun x6 =>
  ixI .i64 x6.toArray 32 k_1 fun x8 =>
  Zaf0 k x8
abbrev Zaf2 (k : (Int → K)) (x2_1 : Int) : K :=
  k x2_1
abbrev Zaf3 (k_1 : Int) (k : (Int → K)) (x5 : Bool) : K :=
  brK x5
  (Zaf2 k 0)
  (Zaf1 k_1 k)
abbrev Zaf4 (k_1 : Int) (k : (Int → K)) : K :=
  c_class_Right k_1 fun x4 =>
  Zaf3 k_1 k (!x4)
abbrev class_Words (k_1 : Int) : M Int := fun k =>
  Zaf4 k_1 k
theorem class_Words_ok (k_1 : Int) (k : Int → K) (w : World) (hyp_ : class_Words k_1 k w) : c_class_Words k_1 k w :=
  cl_of (P := Tryz.prog) Tryz.func93 rfl (by kernel_rfl)
  (Qs [] [0] (fun z_ => Zaf4 k_1 k)
  Qz
  (fun _ => Qs [] [0] (fun z_ => Zaf1 k_1 k)
  (Qs [(5, .bool)] [0] (fun z_ => Zaf3 k_1 k z_.1)
  Qz
  (fun ⟨x5, _⟩ => Qc (x5) (Zaf2 k 0) (Zaf1 k_1 k) (Qs [(2, .int .i64)] [] (fun z_ => Zaf2 k z_.1)
  Qz
  (fun ⟨x2_1, _⟩ => Qr)) Qk))
  (fun _ => Qs [(2, .int .i64)] [] (fun z_ => Zaf0 k z_.1)
  Qz
  (fun ⟨x2, _⟩ => Qr)))) hyp_
abbrev Zag0 (k : (Bool → K)) (x2 : Bool) : K :=
  k x2
abbrev Zag1 (k_1 : Int) (k : (Bool → K)) : K :=
  brK (decide (k_1 ≥ 0))
  (Zag0 k (decide (k_1 < 32)))
  (Zag0 k false)
abbrev class_Right (k_1 : Int) : M Bool := fun k =>
  Zag1 k_1 k
theorem class_Right_ok (k_1 : Int) (k : Bool → K) (w : World) (hyp_ : class_Right k_1 k w) : c_class_Right k_1 k w :=
  cl_of (P := Tryz.prog) Tryz.func100 rfl (by kernel_rfl)
  (Qs [] [0] (fun z_ => Zag1 k_1 k)
  Qz
  (fun _ => Qs [(2, .bool)] [] (fun z_ => Zag0 k z_.1)
  (Qp [2])
  (fun ⟨x2, _⟩ => Qr))) hyp_
abbrev Zah0 (k : (Int → K)) (x2 : Int) : K :=
  k x2
abbrev Zah1 (k_1 : Int) (k : (Int → K)) : K :=
  c_class_Words k_1 fun x7 =>
  nz x7 <|
  Zah0 k (IntKind.wrap .i64 (Int.tdiv 512 x7))
abbrev Zah2 (k : (Int → K)) (x2_1 : Int) : K :=
  k x2_1
abbrev Zah3 (k_1 : Int) (k : (Int → K)) (x5 : Bool) : K :=
  brK x5
  (Zah2 k 0)
  (Zah1 k_1 k)
abbrev Zah4 (k_1 : Int) (k : (Int → K)) : K :=
  c_class_Right k_1 fun x4 =>
  Zah3 k_1 k (!x4)
abbrev class_Cells (k_1 : Int) : M Int := fun k =>
  Zah4 k_1 k
theorem class_Cells_ok (k_1 : Int) (k : Int → K) (w : World) (hyp_ : class_Cells k_1 k w) : c_class_Cells k_1 k w :=
  cl_of (P := Tryz.prog) Tryz.func102 rfl (by kernel_rfl)
  (Qs [] [0] (fun z_ => Zah4 k_1 k)
  Qz
  (fun _ => Qs [] [0] (fun z_ => Zah1 k_1 k)
  (Qs [(5, .bool)] [0] (fun z_ => Zah3 k_1 k z_.1)
  Qz
  (fun ⟨x5, _⟩ => Qc (x5) (Zah2 k 0) (Zah1 k_1 k) (Qs [(2, .int .i64)] [] (fun z_ => Zah2 k z_.1)
  Qz
  (fun ⟨x2_1, _⟩ => Qr)) Qk))
  (fun _ => Qs [(2, .int .i64)] [] (fun z_ => Zah0 k z_.1)
  Qz
  (fun ⟨x2, _⟩ => Qr)))) hyp_
abbrev Zai0 (k : (((Int × Int) × Int) → K)) (x4 : Addr) (x5 : Int) : K :=
  ldI .i64 (x4.add 0) fun x4_0 =>
  ldI .i64 (x4.add 1) fun x4_1 =>
  k ((x4_0, x4_1), x5)
abbrev Zai1 (k : (((Int × Int) × Int) → K)) (x4 : Addr) (o : Addr) : K :=
  ldI .i64 (o.add 0) fun x34_0 =>
  ldI .i64 (o.add 1) fun x34_1 =>
  stK (x4.add 0) (.int .i64 x34_0) <|
  stK (x4.add 1) (.int .i64 x34_1) <|
  Zai0 k x4 0
abbrev Zai2 (k : (((Int × Int) × Int) → K)) (x4 : Addr) (x5_1 : Int) : K :=
  ldI .i64 (x4.add 0) fun x4_0_1 =>
  ldI .i64 (x4.add 1) fun x4_1_1 =>
  k ((x4_0_1, x4_1_1), x5_1)
abbrev Zai3 (k : (((Int × Int) × Int) → K)) (x4 : Addr) : K :=
  stK (x4.add 0) (.int .i64 0) <|
  stK (x4.add 1) (.int .i64 0) <|
  Zai2 k x4 26
abbrev Zai4 (k : (((Int × Int) × Int) → K)) (x4 : Addr) (o : Addr) (x32 : Bool) : K :=
  brK x32
  (Zai3 k x4)
  (Zai1 k x4 o)
abbrev Zai5 (at_1 : Int) (w_1 : Int) (k : (((Int × Int) × Int) → K)) (x4 : Addr) (o : Addr) : K :=
  ldI .i64 (o.add 0) fun x28_0 =>
  ldI .i64 (o.add 1) fun x28_1 =>
  c_ohead_Object_Encode (x28_0, x28_1) at_1 fun x30 =>
  Zai4 k x4 o (x30 != w_1)
abbrev Zai6 (at_1 : Int) (w_1 : Int) (k : (((Int × Int) × Int) → K)) (x4 : Addr) (x : Int) : K :=
  c_bits_Get x 8 6 fun x22 =>
  c_bits_Get x 14 15 fun x25 =>
  alK (.cells #[.int .i64 0, .int .i64 0] 68) fun b =>
  stK (Addr.add ⟨b, 0, none⟩ 0) (.int .i64 (IntKind.wrap .i64 x22)) <|
  stK (Addr.add ⟨b, 0, none⟩ 1) (.int .i64 (IntKind.wrap .i64 x25)) <|
  Zai5 at_1 w_1 k x4 ⟨b, 0, none⟩
abbrev Zai7 (k : (((Int × Int) × Int) → K)) (x4 : Addr) (x5_2 : Int) : K :=
  ldI .i64 (x4.add 0) fun x4_0_2 =>
  ldI .i64 (x4.add 1) fun x4_1_2 =>
  k ((x4_0_2, x4_1_2), x5_2)
abbrev Zai8 (k : (((Int × Int) × Int) → K)) (x4 : Addr) : K :=
  stK (x4.add 0) (.int .i64 0) <|
  stK (x4.add 1) (.int .i64 0) <|
  Zai7 k x4 25
abbrev Zai9 (at_1 : Int) (w_1 : Int) (k : (((Int × Int) × Int) → K)) (x4 : Addr) (n : Int) (x17 : Bool) : K :=
  brK x17
  (Zai8 k x4)
  (Zai6 at_1 w_1 k x4 (IntKind.wrap .u64 n))
abbrev Zai10 (at_1 : Int) (w_1 : Int) (k : (((Int × Int) × Int) → K)) (x4 : Addr) (n : Int) (ok : Bool) : K :=
  Zai9 at_1 w_1 k x4 n (!ok)
abbrev Zai11 (at_1 : Int) (w_1 : Int) (k : (((Int × Int) × Int) → K)) (x4 : Addr) : K :=
  c_crc_Open w_1 at_1 fun x13 =>
  Zai10 at_1 w_1 k x4 x13.1 x13.2
abbrev ohead_Decode (at_1 : Int) (w_1 : Int) : M ((Int × Int) × Int) := fun k =>
  alK (.cells #[.int .i64 0, .int .i64 0] 68) fun b_1 =>
  Zai11 at_1 w_1 k ⟨b_1, 0, none⟩
theorem ohead_Decode_ok (at_1 : Int) (w_1 : Int) (k : ((Int × Int) × Int) → K) (w : World) (hyp_ : ohead_Decode at_1 w_1 k w) : c_ohead_Decode at_1 w_1 k w :=
  cl_of (P := Tryz.prog) Tryz.func116 rfl (by kernel_rfl)
  (Qs [(4, .addr)] [0, 1] (fun z_ => Zai11 at_1 w_1 k z_.1)
  Qz
  (fun ⟨x4, _⟩ => Qs [(6, .int .u32), (7, .bool)] [0, 1, 4] (fun z_ => Zai10 at_1 w_1 k x4 z_.1 z_.2.1)
  Qz
  (fun ⟨n, ok, _⟩ => Qs [] [0, 1, 4, 6] (fun z_ => Zai6 at_1 w_1 k x4 (IntKind.wrap .u64 n))
  (Qs [(17, .bool)] [0, 1, 4, 6] (fun z_ => Zai9 at_1 w_1 k x4 n z_.1)
  Qz
  (fun ⟨x17, _⟩ => Qc (x17) (Zai8 k x4) (Zai6 at_1 w_1 k x4 (IntKind.wrap .u64 n)) (Qs [(5, .int .i64)] [4] (fun z_ => Zai7 k x4 z_.1)
  Qz
  (fun ⟨x5_2, _⟩ => Qr)) Qk))
  (fun _ => Qs [(8, .int .u64)] [0, 1, 4] (fun z_ => Zai6 at_1 w_1 k x4 z_.1)
  Qz
  (fun ⟨x, _⟩ => Qs [(9, .addr)] [0, 1, 4] (fun z_ => Zai5 at_1 w_1 k x4 z_.1)
  Qz
  (fun ⟨o, _⟩ => Qs [] [4, 9] (fun z_ => Zai1 k x4 o)
  (Qs [(32, .bool)] [4, 9] (fun z_ => Zai4 k x4 o z_.1)
  Qz
  (fun ⟨x32, _⟩ => Qc (x32) (Zai3 k x4) (Zai1 k x4 o) (Qs [(5, .int .i64)] [4] (fun z_ => Zai2 k x4 z_.1)
  Qz
  (fun ⟨x5_1, _⟩ => Qr)) Qk))
  (fun _ => Qs [(5, .int .i64)] [4] (fun z_ => Zai0 k x4 z_.1)
  Qz
  (fun ⟨x5, _⟩ => Qr)))))))) hyp_
abbrev Zaj0 (k : (((Int × Int) × Bool) → K)) (x6 : Addr) (x7 : Bool) : K :=
  ldI .i64 (x6.add 0) fun x6_0 =>
  ldI .i64 (x6.add 1) fun x6_1 =>
  k ((x6_0, x6_1), x7)
abbrev Zaj1 (k_1 : Int) (at_1 : Int) (k : (((Int × Int) × Bool) → K)) (g_1 : Addr) (x6 : Addr) (c : Addr) : K :=
  tick fun _ =>
  ldI .i64 (c.add 0) fun x28_0 =>
  ldI .i64 (c.add 1) fun x28_1 =>
  ldI .i64 (g_1.add 0) fun x29_0 =>
  ldI .i64 (c.add 0) fun x31_0 =>
  ldI .i64 (c.add 1) fun x31_1 =>
  c_cells_Address x29_0 k_1 (x31_0, x31_1) fun x32 =>
  chk [.cell (c.add 0) (.int .i64 x28_0), .cell (c.add 1) (.int .i64 x28_1)] fun _ =>
  stK (x6.add 0) (.int .i64 x28_0) <|
  stK (x6.add 1) (.int .i64 x28_1) <|
  Zaj0 k x6 (x32 == at_1)
abbrev Zaj2 (k_1 : Int) (at_1 : Int) (k : (((Int × Int) × Bool) → K)) (g_1 : Addr) (x6 : Addr) : K :=
  ldI .i64 (g_1.add 0) fun x19_0 =>
  c_geom_Geometry_BlockOf x19_0 at_1 fun x21 =>
  c_class_Words k_1 fun x25 =>
  nz x25 <|
  alK (.cells #[.int .i64 0, .int .i64 0] 168) fun b =>
  stK (Addr.add ⟨b, 0, none⟩ 0) (.int .i64 x21) <|
  stK (Addr.add ⟨b, 0, none⟩ 1) (.int .i64 (IntKind.wrap .i64 (Int.tdiv (Int.tmod at_1 512) x25))) <|
  Zaj1 k_1 at_1 k g_1 x6 ⟨b, 0, none⟩
abbrev Zaj3 (k : (((Int × Int) × Bool) → K)) (x6 : Addr) (x7_1 : Bool) : K :=
  ldI .i64 (x6.add 0) fun x6_0_1 =>
  ldI .i64 (x6.add 1) fun x6_1_1 =>
  k ((x6_0_1, x6_1_1), x7_1)
abbrev Zaj4 (k : (((Int × Int) × Bool) → K)) (x6 : Addr) : K :=
  stK (x6.add 0) (.int .i64 0) <|
  stK (x6.add 1) (.int .i64 0) <|
  Zaj3 k x6 false
abbrev Zaj5 (k_1 : Int) (at_1 : Int) (k : (((Int × Int) × Bool) → K)) (g_1 : Addr) (x6 : Addr) (x17 : Bool) : K :=
  brK x17
  (Zaj4 k x6)
  (Zaj2 k_1 at_1 k g_1 x6)
abbrev Zaj6 (k_1 : Int) (at_1 : Int) (k : (((Int × Int) × Bool) → K)) (g_1 : Addr) (x6 : Addr) : K :=
  c_class_Right k_1 fun x10 =>
  brK (!x10)
  (Zaj5 k_1 at_1 k g_1 x6 true)
  (ldI .i64 (g_1.add 0) fun x13_0 =>
  c_geom_Geometry_Data x13_0 at_1 fun x15 =>
  Zaj5 k_1 at_1 k g_1 x6 (!x15))
abbrev cells_At (g : Int) (k_1 : Int) (at_1 : Int) : M ((Int × Int) × Bool) := fun k =>
  alK (.cells #[.int .i64 g] 43) fun b_1 =>
  alK (.cells #[.int .i64 0, .int .i64 0] 168) fun b_2 =>
  Zaj6 k_1 at_1 k ⟨b_1, 0, none⟩ ⟨b_2, 0, none⟩
theorem cells_At_ok (g : Int) (k_1 : Int) (at_1 : Int) (k : ((Int × Int) × Bool) → K) (w : World) (hyp_ : cells_At g k_1 at_1 k w) : c_cells_At g k_1 at_1 k w :=
  cl_of (P := Tryz.prog) Tryz.func117 rfl (by kernel_rfl)
  (Qs [(3, .addr), (6, .addr)] [1, 2] (fun z_ => Zaj6 k_1 at_1 k z_.1 z_.2.1)
  Qz
  (fun ⟨g_1, x6, _⟩ => Qs [] [1, 2, 3, 6] (fun z_ => Zaj2 k_1 at_1 k g_1 x6)
  (Qs [(17, .bool)] [1, 2, 3, 6] (fun z_ => Zaj5 k_1 at_1 k g_1 x6 z_.1)
  (Qp [3])
  (fun ⟨x17, _⟩ => Qc (x17) (Zaj4 k x6) (Zaj2 k_1 at_1 k g_1 x6) (Qs [(7, .bool)] [6] (fun z_ => Zaj3 k x6 z_.1)
  Qz
  (fun ⟨x7_1, _⟩ => Qr)) Qk))
  (fun _ => Qs [(8, .addr)] [1, 2, 3, 6] (fun z_ => Zaj1 k_1 at_1 k g_1 x6 z_.1)
  Qz
  (fun ⟨c, _⟩ => Qs [(7, .bool)] [6] (fun z_ => Zaj0 k x6 z_.1)
  (RefK.draw [] [0, 0, 0, 0, 14, 0, 62, 31, 255] [0, 1, 2, 3, 5, 4, 6, 7, 8] [0, 1, 2, 3, 4, 7, 5, 6, 8] (by kernel_rfl) (by kernel_rfl))
  (fun ⟨x7, _⟩ => Qr))))) hyp_
abbrev Zak0 (k : ((Int × Bool) → K)) (x4 : Int) (x5 : Bool) : K :=
  k (x4, x5)
abbrev Zak1 (k : ((Int × Bool) → K)) (x4_1 : Int) (x5_1 : Bool) : K :=
  k (x4_1, x5_1)
abbrev Zak2 (k : ((Int × Bool) → K)) (i_1 : Int) (c : ((Int × Unit) → K)) (x52 : Bool) : K :=
  brK x52
  (Zak1 k 0 false)
  (c ((IntKind.wrap .i64 (i_1 + 1)), ()))
abbrev Zak3 (list : Sl) (block : Int) (k : ((Int × Bool) → K)) (i_1 : Int) (c : ((Int × Unit) → K)) : K :=
  ixS list.p list.n (IntKind.wrap .i64 (block + i_1)) 3 fun x48 =>
  ldI .i64 (x48.add 0) fun x49_0 =>
  ldI .i64 (x48.add 1) fun x49_1 =>
  ldI .i64 (x48.add 2) fun x49_2 =>
  Zak2 k i_1 c (!((x49_0 == 3) && ((x49_1 == 0) && ((x49_2 == i_1) && true))))
abbrev Zak4 (list : Sl) (block : Int) (k : ((Int × Bool) → K)) (n : Int) (i_1 : Int) (c : ((Int × Unit) → K)) (x41 : Bool) : K :=
  brK x41
  (Zak3 list block k i_1 c)
  (Zak0 k n true)
abbrev Zak5 (list : Sl) (block : Int) (k : ((Int × Bool) → K)) (n : Int) (i_1 : Int) (c : ((Int × Unit) → K)) : K :=
  Zak4 list block k n i_1 c (decide (i_1 < n))
abbrev Zak6 (list : Sl) (block : Int) (k : ((Int × Bool) → K)) (n : Int) (i : Int) : K :=
  lp (fun (z_ : (Int × Unit)) c_ => Zak5 list block k n z_.1 c_) (i, ())
abbrev Zak7 (k : ((Int × Bool) → K)) (x4_2 : Int) (x5_2 : Bool) : K :=
  k (x4_2, x5_2)
abbrev Zak8 (list : Sl) (block : Int) (k : ((Int × Bool) → K)) (n : Int) (x38 : Bool) : K :=
  brK x38
  (Zak7 k 0 false)
  (Zak6 list block k n 1)
abbrev Zak9 (list : Sl) (block : Int) (k : ((Int × Bool) → K)) (n : Int) : K :=
  brK (decide (n < 1))
  (Zak8 list block k n true)
  (Zak8 list block k n (decide (n > (IntKind.wrap .i64 (((list.n : Nat) : Int) - block)))))
abbrev Zak10 (list : Sl) (block : Int) (k : ((Int × Bool) → K)) : K :=
  ixS list.p list.n block 3 fun x26 =>
  ldI .i64 (x26.add 2) fun x28 =>
  Zak9 list block k x28
abbrev Zak11 (k : ((Int × Bool) → K)) (x4_3 : Int) (x5_3 : Bool) : K :=
  k (x4_3, x5_3)
abbrev Zak12 (list : Sl) (block : Int) (k : ((Int × Bool) → K)) (x23 : Bool) : K :=
  brK x23
  (Zak11 k 0 false)
  (Zak10 list block k)
abbrev Zak13 (list : Sl) (block : Int) (k : ((Int × Bool) → K)) : K :=
  brK (decide (block < 0))
  (Zak12 list block k true)
  (brK (decide (block ≥ ((list.n : Nat) : Int)))
  (Zak12 list block k true)
  (ixS list.p list.n block 3 fun x19 =>
  ldI .i64 (x19.add 0) fun x21 =>
  Zak12 list block k (x21 != 2)))
abbrev bhead_Whole (list : Sl) (block : Int) : M (Int × Bool) := fun k =>
  Zak13 list block k
theorem bhead_Whole_ok (list : Sl) (block : Int) (k : (Int × Bool) → K) (w : World) (hyp_ : bhead_Whole list block k w) : c_bhead_Whole list block k w :=
  cl_of (P := Tryz.prog) Tryz.func118 rfl (by kernel_rfl)
  (Qs [] [0, 1] (fun z_ => Zak13 list block k)
  Qz
  (fun _ => Qs [] [0, 1] (fun z_ => Zak10 list block k)
  (Qs [(23, .bool)] [0, 1] (fun z_ => Zak12 list block k z_.1)
  (Qp [2, 8])
  (fun ⟨x23, _⟩ => Qc (x23) (Zak11 k 0 false) (Zak10 list block k) (Qs [(4, .int .i64), (5, .bool)] [] (fun z_ => Zak11 k z_.1 z_.2.1)
  Qz
  (fun ⟨x4_3, x5_3, _⟩ => Qr)) Qk))
  (fun _ => Qs [(6, .int .i64)] [0, 1] (fun z_ => Zak9 list block k z_.1)
  Qz
  (fun ⟨n, _⟩ => Qs [] [0, 1, 6] (fun z_ => Zak6 list block k n 1)
  (Qs [(38, .bool)] [0, 1, 6] (fun z_ => Zak8 list block k n z_.1)
  (Qp [2])
  (fun ⟨x38, _⟩ => Qc (x38) (Zak7 k 0 false) (Zak6 list block k n 1) (Qs [(4, .int .i64), (5, .bool)] [] (fun z_ => Zak7 k z_.1 z_.2.1)
  Qz
  (fun ⟨x4_2, x5_2, _⟩ => Qr)) Qk))
  (fun _ => Qs [] [6] (fun z_ => Zak0 k n true)
  (Qs [(7, .int .i64)] [0, 1, 6] (fun z_ => Zak6 list block k n z_.1)
  Qz
  (fun ⟨i, _⟩ => Qb (Ql [(7, .int .i64)] [0, 1, 6] (fun (z_ : (Int × Unit)) c_ => Zak5 list block k n z_.1 c_) (i, ())
  (fun ⟨i_1, _⟩ c => Qs [] [0, 1, 6, 7] (fun z_ => Zak3 list block k i_1 c)
  (Qs [(41, .bool)] [0, 1, 6, 7] (fun z_ => Zak4 list block k n i_1 c z_.1)
  Qz
  (fun ⟨x41, _⟩ => Qc (x41) (Zak3 list block k i_1 c) (Zak0 k n true) Qk Qx))
  (fun _ => Qs [] [0, 1, 6, 7] (fun z_ => c ((IntKind.wrap .i64 (i_1 + 1)), ()))
  (Qb (Qs [(52, .bool)] [0, 1, 6, 7] (fun z_ => Zak2 k i_1 c z_.1)
  Qz
  (fun ⟨x52, _⟩ => Qc (x52) (Zak1 k 0 false) (c ((IntKind.wrap .i64 (i_1 + 1)), ())) (Qs [(4, .int .i64), (5, .bool)] [] (fun z_ => Zak1 k z_.1 z_.2.1)
  Qz
  (fun ⟨x4_1, x5_1, _⟩ => Qr)) Qk)))
  (fun _ => Qz))))))
  (fun _ => Qs [(4, .int .i64), (5, .bool)] [] (fun z_ => Zak0 k z_.1 z_.2.1)
  Qz
  (fun ⟨x4, x5, _⟩ => Qr))))))) hyp_
abbrev Zal0 (k : (Int → K)) (x4 : Int) : K :=
  k x4
abbrev Zal1 (k : (Int → K)) (x4_1 : Int) : K :=
  k x4_1
abbrev Zal2 (block : Int) (k : (Int → K)) (x12 : Bool) : K :=
  brK x12
  (Zal1 k (-1))
  (Zal0 k (IntKind.wrap .i64 (block * 512)))
abbrev Zal3 (block : Int) (k : (Int → K)) (g_1 : Addr) : K :=
  brK (decide (block < 0))
  (Zal2 block k true)
  (ldI .i64 (g_1.add 0) fun x10 =>
  Zal2 block k (decide (block ≥ x10)))
abbrev geom_Geometry_First (g : Int) (block : Int) : M Int := fun k =>
  alK (.cells #[.int .i64 g] 43) fun b =>
  Zal3 block k ⟨b, 0, none⟩
theorem geom_Geometry_First_ok (g : Int) (block : Int) (k : Int → K) (w : World) (hyp_ : geom_Geometry_First g block k w) : c_geom_Geometry_First g block k w :=
  cl_of (P := Tryz.prog) Tryz.func119 rfl (by kernel_rfl)
  (Qs [(2, .addr)] [1] (fun z_ => Zal3 block k z_.1)
  Qz
  (fun ⟨g_1, _⟩ => Qs [] [1] (fun z_ => Zal0 k (IntKind.wrap .i64 (block * 512)))
  (Qs [(12, .bool)] [1] (fun z_ => Zal2 block k z_.1)
  (Qp [2])
  (fun ⟨x12, _⟩ => Qc (x12) (Zal1 k (-1)) (Zal0 k (IntKind.wrap .i64 (block * 512))) (Qs [(4, .int .i64)] [] (fun z_ => Zal1 k z_.1)
  Qz
  (fun ⟨x4_1, _⟩ => Qr)) Qk))
  (fun _ => Qs [(4, .int .i64)] [] (fun z_ => Zal0 k z_.1)
  Qz
  (fun ⟨x4, _⟩ => Qr)))) hyp_
abbrev Zam0 (k : (Int → K)) (x2 : Int) : K :=
  k x2
abbrev Zam1 (k : (Int → K)) (g_1 : Addr) : K :=
  ldI .i64 (g_1.add 0) fun x4 =>
  Zam0 k (IntKind.wrap .i64 (x4 * 512))
abbrev geom_Geometry_Words (g : Int) : M Int := fun k =>
  alK (.cells #[.int .i64 g] 43) fun b =>
  Zam1 k ⟨b, 0, none⟩
theorem geom_Geometry_Words_ok (g : Int) (k : Int → K) (w : World) (hyp_ : geom_Geometry_Words g k w) : c_geom_Geometry_Words g k w :=
  cl_of (P := Tryz.prog) Tryz.func121 rfl (by kernel_rfl)
  (Qs [(1, .addr)] [] (fun z_ => Zam1 k z_.1)
  Qz
  (fun ⟨g_1, _⟩ => Qs [(2, .int .i64)] [] (fun z_ => Zam0 k z_.1)
  Qz
  (fun ⟨x2, _⟩ => Qr))) hyp_
abbrev Zan0 (k : ((Int × Bool) → K)) (x2 : Int) (x3 : Bool) : K :=
  k (x2, x3)
abbrev Zan1 (k : ((Int × Bool) → K)) (low_1 : Int) : K :=
  Zan0 k low_1 true
abbrev Zan2 (low_2 : Int) (high_1 : Int) (c : ((Int × Int × Unit) → K)) (mid : Int) (x24 : Bool) : K :=
  brK x24
  (c (low_2, mid, ()))
  (c ((IntKind.wrap .i64 (mid + 1)), high_1, ()))
abbrev Zan3 (words : Int) (low_2 : Int) (high_1 : Int) (c : ((Int × Int × Unit) → K)) (mid : Int) : K :=
  c_class_Words mid fun x22 =>
  Zan2 low_2 high_1 c mid (decide (x22 ≥ words))
abbrev Zan4 (words : Int) (low_2 : Int) (high_1 : Int) (c : ((Int × Int × Unit) → K)) : K :=
  Zan3 words low_2 high_1 c (IntKind.wrap .i64 (Int.tdiv (IntKind.wrap .i64 (low_2 + high_1)) 2))
abbrev Zan5 (words : Int) (k : ((Int × Bool) → K)) (low_2 : Int) (high_1 : Int) (c : ((Int × Int × Unit) → K)) (x16 : Bool) : K :=
  brK x16
  (Zan4 words low_2 high_1 c)
  (Zan1 k low_2)
abbrev Zan6 (words : Int) (k : ((Int × Bool) → K)) (low_2 : Int) (high_1 : Int) (c : ((Int × Int × Unit) → K)) : K :=
  Zan5 words k low_2 high_1 c (decide (low_2 < high_1))
abbrev Zan7 (words : Int) (k : ((Int × Bool) → K)) (low : Int) (high : Int) : K :=
  lp (fun (z_ : (Int × Int × Unit)) c_ => Zan6 words k z_.1 z_.2.1 c_) (low, high, ())
abbrev Zan8 (k : ((Int × Bool) → K)) (x2_1 : Int) (x3_1 : Bool) : K :=
  k (x2_1, x3_1)
abbrev Zan9 (words : Int) (k : ((Int × Bool) → K)) (x13 : Bool) : K :=
  brK x13
  (Zan8 k 0 false)
  (Zan7 words k 0 31)
abbrev Zan10 (words : Int) (k : ((Int × Bool) → K)) : K :=
  brK (decide (words < 1))
  (Zan9 words k true)
  (c_class_Most fun x11 =>
  Zan9 words k (decide (words > x11)))
abbrev class_Of (words : Int) : M (Int × Bool) := fun k =>
  Zan10 words k
theorem class_Of_ok (words : Int) (k : (Int × Bool) → K) (w : World) (hyp_ : class_Of words k w) : c_class_Of words k w :=
  cl_of (P := Tryz.prog) Tryz.func140 rfl (by kernel_rfl)
  (Qs [] [0] (fun z_ => Zan10 words k)
  Qz
  (fun _ => Qs [] [0] (fun z_ => Zan7 words k 0 31)
  (Qs [(13, .bool)] [0] (fun z_ => Zan9 words k z_.1)
  (Qp [2])
  (fun ⟨x13, _⟩ => Qc (x13) (Zan8 k 0 false) (Zan7 words k 0 31) (Qs [(2, .int .i64), (3, .bool)] [] (fun z_ => Zan8 k z_.1 z_.2.1)
  Qz
  (fun ⟨x2_1, x3_1, _⟩ => Qr)) Qk))
  (fun _ => Qs [(4, .int .i64), (5, .int .i64)] [0] (fun z_ => Zan7 words k z_.1 z_.2.1)
  Qz
  (fun ⟨low, high, _⟩ => Qs [(4, .int .i64)] [] (fun z_ => Zan1 k z_.1)
  (Qb (Ql [(4, .int .i64), (5, .int .i64)] [0] (fun (z_ : (Int × Int × Unit)) c_ => Zan6 words k z_.1 z_.2.1 c_) (low, high, ())
  (fun ⟨low_2, high_1, _⟩ c => Qs [] [0, 4, 5] (fun z_ => Zan4 words low_2 high_1 c)
  (Qs [(16, .bool)] [0, 4, 5] (fun z_ => Zan5 words k low_2 high_1 c z_.1)
  Qz
  (fun ⟨x16, _⟩ => Qc (x16) (Zan4 words low_2 high_1 c) (Zan1 k low_2) Qk Qx))
  (fun _ => Qb (Qs [(6, .int .i64)] [0, 4, 5] (fun z_ => Zan3 words low_2 high_1 c z_.1)
  Qz
  (fun ⟨mid, _⟩ => Qs [(24, .bool)] [0, 4, 5, 6] (fun z_ => Zan2 low_2 high_1 c mid z_.1)
  Qz
  (fun ⟨x24, _⟩ => Qc (x24) (c (low_2, mid, ())) (c ((IntKind.wrap .i64 (mid + 1)), high_1, ())) Qz Qz)))))))
  (fun ⟨low_1, _⟩ => Qs [(2, .int .i64), (3, .bool)] [] (fun z_ => Zan0 k z_.1 z_.2.1)
  Qz
  (fun ⟨x2, x3, _⟩ => Qr)))))) hyp_
abbrev Zao0 (k : ((Int × Int) → K)) (x4 : Int) (x5 : Int) : K :=
  k (x4, x5)
abbrev Zao1 (k : ((Int × Int) → K)) (x4_1 : Int) (x5_1 : Int) : K :=
  k (x4_1, x5_1)
abbrev Zao2 (ptrs : Int) (datas : Int) (k : ((Int × Int) → K)) (x19 : Bool) : K :=
  brK x19
  (Zao1 k 0 5)
  (Zao0 k (IntKind.wrap .i64 ((IntKind.wrap .i64 (1 + ptrs)) + datas)) 0)
abbrev Zao3 (ptrs : Int) (datas : Int) (k : ((Int × Int) → K)) : K :=
  brK (decide (ptrs < 0))
  (Zao2 ptrs datas k true)
  (brK (decide (ptrs > 63))
  (Zao2 ptrs datas k true)
  (brK (decide (datas < 0))
  (Zao2 ptrs datas k true)
  (Zao2 ptrs datas k (decide (datas > 16384)))))
abbrev class_Size (ptrs : Int) (datas : Int) : M (Int × Int) := fun k =>
  Zao3 ptrs datas k
theorem class_Size_ok (ptrs : Int) (datas : Int) (k : (Int × Int) → K) (w : World) (hyp_ : class_Size ptrs datas k w) : c_class_Size ptrs datas k w :=
  cl_of (P := Tryz.prog) Tryz.func147 rfl (by kernel_rfl)
  (Qs [] [0, 1] (fun z_ => Zao3 ptrs datas k)
  Qz
  (fun _ => Qs [] [0, 1] (fun z_ => Zao0 k (IntKind.wrap .i64 ((IntKind.wrap .i64 (1 + ptrs)) + datas)) 0)
  (Qs [(19, .bool)] [0, 1] (fun z_ => Zao2 ptrs datas k z_.1)
  (Qp [2, 6, 10])
  (fun ⟨x19, _⟩ => Qc (x19) (Zao1 k 0 5) (Zao0 k (IntKind.wrap .i64 ((IntKind.wrap .i64 (1 + ptrs)) + datas)) 0) (Qs [(4, .int .i64), (5, .int .i64)] [] (fun z_ => Zao1 k z_.1 z_.2.1)
  Qz
  (fun ⟨x4_1, x5_1, _⟩ => Qr)) Qk))
  (fun _ => Qs [(4, .int .i64), (5, .int .i64)] [] (fun z_ => Zao0 k z_.1 z_.2.1)
  Qz
  (fun ⟨x4, x5, _⟩ => Qr)))) hyp_
abbrev Zap0 (k : (Int → K)) (x4 : Int) : K :=
  k x4
abbrev Zap1 (n : Int) (size : Int) (k : (Int → K)) : K :=
  nz size <|
  Zap0 k (IntKind.wrap .i64 ((IntKind.wrap .i64 (Int.tdiv (IntKind.wrap .i64 (n - 1)) size)) + 1))
abbrev Zap2 (k : (Int → K)) (x4_1 : Int) : K :=
  k x4_1
abbrev Zap3 (n : Int) (size : Int) (k : (Int → K)) (x10 : Bool) : K :=
  brK x10
  (Zap2 k 0)
  (Zap1 n size k)
abbrev Zap4 (n : Int) (size : Int) (k : (Int → K)) : K :=
  brK (decide (n ≤ 0))
  (Zap3 n size k true)
  (Zap3 n size k (decide (size ≤ 0)))
abbrev bits_Up (n : Int) (size : Int) : M Int := fun k =>
  Zap4 n size k
theorem bits_Up_ok (n : Int) (size : Int) (k : Int → K) (w : World) (hyp_ : bits_Up n size k w) : c_bits_Up n size k w :=
  cl_of (P := Tryz.prog) Tryz.func148 rfl (by kernel_rfl)
  (Qs [] [0, 1] (fun z_ => Zap4 n size k)
  Qz
  (fun _ => Qs [] [0, 1] (fun z_ => Zap1 n size k)
  (Qs [(10, .bool)] [0, 1] (fun z_ => Zap3 n size k z_.1)
  (Qp [2])
  (fun ⟨x10, _⟩ => Qc (x10) (Zap2 k 0) (Zap1 n size k) (Qs [(4, .int .i64)] [] (fun z_ => Zap2 k z_.1)
  Qz
  (fun ⟨x4_1, _⟩ => Qr)) Qk))
  (fun _ => Qs [(4, .int .i64)] [] (fun z_ => Zap0 k z_.1)
  Qz
  (fun ⟨x4, _⟩ => Qr)))) hyp_
abbrev Zaq0 (k : (Int → K)) (x4 : Int) : K :=
  k x4
abbrev Zaq1 (at_1 : Int) (k : (Int → K)) (n_1 : Int) : K :=
  c_crc_Seal (IntKind.wrap .u32 n_1) at_1 fun x21 =>
  Zaq0 k x21
abbrev Zaq2 (at_1 : Int) (k : (Int → K)) (o_1 : Addr) (n : Int) : K :=
  ldI .i64 (o_1.add 1) fun x15 =>
  c_bits_Put n 14 15 (IntKind.wrap .u64 x15) fun x17 =>
  Zaq1 at_1 k x17
abbrev Zaq3 (at_1 : Int) (k : (Int → K)) (o_1 : Addr) : K :=
  ldI .i64 (o_1.add 0) fun x10 =>
  c_bits_Put 165 8 6 (IntKind.wrap .u64 x10) fun x12 =>
  Zaq2 at_1 k o_1 x12
abbrev Zaq4 (k : (Int → K)) (x4_1 : Int) : K :=
  k x4_1
abbrev Zaq5 (at_1 : Int) (k : (Int → K)) (o_1 : Addr) (x8 : Bool) : K :=
  brK x8
  (Zaq4 k 0)
  (Zaq3 at_1 k o_1)
abbrev Zaq6 (at_1 : Int) (k : (Int → K)) (o_1 : Addr) : K :=
  ldI .i64 (o_1.add 0) fun x6_0 =>
  ldI .i64 (o_1.add 1) fun x6_1 =>
  c_ohead_Object_Size (x6_0, x6_1) fun x7 =>
  Zaq5 at_1 k o_1 (x7 == 0)
abbrev ohead_Object_Encode (o : (Int × Int)) (at_1 : Int) : M Int := fun k =>
  alK (.cells #[.int .i64 o.1, .int .i64 o.2] 68) fun b =>
  Zaq6 at_1 k ⟨b, 0, none⟩
theorem ohead_Object_Encode_ok (o : (Int × Int)) (at_1 : Int) (k : Int → K) (w : World) (hyp_ : ohead_Object_Encode o at_1 k w) : c_ohead_Object_Encode o at_1 k w :=
  cl_of (P := Tryz.prog) Tryz.func154 rfl (by kernel_rfl)
  (Qs [(2, .addr)] [1] (fun z_ => Zaq6 at_1 k z_.1)
  Qz
  (fun ⟨o_1, _⟩ => Qs [] [1, 2] (fun z_ => Zaq3 at_1 k o_1)
  (Qs [(8, .bool)] [1, 2] (fun z_ => Zaq5 at_1 k o_1 z_.1)
  Qz
  (fun ⟨x8, _⟩ => Qc (x8) (Zaq4 k 0) (Zaq3 at_1 k o_1) (Qs [(4, .int .u64)] [] (fun z_ => Zaq4 k z_.1)
  Qz
  (fun ⟨x4_1, _⟩ => Qr)) Qk))
  (fun _ => Qs [(5, .int .u64)] [1, 2] (fun z_ => Zaq2 at_1 k o_1 z_.1)
  Qz
  (fun ⟨n, _⟩ => Qs [(5, .int .u64)] [1] (fun z_ => Zaq1 at_1 k z_.1)
  Qz
  (fun ⟨n_1, _⟩ => Qs [(4, .int .u64)] [] (fun z_ => Zaq0 k z_.1)
  Qz
  (fun ⟨x4, _⟩ => Qr)))))) hyp_
abbrev Zar0 (k : ((List Value) → K)) (x0 : Addr) : K :=
  ldBlob x0 32 fun x0_1 =>
  k x0_1
abbrev Zar1 (k : ((List Value) → K)) (x0 : Addr) : K :=
  semU Tryz.prog (Instr.storeAt 206 (.pointer (some x0)) (.agg #[.int .i64 2, .int .i64 3, .int .i64 4, .int .i64 5, .int .i64 6, .int .i64 7, .int .i64 8, .int .i64 10, .int .i64 12, .int .i64 14, .int .i64 16, .int .i64 18, .int .i64 20, .int .i64 24, .int .i64 28, .int .i64 32, .int .i64 36, .int .i64 40, .int .i64 46, .int .i64 51, .int .i64 56, .int .i64 64, .int .i64 73, .int .i64 85, .int .i64 92, .int .i64 102, .int .i64 113, .int .i64 128, .int .i64 146, .int .i64 170, .int .i64 204, .int .i64 256])) <|
  Zar0 k x0
abbrev class_sizes : M (List Value) := fun k =>
  alK (.cells #[.int .i64 0, .int .i64 0, .int .i64 0, .int .i64 0, .int .i64 0, .int .i64 0, .int .i64 0, .int .i64 0, .int .i64 0, .int .i64 0, .int .i64 0, .int .i64 0, .int .i64 0, .int .i64 0, .int .i64 0, .int .i64 0, .int .i64 0, .int .i64 0, .int .i64 0, .int .i64 0, .int .i64 0, .int .i64 0, .int .i64 0, .int .i64 0, .int .i64 0, .int .i64 0, .int .i64 0, .int .i64 0, .int .i64 0, .int .i64 0, .int .i64 0, .int .i64 0] 206) fun b =>
  Zar1 k ⟨b, 0, none⟩
theorem class_sizes_ok (k : (List Value) → K) (w : World) (hyp_ : class_sizes k w) : c_class_sizes k w :=
  cl_of (P := Tryz.prog) Tryz.func155 rfl (by kernel_rfl)
  (Qs [(0, .addr)] [] (fun z_ => Zar1 k z_.1)
  Qz
  (fun ⟨x0, _⟩ => Qs [] [0] (fun z_ => Zar0 k x0)
  Qz
  (fun _ => Qr))) hyp_
abbrev Zas0 (k : (((Int × (Int × Int)) × Int) → K)) (x4 : Addr) (x5 : Int) : K :=
  ldI .i64 (x4.add 0) fun x4_0 =>
  ldI .i64 (x4.add 1) fun x4_1 =>
  ldI .i64 (x4.add 2) fun x4_2 =>
  k ((x4_0, (x4_1, x4_2)), x5)
abbrev Zas1 (k : (((Int × (Int × Int)) × Int) → K)) (x4 : Addr) (h : Addr) : K :=
  ldI .i64 (h.add 0) fun x38_0 =>
  ldI .i64 (h.add 1) fun x38_1 =>
  ldI .i64 (h.add 2) fun x38_2 =>
  stK (x4.add 0) (.int .i64 x38_0) <|
  stK (x4.add 1) (.int .i64 x38_1) <|
  stK (x4.add 2) (.int .i64 x38_2) <|
  Zas0 k x4 0
abbrev Zas2 (k : (((Int × (Int × Int)) × Int) → K)) (x4 : Addr) (x5_1 : Int) : K :=
  ldI .i64 (x4.add 0) fun x4_0_1 =>
  ldI .i64 (x4.add 1) fun x4_1_1 =>
  ldI .i64 (x4.add 2) fun x4_2_1 =>
  k ((x4_0_1, (x4_1_1, x4_2_1)), x5_1)
abbrev Zas3 (k : (((Int × (Int × Int)) × Int) → K)) (x4 : Addr) : K :=
  stK (x4.add 0) (.int .i64 0) <|
  stK (x4.add 1) (.int .i64 0) <|
  stK (x4.add 2) (.int .i64 0) <|
  Zas2 k x4 26
abbrev Zas4 (k : (((Int × (Int × Int)) × Int) → K)) (x4 : Addr) (h : Addr) (x36 : Bool) : K :=
  brK x36
  (Zas3 k x4)
  (Zas1 k x4 h)
abbrev Zas5 (block : Int) (w_1 : Int) (k : (((Int × (Int × Int)) × Int) → K)) (x4 : Addr) (h : Addr) : K :=
  ldI .i64 (h.add 0) fun x33_0 =>
  ldI .i64 (h.add 1) fun x33_1 =>
  ldI .i64 (h.add 2) fun x33_2 =>
  c_bhead_Encode block (x33_0, (x33_1, x33_2)) fun x34 =>
  Zas4 k x4 h (x34 != w_1)
abbrev Zas6 (block : Int) (w_1 : Int) (k : (((Int × (Int × Int)) × Int) → K)) (x4 : Addr) (x : Int) : K :=
  c_bits_Get x 0 2 fun x23 =>
  c_bits_Get x 2 6 fun x26 =>
  c_bits_Get x 8 16 fun x29 =>
  alK (.cells #[.int .i64 0, .int .i64 0, .int .i64 0] 143) fun b =>
  stK (Addr.add ⟨b, 0, none⟩ 0) (.int .i64 (IntKind.wrap .i64 x23)) <|
  stK (Addr.add ⟨b, 0, none⟩ 1) (.int .i64 (IntKind.wrap .i64 x26)) <|
  stK (Addr.add ⟨b, 0, none⟩ 2) (.int .i64 (IntKind.wrap .i64 x29)) <|
  Zas5 block w_1 k x4 ⟨b, 0, none⟩
abbrev Zas7 (k : (((Int × (Int × Int)) × Int) → K)) (x4 : Addr) (x5_2 : Int) : K :=
  ldI .i64 (x4.add 0) fun x4_0_2 =>
  ldI .i64 (x4.add 1) fun x4_1_2 =>
  ldI .i64 (x4.add 2) fun x4_2_2 =>
  k ((x4_0_2, (x4_1_2, x4_2_2)), x5_2)
abbrev Zas8 (k : (((Int × (Int × Int)) × Int) → K)) (x4 : Addr) : K :=
  stK (x4.add 0) (.int .i64 0) <|
  stK (x4.add 1) (.int .i64 0) <|
  stK (x4.add 2) (.int .i64 0) <|
  Zas7 k x4 25
abbrev Zas9 (block : Int) (w_1 : Int) (k : (((Int × (Int × Int)) × Int) → K)) (x4 : Addr) (n : Int) (x18 : Bool) : K :=
  brK x18
  (Zas8 k x4)
  (Zas6 block w_1 k x4 (IntKind.wrap .u64 n))
abbrev Zas10 (block : Int) (w_1 : Int) (k : (((Int × (Int × Int)) × Int) → K)) (x4 : Addr) (n : Int) (ok : Bool) : K :=
  Zas9 block w_1 k x4 n (!ok)
abbrev Zas11 (block : Int) (w_1 : Int) (k : (((Int × (Int × Int)) × Int) → K)) (x4 : Addr) : K :=
  c_crc_Open w_1 (IntKind.wrap .i64 (256 + block)) fun x14 =>
  Zas10 block w_1 k x4 x14.1 x14.2
abbrev bhead_Decode (block : Int) (w_1 : Int) : M ((Int × (Int × Int)) × Int) := fun k =>
  alK (.cells #[.int .i64 0, .int .i64 0, .int .i64 0] 143) fun b_1 =>
  Zas11 block w_1 k ⟨b_1, 0, none⟩
theorem bhead_Decode_ok (block : Int) (w_1 : Int) (k : ((Int × (Int × Int)) × Int) → K) (w : World) (hyp_ : bhead_Decode block w_1 k w) : c_bhead_Decode block w_1 k w :=
  cl_of (P := Tryz.prog) Tryz.func164 rfl (by kernel_rfl)
  (Qs [(4, .addr)] [0, 1] (fun z_ => Zas11 block w_1 k z_.1)
  Qz
  (fun ⟨x4, _⟩ => Qs [(6, .int .u32), (7, .bool)] [0, 1, 4] (fun z_ => Zas10 block w_1 k x4 z_.1 z_.2.1)
  Qz
  (fun ⟨n, ok, _⟩ => Qs [] [0, 1, 4, 6] (fun z_ => Zas6 block w_1 k x4 (IntKind.wrap .u64 n))
  (Qs [(18, .bool)] [0, 1, 4, 6] (fun z_ => Zas9 block w_1 k x4 n z_.1)
  Qz
  (fun ⟨x18, _⟩ => Qc (x18) (Zas8 k x4) (Zas6 block w_1 k x4 (IntKind.wrap .u64 n)) (Qs [(5, .int .i64)] [4] (fun z_ => Zas7 k x4 z_.1)
  Qz
  (fun ⟨x5_2, _⟩ => Qr)) Qk))
  (fun _ => Qs [(8, .int .u64)] [0, 1, 4] (fun z_ => Zas6 block w_1 k x4 z_.1)
  Qz
  (fun ⟨x, _⟩ => Qs [(9, .addr)] [0, 1, 4] (fun z_ => Zas5 block w_1 k x4 z_.1)
  Qz
  (fun ⟨h, _⟩ => Qs [] [4, 9] (fun z_ => Zas1 k x4 h)
  (Qs [(36, .bool)] [4, 9] (fun z_ => Zas4 k x4 h z_.1)
  Qz
  (fun ⟨x36, _⟩ => Qc (x36) (Zas3 k x4) (Zas1 k x4 h) (Qs [(5, .int .i64)] [4] (fun z_ => Zas2 k x4 z_.1)
  Qz
  (fun ⟨x5_1, _⟩ => Qr)) Qk))
  (fun _ => Qs [(5, .int .i64)] [4] (fun z_ => Zas0 k x4 z_.1)
  Qz
  (fun ⟨x5, _⟩ => Qr)))))))) hyp_
abbrev Zat0 (k : (Int → K)) (x4 : Int) : K :=
  k x4
abbrev Zat1 (k : (Int → K)) (x4_1 : Int) : K :=
  k x4_1
abbrev Zat2 (block : Int) (k : (Int → K)) (x12 : Bool) : K :=
  brK x12
  (Zat1 k (-1))
  (Zat0 k (IntKind.wrap .i64 (256 + block)))
abbrev Zat3 (block : Int) (k : (Int → K)) (g_1 : Addr) : K :=
  brK (decide (block < 1))
  (Zat2 block k true)
  (ldI .i64 (g_1.add 0) fun x10 =>
  Zat2 block k (decide (block ≥ x10)))
abbrev geom_Geometry_Header (g : Int) (block : Int) : M Int := fun k =>
  alK (.cells #[.int .i64 g] 43) fun b =>
  Zat3 block k ⟨b, 0, none⟩
theorem geom_Geometry_Header_ok (g : Int) (block : Int) (k : Int → K) (w : World) (hyp_ : geom_Geometry_Header g block k w) : c_geom_Geometry_Header g block k w :=
  cl_of (P := Tryz.prog) Tryz.func165 rfl (by kernel_rfl)
  (Qs [(2, .addr)] [1] (fun z_ => Zat3 block k z_.1)
  Qz
  (fun ⟨g_1, _⟩ => Qs [] [1] (fun z_ => Zat0 k (IntKind.wrap .i64 (256 + block)))
  (Qs [(12, .bool)] [1] (fun z_ => Zat2 block k z_.1)
  (Qp [2])
  (fun ⟨x12, _⟩ => Qc (x12) (Zat1 k (-1)) (Zat0 k (IntKind.wrap .i64 (256 + block))) (Qs [(4, .int .i64)] [] (fun z_ => Zat1 k z_.1)
  Qz
  (fun ⟨x4_1, _⟩ => Qr)) Qk))
  (fun _ => Qs [(4, .int .i64)] [] (fun z_ => Zat0 k z_.1)
  Qz
  (fun ⟨x4, _⟩ => Qr)))) hyp_
abbrev Zau0 (k : ((Int × Bool) → K)) (x4 : Int) (x5 : Bool) : K :=
  k (x4, x5)
abbrev Zau1 (k : ((Int × Bool) → K)) (x4_1 : Int) (x5_1 : Bool) : K :=
  k (x4_1, x5_1)
abbrev Zau2 (k : ((Int × Bool) → K)) (n : Int) (x13 : Bool) : K :=
  brK x13
  (Zau1 k 0 false)
  (Zau0 k n true)
abbrev Zau3 (w_1 : Int) (place : Int) (k : ((Int × Bool) → K)) (n : Int) : K :=
  c_crc_Seal n place fun x11 =>
  Zau2 k n (x11 != w_1)
abbrev crc_Open (w_1 : Int) (place : Int) : M (Int × Bool) := fun k =>
  Zau3 w_1 place k (IntKind.wrap .u32 w_1)
theorem crc_Open_ok (w_1 : Int) (place : Int) (k : (Int × Bool) → K) (w : World) (hyp_ : crc_Open w_1 place k w) : c_crc_Open w_1 place k w :=
  cl_of (P := Tryz.prog) Tryz.func172 rfl (by kernel_rfl)
  (Qs [] [0, 1] (fun z_ => Zau3 w_1 place k (IntKind.wrap .u32 w_1))
  Qz
  (fun _ => Qs [(6, .int .u32)] [0, 1] (fun z_ => Zau3 w_1 place k z_.1)
  Qz
  (fun ⟨n, _⟩ => Qs [] [6] (fun z_ => Zau0 k n true)
  (Qs [(13, .bool)] [6] (fun z_ => Zau2 k n z_.1)
  Qz
  (fun ⟨x13, _⟩ => Qc (x13) (Zau1 k 0 false) (Zau0 k n true) (Qs [(4, .int .u32), (5, .bool)] [] (fun z_ => Zau1 k z_.1 z_.2.1)
  Qz
  (fun ⟨x4_1, x5_1, _⟩ => Qr)) Qk))
  (fun _ => Qs [(4, .int .u32), (5, .bool)] [] (fun z_ => Zau0 k z_.1 z_.2.1)
  Qz
  (fun ⟨x4, x5, _⟩ => Qr))))) hyp_
abbrev Zav0 (k : (Int → K)) (x6 : Int) : K :=
  k x6
abbrev Zav1 (w_1 : Int) (at_1 : Int) (width : Int) (k : (Int → K)) : K :=
  nneg (IntKind.wrap .u64 at_1) <|
  c_bits_mask width fun x18 =>
  Zav0 k (bitI .and .u64 (shrI .u64 w_1 (IntKind.wrap .u64 at_1)) x18)
abbrev Zav2 (k : (Int → K)) (x6_1 : Int) : K :=
  k x6_1
abbrev Zav3 (w_1 : Int) (at_1 : Int) (width : Int) (k : (Int → K)) (x12 : Bool) : K :=
  brK x12
  (Zav2 k 0)
  (Zav1 w_1 at_1 width k)
abbrev Zav4 (w_1 : Int) (at_1 : Int) (width : Int) (k : (Int → K)) : K :=
  brK (decide (at_1 < 0))
  (Zav3 w_1 at_1 width k true)
  (Zav3 w_1 at_1 width k (decide (at_1 ≥ 64)))
abbrev bits_Get (w_1 : Int) (at_1 : Int) (width : Int) : M Int := fun k =>
  Zav4 w_1 at_1 width k
theorem bits_Get_ok (w_1 : Int) (at_1 : Int) (width : Int) (k : Int → K) (w : World) (hyp_ : bits_Get w_1 at_1 width k w) : c_bits_Get w_1 at_1 width k w :=
  cl_of (P := Tryz.prog) Tryz.func173 rfl (by kernel_rfl)
  (Qs [] [0, 1, 2] (fun z_ => Zav4 w_1 at_1 width k)
  Qz
  (fun _ => Qs [] [0, 1, 2] (fun z_ => Zav1 w_1 at_1 width k)
  (Qs [(12, .bool)] [0, 1, 2] (fun z_ => Zav3 w_1 at_1 width k z_.1)
  (Qp [2])
  (fun ⟨x12, _⟩ => Qc (x12) (Zav2 k 0) (Zav1 w_1 at_1 width k) (Qs [(6, .int .u64)] [] (fun z_ => Zav2 k z_.1)
  Qz
  (fun ⟨x6_1, _⟩ => Qr)) Qk))
  (fun _ => Qs [(6, .int .u64)] [] (fun z_ => Zav0 k z_.1)
  Qz
  (fun ⟨x6, _⟩ => Qr)))) hyp_
abbrev Zaw0 (k : (Bool → K)) (x4 : Bool) : K :=
  k x4
abbrev Zaw1 (at_1 : Int) (k : (Bool → K)) (g_1 : Addr) : K :=
  ldI .i64 (g_1.add 0) fun x5_0 =>
  c_geom_Geometry_BlockOf x5_0 at_1 fun x7 =>
  Zaw0 k (decide (x7 ≥ 1))
abbrev geom_Geometry_Data (g : Int) (at_1 : Int) : M Bool := fun k =>
  alK (.cells #[.int .i64 g] 43) fun b =>
  Zaw1 at_1 k ⟨b, 0, none⟩
theorem geom_Geometry_Data_ok (g : Int) (at_1 : Int) (k : Bool → K) (w : World) (hyp_ : geom_Geometry_Data g at_1 k w) : c_geom_Geometry_Data g at_1 k w :=
  cl_of (P := Tryz.prog) Tryz.func174 rfl (by kernel_rfl)
  (Qs [(2, .addr)] [1] (fun z_ => Zaw1 at_1 k z_.1)
  Qz
  (fun ⟨g_1, _⟩ => Qs [(4, .bool)] [] (fun z_ => Zaw0 k z_.1)
  Qz
  (fun ⟨x4, _⟩ => Qr))) hyp_
abbrev Zax0 (k : (Int → K)) (x6 : Int) : K :=
  k x6
abbrev Zax1 (k_1 : Int) (k : (Int → K)) (g_1 : Addr) (c_1 : Addr) : K :=
  tick fun _ =>
  ldI .i64 (g_1.add 0) fun x34_0 =>
  ldI .i64 (c_1.add 0) fun x36 =>
  ldI .i64 (c_1.add 1) fun x39 =>
  c_geom_Geometry_First x34_0 x36 fun x37 =>
  chk [.cell (c_1.add 1) (.int .i64 x39)] fun _ =>
  c_class_Words k_1 fun x41 =>
  chk [.cell (c_1.add 1) (.int .i64 x39)] fun _ =>
  Zax0 k (IntKind.wrap .i64 (x37 + (IntKind.wrap .i64 (x39 * x41))))
abbrev Zax2 (k : (Int → K)) (x6_1 : Int) : K :=
  k x6_1
abbrev Zax3 (k_1 : Int) (k : (Int → K)) (g_1 : Addr) (c_1 : Addr) (x33 : Bool) : K :=
  brK x33
  (Zax2 k (-1))
  (Zax1 k_1 k g_1 c_1)
abbrev Zax4 (k_1 : Int) (k : (Int → K)) (g_1 : Addr) (c_1 : Addr) : K :=
  tick fun _ =>
  c_class_Right k_1 fun x8 =>
  brK (!x8)
  (Zax3 k_1 k g_1 c_1 true)
  (ldI .i64 (c_1.add 0) fun x12 =>
  brK (decide (x12 < 1))
  (Zax3 k_1 k g_1 c_1 true)
  (ldI .i64 (c_1.add 0) fun x17 =>
  ldI .i64 (g_1.add 0) fun x19 =>
  brK (decide (x17 ≥ x19))
  (Zax3 k_1 k g_1 c_1 true)
  (ldI .i64 (c_1.add 1) fun x24 =>
  brK (decide (x24 < 0))
  (Zax3 k_1 k g_1 c_1 true)
  (ldI .i64 (c_1.add 1) fun x29 =>
  c_class_Cells k_1 fun x31 =>
  chk [.cell (c_1.add 1) (.int .i64 x29)] fun _ =>
  Zax3 k_1 k g_1 c_1 (decide (x29 ≥ x31))))))
abbrev cells_Address (g : Int) (k_1 : Int) (c : (Int × Int)) : M Int := fun k =>
  alK (.cells #[.int .i64 g] 43) fun b =>
  alK (.cells #[.int .i64 c.1, .int .i64 c.2] 168) fun b_1 =>
  Zax4 k_1 k ⟨b, 0, none⟩ ⟨b_1, 0, none⟩
theorem cells_Address_ok (g : Int) (k_1 : Int) (c : (Int × Int)) (k : Int → K) (w : World) (hyp_ : cells_Address g k_1 c k w) : c_cells_Address g k_1 c k w :=
  cl_of (P := Tryz.prog) Tryz.func175 rfl (by kernel_rfl)
  (Qs [(3, .addr), (5, .addr)] [1] (fun z_ => Zax4 k_1 k z_.1 z_.2.1)
  Qz
  (fun ⟨g_1, c_1, _⟩ => Qs [] [1, 3, 5] (fun z_ => Zax1 k_1 k g_1 c_1)
  (Qs [(33, .bool)] [1, 3, 5] (fun z_ => Zax3 k_1 k g_1 c_1 z_.1)
  (RefK.draw [3, 8, 15, 20] [0, 1, 3, 7, 15, 31, 63, 127, 255, 511, 1023, 511, 2559, 8191, 16383, 32767, 65535, 131071, 262143, 524287, 1048575, 2097151, 4194303, 2097151, 10485759, 33554431, 67108863] [0, 1, 2, 3, 4, 5, 6, 7, 8, 9, 10, 11, 12, 13, 14, 15, 16, 17, 18, 19, 20, 21, 22, 23, 24, 25, 26] [0, 1, 2, 3, 4, 5, 6, 7, 8, 9, 10, 11, 12, 13, 14, 15, 16, 17, 18, 19, 20, 21, 22, 23, 24, 25, 26] (by kernel_rfl) (by kernel_rfl))
  (fun ⟨x33, _⟩ => Qc (x33) (Zax2 k (-1)) (Zax1 k_1 k g_1 c_1) (Qs [(6, .int .i64)] [] (fun z_ => Zax2 k z_.1)
  Qz
  (fun ⟨x6_1, _⟩ => Qr)) Qk))
  (fun _ => Qs [(6, .int .i64)] [] (fun z_ => Zax0 k z_.1)
  (RefK.draw [] [0, 0, 2, 7, 0, 16, 0, 79, 255, 511, 1023] [0, 1, 2, 4, 5, 6, 3, 7, 8, 9, 10] [0, 1, 2, 3, 4, 5, 6, 7, 8, 9, 10] (by kernel_rfl) (by kernel_rfl))
  (fun ⟨x6, _⟩ => Qr)))) hyp_
abbrev Zay0 (k : (Int → K)) (x4 : Int) : K :=
  k x4
abbrev Zay1 (block : Int) (k : (Int → K)) (n_2 : Int) : K :=
  c_crc_Seal (IntKind.wrap .u32 n_2) (IntKind.wrap .i64 (256 + block)) fun x27 =>
  Zay0 k x27
abbrev Zay2 (block : Int) (k : (Int → K)) (h_1 : Addr) (n_1 : Int) : K :=
  ldI .i64 (h_1.add 2) fun x20 =>
  c_bits_Put n_1 8 16 (IntKind.wrap .u64 x20) fun x22 =>
  Zay1 block k x22
abbrev Zay3 (block : Int) (k : (Int → K)) (h_1 : Addr) (n : Int) : K :=
  ldI .i64 (h_1.add 1) fun x15 =>
  c_bits_Put n 2 6 (IntKind.wrap .u64 x15) fun x17 =>
  Zay2 block k h_1 x17
abbrev Zay4 (block : Int) (k : (Int → K)) (h_1 : Addr) : K :=
  ldI .i64 (h_1.add 0) fun x10 =>
  c_bits_Put 0 0 2 (IntKind.wrap .u64 x10) fun x12 =>
  Zay3 block k h_1 x12
abbrev Zay5 (k : (Int → K)) (x4_1 : Int) : K :=
  k x4_1
abbrev Zay6 (block : Int) (k : (Int → K)) (h_1 : Addr) (x8 : Bool) : K :=
  brK x8
  (Zay5 k 0)
  (Zay4 block k h_1)
abbrev Zay7 (block : Int) (k : (Int → K)) (h_1 : Addr) : K :=
  ldI .i64 (h_1.add 0) fun x6_0 =>
  ldI .i64 (h_1.add 1) fun x6_1 =>
  ldI .i64 (h_1.add 2) fun x6_2 =>
  c_bhead_Header_Right (x6_0, (x6_1, x6_2)) fun x7 =>
  Zay6 block k h_1 (!x7)
abbrev bhead_Encode (block : Int) (h : (Int × (Int × Int))) : M Int := fun k =>
  alK (.cells #[.int .i64 h.1, .int .i64 h.2.1, .int .i64 h.2.2] 143) fun b =>
  Zay7 block k ⟨b, 0, none⟩
theorem bhead_Encode_ok (block : Int) (h : (Int × (Int × Int))) (k : Int → K) (w : World) (hyp_ : bhead_Encode block h k w) : c_bhead_Encode block h k w :=
  cl_of (P := Tryz.prog) Tryz.func177 rfl (by kernel_rfl)
  (Qs [(3, .addr)] [0] (fun z_ => Zay7 block k z_.1)
  Qz
  (fun ⟨h_1, _⟩ => Qs [] [0, 3] (fun z_ => Zay4 block k h_1)
  (Qs [(8, .bool)] [0, 3] (fun z_ => Zay6 block k h_1 z_.1)
  Qz
  (fun ⟨x8, _⟩ => Qc (x8) (Zay5 k 0) (Zay4 block k h_1) (Qs [(4, .int .u64)] [] (fun z_ => Zay5 k z_.1)
  Qz
  (fun ⟨x4_1, _⟩ => Qr)) Qk))
  (fun _ => Qs [(5, .int .u64)] [0, 3] (fun z_ => Zay3 block k h_1 z_.1)
  Qz
  (fun ⟨n, _⟩ => Qs [(5, .int .u64)] [0, 3] (fun z_ => Zay2 block k h_1 z_.1)
  Qz
  (fun ⟨n_1, _⟩ => Qs [(5, .int .u64)] [0] (fun z_ => Zay1 block k z_.1)
  Qz
  (fun ⟨n_2, _⟩ => Qs [(4, .int .u64)] [] (fun z_ => Zay0 k z_.1)
  Qz
  (fun ⟨x4, _⟩ => Qr))))))) hyp_
abbrev Zaz0 (k : (Int → K)) (x0 : Int) : K :=
  k x0
abbrev Zaz1 (k : (Int → K)) : K :=
  c_class_Words 31 fun x1 =>
  Zaz0 k x1
abbrev class_Most : M Int := fun k =>
  Zaz1 k
theorem class_Most_ok (k : Int → K) (w : World) (hyp_ : class_Most k w) : c_class_Most k w :=
  cl_of (P := Tryz.prog) Tryz.func194 rfl (by kernel_rfl)
  (Qs [] [] (fun z_ => Zaz1 k)
  Qz
  (fun _ => Qs [(0, .int .i64)] [] (fun z_ => Zaz0 k z_.1)
  Qz
  (fun ⟨x0, _⟩ => Qr))) hyp_
abbrev Zba0 (k : (Bool → K)) (x2 : Bool) : K :=
  k x2
abbrev Zba1 (k : (Bool → K)) (x2_1 : Bool) : K :=
  k x2_1
abbrev Zba2 (k : (Bool → K)) (x2_2 : Bool) : K :=
  k x2_2
abbrev Zba3 (k : (Bool → K)) (x2_3 : Bool) : K :=
  k x2_3
abbrev Zba4 (k : (Bool → K)) (h_1 : Addr) : K :=
  ldI .i64 (h_1.add 1) fun x24 =>
  brK (x24 == 0)
  (ldI .i64 (h_1.add 2) fun x28 =>
  brK (decide (x28 ≥ 1))
  (ldI .i64 (h_1.add 2) fun x33 =>
  Zba3 k (decide (x33 < 256)))
  (Zba3 k false))
  (Zba3 k false)
abbrev Zba5 (k : (Bool → K)) (h_1 : Addr) (x20 : Bool) : K :=
  brK x20
  (Zba4 k h_1)
  (Zba0 k false)
abbrev Zba6 (k : (Bool → K)) (h_1 : Addr) (x4 : Int) (x20_1 : Bool) : K :=
  brK x20_1
  (Zba5 k h_1 x20_1)
  (Zba5 k h_1 (x4 == 3))
abbrev Zba7 (k : (Bool → K)) (h_1 : Addr) : K :=
  ldI .i64 (h_1.add 1) fun x13 =>
  c_class_Right x13 fun x14 =>
  brK x14
  (ldI .i64 (h_1.add 2) fun x17 =>
  Zba2 k (x17 == 0))
  (Zba2 k false)
abbrev Zba8 (k : (Bool → K)) (h_1 : Addr) (x4 : Int) (x10 : Bool) : K :=
  brK x10
  (Zba7 k h_1)
  (Zba6 k h_1 x4 (x4 == 2))
abbrev Zba9 (k : (Bool → K)) (h_1 : Addr) : K :=
  ldI .i64 (h_1.add 0) fun x7_0 =>
  ldI .i64 (h_1.add 1) fun x7_1 =>
  ldI .i64 (h_1.add 2) fun x7_2 =>
  Zba1 k ((x7_0 == 0) && ((x7_1 == 0) && ((x7_2 == 0) && true)))
abbrev Zba10 (k : (Bool → K)) (h_1 : Addr) (x4 : Int) (x5 : Bool) : K :=
  brK x5
  (Zba9 k h_1)
  (Zba8 k h_1 x4 (x4 == 1))
abbrev Zba11 (k : (Bool → K)) (h_1 : Addr) (x4 : Int) : K :=
  Zba10 k h_1 x4 (x4 == 0)
abbrev Zba12 (k : (Bool → K)) (h_1 : Addr) : K :=
  ldI .i64 (h_1.add 0) fun x4_1 =>
  Zba11 k h_1 x4_1
abbrev bhead_Header_Right (h : (Int × (Int × Int))) : M Bool := fun k =>
  alK (.cells #[.int .i64 h.1, .int .i64 h.2.1, .int .i64 h.2.2] 143) fun b =>
  Zba12 k ⟨b, 0, none⟩
theorem bhead_Header_Right_ok (h : (Int × (Int × Int))) (k : Bool → K) (w : World) (hyp_ : bhead_Header_Right h k w) : c_bhead_Header_Right h k w :=
  cl_of (P := Tryz.prog) Tryz.func195 rfl (by kernel_rfl)
  (Qs [(1, .addr)] [] (fun z_ => Zba12 k z_.1)
  Qz
  (fun ⟨h_1, _⟩ => Qs [] [] (fun z_ => Zba0 k false)
  (Qs [(4, .int .i64)] [1] (fun z_ => Zba11 k h_1 z_.1)
  Qz
  (fun ⟨x4, _⟩ => Qb (Qs [(5, .bool)] [1, 4] (fun z_ => Zba10 k h_1 x4 z_.1)
  Qz
  (fun ⟨x5, _⟩ => Qc (x5) (Zba9 k h_1) (Zba8 k h_1 x4 (x4 == 1)) (Qs [(2, .bool)] [] (fun z_ => Zba1 k z_.1)
  Qz
  (fun ⟨x2_1, _⟩ => Qr)) (Qs [(10, .bool)] [1, 4] (fun z_ => Zba8 k h_1 x4 z_.1)
  Qz
  (fun ⟨x10, _⟩ => Qc (x10) (Zba7 k h_1) (Zba6 k h_1 x4 (x4 == 2)) (Qs [(2, .bool)] [] (fun z_ => Zba2 k z_.1)
  (Qp [3])
  (fun ⟨x2_2, _⟩ => Qr)) (Qs [(20, .bool)] [1] (fun z_ => Zba5 k h_1 z_.1)
  (Qs [(20, .bool)] [1, 4] (fun z_ => Zba6 k h_1 x4 z_.1)
  Qz
  (fun ⟨x20_1, _⟩ => Qc (x20_1) (Zba5 k h_1 x20_1) (Zba5 k h_1 (x4 == 3)) Qk Qz))
  (fun ⟨x20, _⟩ => Qc (x20) (Zba4 k h_1) (Zba0 k false) (Qs [(2, .bool)] [] (fun z_ => Zba3 k z_.1)
  (Qp [3, 8])
  (fun ⟨x2_3, _⟩ => Qr)) Qk))))))))
  (fun _ => Qs [(2, .bool)] [] (fun z_ => Zba0 k z_.1)
  Qz
  (fun ⟨x2, _⟩ => Qr)))) hyp_
abbrev Zbb0 (k : (Sl → K)) (x2 : Sl) : K :=
  k x2
abbrev Zbb1 (k : (Sl → K)) (out_1 : Sl) : K :=
  Zbb0 k out_1
abbrev Zbb2 (x6_1 : Int) (c : ((Sl × Int × Unit) → K)) (out_3 : Sl) : K :=
  c (out_3, (IntKind.wrap .i64 (x6_1 + 1)), ())
abbrev Zbb3 (many : Int) (out_2 : Sl) (x6_1 : Int) (c : ((Sl × Int × Unit) → K)) : K :=
  alK (.cells #[.int .i64 2, .int .i64 0, .int .i64 many] 143) fun b =>
  semT Tryz.prog (Builtin.append_ #[80, 80] 80 #[out_2.v, .slice (some ⟨b, 0, none⟩) 1 1]) (.one (.sc (.slice))) fun x15 =>
  Zbb2 x6_1 c x15
abbrev Zbb4 (out_2 : Sl) (x6_1 : Int) (c : ((Sl × Int × Unit) → K)) (i : Int) : K :=
  alK (.cells #[.int .i64 3, .int .i64 0, .int .i64 i] 143) fun b_1 =>
  semT Tryz.prog (Builtin.append_ #[80, 80] 80 #[out_2.v, .slice (some ⟨b_1, 0, none⟩) 1 1]) (.one (.sc (.slice))) fun x20 =>
  Zbb2 x6_1 c x20
abbrev Zbb5 (many : Int) (out_2 : Sl) (x6_1 : Int) (c : ((Sl × Int × Unit) → K)) (i : Int) (x10 : Bool) : K :=
  brK x10
  (Zbb3 many out_2 x6_1 c)
  (Zbb4 out_2 x6_1 c i)
abbrev Zbb6 (many : Int) (out_2 : Sl) (x6_1 : Int) (c : ((Sl × Int × Unit) → K)) (i : Int) : K :=
  Zbb5 many out_2 x6_1 c i (i == 0)
abbrev Zbb7 (many : Int) (k : (Sl → K)) (out_2 : Sl) (x6_1 : Int) (c : ((Sl × Int × Unit) → K)) (x7 : Bool) : K :=
  brK x7
  (Zbb6 many out_2 x6_1 c x6_1)
  (Zbb1 k out_2)
abbrev Zbb8 (many : Int) (k : (Sl → K)) (x5 : Int) (out_2 : Sl) (x6_1 : Int) (c : ((Sl × Int × Unit) → K)) : K :=
  Zbb7 many k out_2 x6_1 c (decide (x6_1 < x5))
abbrev Zbb9 (many : Int) (k : (Sl → K)) (out : Sl) (x5 : Int) (x6 : Int) : K :=
  lp (fun (z_ : (Sl × Int × Unit)) c_ => Zbb8 many k x5 z_.1 z_.2.1 c_) (out, x6, ())
abbrev Zbb10 (many : Int) (k : (Sl → K)) (out : Sl) : K :=
  Zbb9 many k out many 0
abbrev bhead_Run (many : Int) : M Sl := fun k =>
  Zbb10 many k ⟨none, 0, 0⟩
theorem bhead_Run_ok (many : Int) (k : Sl → K) (w : World) (hyp_ : bhead_Run many k w) : c_bhead_Run many k w :=
  cl_of (P := Tryz.prog) Tryz.func201 rfl (by kernel_rfl)
  (Qs [] [0] (fun z_ => Zbb10 many k ⟨none, 0, 0⟩)
  Qz
  (fun _ => Qs [(3, .slice)] [0] (fun z_ => Zbb10 many k z_.1)
  Qz
  (fun ⟨out, _⟩ => Qs [(3, .slice)] [] (fun z_ => Zbb1 k z_.1)
  (Qs [(5, .int .i64), (6, .int .i64)] [0, 3] (fun z_ => Zbb9 many k out z_.1 z_.2.1)
  Qz
  (fun ⟨x5, x6, _⟩ => Qb (Ql [(3, .slice), (6, .int .i64)] [0, 5] (fun (z_ : (Sl × Int × Unit)) c_ => Zbb8 many k x5 z_.1 z_.2.1 c_) (out, x6, ())
  (fun ⟨out_2, x6_1, _⟩ c => Qs [(7, .bool)] [0, 3, 5, 6] (fun z_ => Zbb7 many k out_2 x6_1 c z_.1)
  Qz
  (fun ⟨x7, _⟩ => Qs [] [0, 3, 5, 6] (fun z_ => Zbb6 many out_2 x6_1 c x6_1)
  (Qc (x7) (Zbb6 many out_2 x6_1 c x6_1) (Zbb1 k out_2) Qk Qx)
  (fun _ => Qs [(3, .slice)] [0, 5, 6] (fun z_ => Zbb2 x6_1 c z_.1)
  (Qb (Qs [(4, .int .i64)] [0, 3, 5, 6] (fun z_ => Zbb6 many out_2 x6_1 c z_.1)
  Qz
  (fun ⟨i, _⟩ => Qs [(10, .bool)] [0, 3, 4, 5, 6] (fun z_ => Zbb5 many out_2 x6_1 c i z_.1)
  Qz
  (fun ⟨x10, _⟩ => Qc (x10) (Zbb3 many out_2 x6_1 c) (Zbb4 out_2 x6_1 c i) Qz Qz))))
  (fun ⟨out_3, _⟩ => Qz)))))))
  (fun ⟨out_1, _⟩ => Qs [(2, .slice)] [] (fun z_ => Zbb0 k z_.1)
  Qz
  (fun ⟨x2, _⟩ => Qr))))) hyp_
abbrev Zbc0 (k : (Int → K)) (x8 : Int) : K :=
  k x8
abbrev Zbc1 (w_1 : Int) (at_1 : Int) (n : Int) (k : (Int → K)) (m : Int) : K :=
  nneg (IntKind.wrap .u64 at_1) <|
  Zbc0 k (bitI .or .u64 (bitI .andNot .u64 w_1 m) (bitI .and .u64 (shlI .u64 n (IntKind.wrap .u64 at_1)) m))
abbrev Zbc2 (w_1 : Int) (at_1 : Int) (width : Int) (n : Int) (k : (Int → K)) : K :=
  c_bits_mask width fun x18 =>
  nneg (IntKind.wrap .u64 at_1) <|
  Zbc1 w_1 at_1 n k (shlI .u64 x18 (IntKind.wrap .u64 at_1))
abbrev Zbc3 (k : (Int → K)) (x8_1 : Int) : K :=
  k x8_1
abbrev Zbc4 (w_1 : Int) (at_1 : Int) (width : Int) (n : Int) (k : (Int → K)) (x15 : Bool) : K :=
  brK x15
  (Zbc3 k w_1)
  (Zbc2 w_1 at_1 width n k)
abbrev Zbc5 (w_1 : Int) (at_1 : Int) (width : Int) (n : Int) (k : (Int → K)) : K :=
  brK (decide (at_1 < 0))
  (Zbc4 w_1 at_1 width n k true)
  (Zbc4 w_1 at_1 width n k (decide (at_1 ≥ 64)))
abbrev bits_Put (w_1 : Int) (at_1 : Int) (width : Int) (n : Int) : M Int := fun k =>
  Zbc5 w_1 at_1 width n k
theorem bits_Put_ok (w_1 : Int) (at_1 : Int) (width : Int) (n : Int) (k : Int → K) (w : World) (hyp_ : bits_Put w_1 at_1 width n k w) : c_bits_Put w_1 at_1 width n k w :=
  cl_of (P := Tryz.prog) Tryz.func204 rfl (by kernel_rfl)
  (Qs [] [0, 1, 2, 3] (fun z_ => Zbc5 w_1 at_1 width n k)
  Qz
  (fun _ => Qs [] [0, 1, 2, 3] (fun z_ => Zbc2 w_1 at_1 width n k)
  (Qs [(15, .bool)] [0, 1, 2, 3] (fun z_ => Zbc4 w_1 at_1 width n k z_.1)
  (Qp [2])
  (fun ⟨x15, _⟩ => Qc (x15) (Zbc3 k w_1) (Zbc2 w_1 at_1 width n k) (Qs [(8, .int .u64)] [] (fun z_ => Zbc3 k z_.1)
  Qz
  (fun ⟨x8_1, _⟩ => Qr)) Qk))
  (fun _ => Qs [(9, .int .u64)] [0, 1, 3] (fun z_ => Zbc1 w_1 at_1 n k z_.1)
  Qz
  (fun ⟨m, _⟩ => Qs [(8, .int .u64)] [] (fun z_ => Zbc0 k z_.1)
  Qz
  (fun ⟨x8, _⟩ => Qr))))) hyp_
abbrev Zbd0 (k : (Int → K)) (x4 : Int) : K :=
  k x4
abbrev Zbd1 (n : Int) (place : Int) (k : (Int → K)) : K :=
  alK (.cells #[.int .u64 (IntKind.wrap .u64 n), .int .u64 (IntKind.wrap .u64 place)] 109) fun b =>
  c_crc_Words ⟨(some ⟨b, 0, none⟩), 2, 2⟩ fun x10 =>
  Zbd0 k (bitI .or .u64 (shlI .u64 (IntKind.wrap .u64 x10) 32) (IntKind.wrap .u64 n))
abbrev crc_Seal (n : Int) (place : Int) : M Int := fun k =>
  Zbd1 n place k
theorem crc_Seal_ok (n : Int) (place : Int) (k : Int → K) (w : World) (hyp_ : crc_Seal n place k w) : c_crc_Seal n place k w :=
  cl_of (P := Tryz.prog) Tryz.func205 rfl (by kernel_rfl)
  (Qs [] [0, 1] (fun z_ => Zbd1 n place k)
  Qz
  (fun _ => Qs [(4, .int .u64)] [] (fun z_ => Zbd0 k z_.1)
  Qz
  (fun ⟨x4, _⟩ => Qr))) hyp_
abbrev Zbe0 (k : (Fv → K)) (x6 : Fv) : K :=
  k x6
abbrev Zbe1 (k : (Fv → K)) (g_1 : Addr) (k_2 : Addr) (block_1 : Addr) : K :=
  Zbe0 k ⟨.func 231, #[], #[.pointer (some k_2), .pointer (some g_1), .pointer (some block_1)]⟩
abbrev cells_All (g : Int) (k_1 : Int) (block : Int) : M Fv := fun k =>
  alK (.cells #[.int .i64 g] 43) fun b =>
  alK (.cells #[.int .i64 k_1] 3) fun b_1 =>
  alK (.cells #[.int .i64 block] 3) fun b_2 =>
  Zbe1 k ⟨b, 0, none⟩ ⟨b_1, 0, none⟩ ⟨b_2, 0, none⟩
theorem cells_All_ok (g : Int) (k_1 : Int) (block : Int) (k : Fv → K) (w : World) (hyp_ : cells_All g k_1 block k w) : c_cells_All g k_1 block k w :=
  cl_of (P := Tryz.prog) Tryz.func212 rfl (by kernel_rfl)
  (Qs [(3, .addr), (4, .addr), (5, .addr)] [] (fun z_ => Zbe1 k z_.1 z_.2.1 z_.2.2.1)
  Qz
  (fun ⟨g_1, k_2, block_1, _⟩ => Qs [(6, .func)] [] (fun z_ => Zbe0 k z_.1)
  Qz
  (fun ⟨x6, _⟩ => Qr))) hyp_
abbrev Zbf0 (k : (Int → K)) (x2 : Int) : K :=
  k x2
abbrev Zbf1 (k_1 : Int) (k : (Int → K)) : K :=
  c_class_Cells k_1 fun x7 =>
  c_class_Words k_1 fun x9 =>
  Zbf0 k (IntKind.wrap .i64 (512 - (IntKind.wrap .i64 (x7 * x9))))
abbrev Zbf2 (k : (Int → K)) (x2_1 : Int) : K :=
  k x2_1
abbrev Zbf3 (k_1 : Int) (k : (Int → K)) (x5 : Bool) : K :=
  brK x5
  (Zbf2 k 0)
  (Zbf1 k_1 k)
abbrev Zbf4 (k_1 : Int) (k : (Int → K)) : K :=
  c_class_Right k_1 fun x4 =>
  Zbf3 k_1 k (!x4)
abbrev class_Waste (k_1 : Int) : M Int := fun k =>
  Zbf4 k_1 k
theorem class_Waste_ok (k_1 : Int) (k : Int → K) (w : World) (hyp_ : class_Waste k_1 k w) : c_class_Waste k_1 k w :=
  cl_of (P := Tryz.prog) Tryz.func213 rfl (by kernel_rfl)
  (Qs [] [0] (fun z_ => Zbf4 k_1 k)
  Qz
  (fun _ => Qs [] [0] (fun z_ => Zbf1 k_1 k)
  (Qs [(5, .bool)] [0] (fun z_ => Zbf3 k_1 k z_.1)
  Qz
  (fun ⟨x5, _⟩ => Qc (x5) (Zbf2 k 0) (Zbf1 k_1 k) (Qs [(2, .int .i64)] [] (fun z_ => Zbf2 k z_.1)
  Qz
  (fun ⟨x2_1, _⟩ => Qr)) Qk))
  (fun _ => Qs [(2, .int .i64)] [] (fun z_ => Zbf0 k z_.1)
  Qz
  (fun ⟨x2, _⟩ => Qr)))) hyp_
abbrev Zbg0 (k : (Int → K)) (x2 : Int) : K :=
  k x2
abbrev Zbg1 (width : Int) (k : (Int → K)) : K :=
  nneg (IntKind.wrap .u64 width) <|
  Zbg0 k (IntKind.wrap .u64 ((shlI .u64 1 (IntKind.wrap .u64 width)) - 1))
abbrev Zbg2 (k : (Int → K)) (x2_1 : Int) : K :=
  k x2_1
abbrev Zbg3 (k : (Int → K)) (x2_2 : Int) : K :=
  k x2_2
abbrev Zbg4 (width : Int) (k : (Int → K)) (x6 : Bool) : K :=
  brK x6
  (Zbg3 k 18446744073709551615)
  (Zbg1 width k)
abbrev Zbg5 (width : Int) (k : (Int → K)) (x3 : Bool) : K :=
  brK x3
  (Zbg2 k 0)
  (Zbg4 width k (decide (width ≥ 64)))
abbrev bits_mask (width : Int) : M Int := fun k =>
  Zbg5 width k (decide (width ≤ 0))
theorem bits_mask_ok (width : Int) (k : Int → K) (w : World) (hyp_ : bits_mask width k w) : c_bits_mask width k w :=
  cl_of (P := Tryz.prog) Tryz.func216 rfl (by kernel_rfl)
  (Qs [] [0] (fun z_ => Zbg5 width k (decide (width ≤ 0)))
  Qz
  (fun _ => Qs [] [0] (fun z_ => Zbg1 width k)
  (Qb (Qs [(3, .bool)] [0] (fun z_ => Zbg5 width k z_.1)
  Qz
  (fun ⟨x3, _⟩ => Qc (x3) (Zbg2 k 0) (Zbg4 width k (decide (width ≥ 64))) (Qs [(2, .int .u64)] [] (fun z_ => Zbg2 k z_.1)
  Qz
  (fun ⟨x2_1, _⟩ => Qr)) (Qs [(6, .bool)] [0] (fun z_ => Zbg4 width k z_.1)
  Qz
  (fun ⟨x6, _⟩ => Qc (x6) (Zbg3 k 18446744073709551615) (Zbg1 width k) (Qs [(2, .int .u64)] [] (fun z_ => Zbg3 k z_.1)
  Qz
  (fun ⟨x2_2, _⟩ => Qr)) Qk)))))
  (fun _ => Qs [(2, .int .u64)] [] (fun z_ => Zbg0 k z_.1)
  Qz
  (fun ⟨x2, _⟩ => Qr)))) hyp_
abbrev Zbh0 (k : (Int → K)) (x2 : Int) : K :=
  k x2
abbrev Zbh1 (w_1 : Int) (k : (Int → K)) : K :=
  c_bits_Count (IntKind.wrap .u64 ((bitI .and .u64 w_1 (IntKind.wrap .u64 (0 - w_1))) - 1)) fun x8 =>
  Zbh0 k x8
abbrev bits_Lowest (w_1 : Int) : M Int := fun k =>
  Zbh1 w_1 k
theorem bits_Lowest_ok (w_1 : Int) (k : Int → K) (w : World) (hyp_ : bits_Lowest w_1 k w) : c_bits_Lowest w_1 k w :=
  cl_of (P := Tryz.prog) Tryz.func223 rfl (by kernel_rfl)
  (Qs [] [0] (fun z_ => Zbh1 w_1 k)
  Qz
  (fun _ => Qs [(2, .int .i64)] [] (fun z_ => Zbh0 k z_.1)
  Qz
  (fun ⟨x2, _⟩ => Qr))) hyp_
abbrev Zbi0 (k : (Int → K)) (x2 : Int) : K :=
  k x2
abbrev Zbi1 (list : Sl) (k : (Int → K)) : K :=
  c_bits_Bytes list fun x4 =>
  c_crc_Sum x4 fun x5 =>
  Zbi0 k x5
abbrev crc_Words (list : Sl) : M Int := fun k =>
  Zbi1 list k
theorem crc_Words_ok (list : Sl) (k : Int → K) (w : World) (hyp_ : crc_Words list k w) : c_crc_Words list k w :=
  cl_of (P := Tryz.prog) Tryz.func226 rfl (by kernel_rfl)
  (Qs [] [0] (fun z_ => Zbi1 list k)
  Qz
  (fun _ => Qs [(2, .int .u32)] [] (fun z_ => Zbi0 k z_.1)
  Qz
  (fun ⟨x2, _⟩ => Qr))) hyp_
abbrev Zbj0 (k : (Unit → K)) (x9_1 : Int) (c : ((Int × Unit) → K)) (x25 : Bool) : K :=
  brK x25
  (k ())
  (c ((IntKind.wrap .i64 (x9_1 + 1)), ()))
abbrev Zbj1 (yield : Fv) (k : (Unit → K)) (x9_1 : Int) (c : ((Int × Unit) → K)) (at_1 : Int) : K :=
  brK (decide (at_1 < 0))
  (Zbj0 k x9_1 c true)
  (dyn Tryz.prog (yield.v) #[.int .i64 at_1] (.one (.sc (.bool))) fun x23 =>
  Zbj0 k x9_1 c (!x23))
abbrev Zbj2 (yield : Fv) (cap0 : Addr) (cap1 : Addr) (cap2 : Addr) (k : (Unit → K)) (x9_1 : Int) (c : ((Int × Unit) → K)) (i : Int) : K :=
  ldI .i64 (cap1.add 0) fun x12_0 =>
  ldI .i64 cap0 fun x13 =>
  ldI .i64 cap2 fun x14 =>
  c_cells_Address x12_0 x13 (x14, i) fun x17 =>
  Zbj1 yield k x9_1 c x17
abbrev Zbj3 (yield : Fv) (cap0 : Addr) (cap1 : Addr) (cap2 : Addr) (k : (Unit → K)) (x9_1 : Int) (c : ((Int × Unit) → K)) (x10 : Bool) : K :=
  brK x10
  (Zbj2 yield cap0 cap1 cap2 k x9_1 c x9_1)
  (k ())
abbrev Zbj4 (yield : Fv) (cap0 : Addr) (cap1 : Addr) (cap2 : Addr) (k : (Unit → K)) (x8 : Int) (x9_1 : Int) (c : ((Int × Unit) → K)) : K :=
  Zbj3 yield cap0 cap1 cap2 k x9_1 c (decide (x9_1 < x8))
abbrev Zbj5 (yield : Fv) (cap0 : Addr) (cap1 : Addr) (cap2 : Addr) (k : (Unit → K)) (x8 : Int) (x9 : Int) : K :=
  lp (fun (z_ : (Int × Unit)) c_ => Zbj4 yield cap0 cap1 cap2 k x8 z_.1 c_) (x9, ())
abbrev cells_All_1 (yield : Fv) (cap0 : Addr) (cap1 : Addr) (cap2 : Addr) : M Unit := fun k =>
  ldI .i64 cap0 fun x7 =>
  c_class_Cells x7 fun x8_1 =>
  Zbj5 yield cap0 cap1 cap2 k x8_1 0
theorem cells_All_1_ok (yield : Fv) (cap0 : Addr) (cap1 : Addr) (cap2 : Addr) (k : Unit → K) (w : World) (hyp_ : cells_All_1 yield cap0 cap1 cap2 k w) : c_cells_All_1 yield cap0 cap1 cap2 k w :=
  cl_of (P := Tryz.prog) Tryz.func231 rfl (by kernel_rfl)
  (Qs [(8, .int .i64), (9, .int .i64)] [0, 1, 2, 3] (fun z_ => Zbj5 yield cap0 cap1 cap2 k z_.1 z_.2.1)
  Qz
  (fun ⟨x8, x9, _⟩ => Qb (Ql [(9, .int .i64)] [0, 1, 2, 3, 8] (fun (z_ : (Int × Unit)) c_ => Zbj4 yield cap0 cap1 cap2 k x8 z_.1 c_) (x9, ())
  (fun ⟨x9_1, _⟩ c => Qs [(10, .bool)] [0, 1, 2, 3, 8, 9] (fun z_ => Zbj3 yield cap0 cap1 cap2 k x9_1 c z_.1)
  Qz
  (fun ⟨x10, _⟩ => Qs [] [0, 1, 2, 3, 8, 9] (fun z_ => Zbj2 yield cap0 cap1 cap2 k x9_1 c x9_1)
  (Qc (x10) (Zbj2 yield cap0 cap1 cap2 k x9_1 c x9_1) (k ()) Qk Qx)
  (fun _ => Qs [] [0, 1, 2, 3, 8, 9] (fun z_ => c ((IntKind.wrap .i64 (x9_1 + 1)), ()))
  (Qb (Qs [(5, .int .i64)] [0, 1, 2, 3, 8, 9] (fun z_ => Zbj2 yield cap0 cap1 cap2 k x9_1 c z_.1)
  Qz
  (fun ⟨i, _⟩ => Qs [(6, .int .i64)] [0, 1, 2, 3, 8, 9] (fun z_ => Zbj1 yield k x9_1 c z_.1)
  Qz
  (fun ⟨at_1, _⟩ => Qs [(25, .bool)] [0, 1, 2, 3, 8, 9] (fun z_ => Zbj0 k x9_1 c z_.1)
  (Qp [2])
  (fun ⟨x25, _⟩ => Qc (x25) (k ()) (c ((IntKind.wrap .i64 (x9_1 + 1)), ())) Qr Qk)))))
  (fun _ => Qz))))))) hyp_
abbrev Zbk0 (k : (Int → K)) (x2 : Int) : K :=
  k x2
abbrev Zbk1 (k : (Int → K)) (w_4 : Int) : K :=
  Zbk0 k (IntKind.wrap .i64 (shrI .u64 (IntKind.wrap .u64 (w_4 * 72340172838076673)) 56))
abbrev Zbk2 (k : (Int → K)) (w_3 : Int) : K :=
  Zbk1 k (bitI .and .u64 (IntKind.wrap .u64 (w_3 + (shrI .u64 w_3 4))) 1085102592571150095)
abbrev Zbk3 (k : (Int → K)) (w_2 : Int) : K :=
  Zbk2 k (IntKind.wrap .u64 ((bitI .and .u64 w_2 3689348814741910323) + (bitI .and .u64 (shrI .u64 w_2 2) 3689348814741910323)))
abbrev Zbk4 (w_1 : Int) (k : (Int → K)) : K :=
  Zbk3 k (IntKind.wrap .u64 (w_1 - (bitI .and .u64 (shrI .u64 w_1 1) 6148914691236517205)))
abbrev bits_Count (w_1 : Int) : M Int := fun k =>
  Zbk4 w_1 k
theorem bits_Count_ok (w_1 : Int) (k : Int → K) (w : World) (hyp_ : bits_Count w_1 k w) : c_bits_Count w_1 k w :=
  cl_of (P := Tryz.prog) Tryz.func235 rfl (by kernel_rfl)
  (Qs [] [0] (fun z_ => Zbk4 w_1 k)
  Qz
  (fun _ => Qs [(0, .int .u64)] [] (fun z_ => Zbk3 k z_.1)
  Qz
  (fun ⟨w_2, _⟩ => Qs [(0, .int .u64)] [] (fun z_ => Zbk2 k z_.1)
  Qz
  (fun ⟨w_3, _⟩ => Qs [(0, .int .u64)] [] (fun z_ => Zbk1 k z_.1)
  Qz
  (fun ⟨w_4, _⟩ => Qs [(2, .int .i64)] [] (fun z_ => Zbk0 k z_.1)
  Qz
  (fun ⟨x2, _⟩ => Qr)))))) hyp_
abbrev Zbl0 (k : (Int → K)) (x2 : Int) : K :=
  k x2
abbrev Zbl1 (data : Sl) (k : (Int → K)) : K :=
  c_crc_More 0 data fun x4 =>
  Zbl0 k x4
abbrev crc_Sum (data : Sl) : M Int := fun k =>
  Zbl1 data k
theorem crc_Sum_ok (data : Sl) (k : Int → K) (w : World) (hyp_ : crc_Sum data k w) : c_crc_Sum data k w :=
  cl_of (P := Tryz.prog) Tryz.func236 rfl (by kernel_rfl)
  (Qs [] [0] (fun z_ => Zbl1 data k)
  Qz
  (fun _ => Qs [(2, .int .u32)] [] (fun z_ => Zbl0 k z_.1)
  Qz
  (fun ⟨x2, _⟩ => Qr))) hyp_
abbrev Zbm0 (k : (Sl → K)) (x2 : Sl) : K :=
  k x2
abbrev Zbm1 (k : (Sl → K)) (out_1 : Sl) : K :=
  Zbm0 k out_1
abbrev Zbm2 (x13_1 : Int) (c : ((Sl × Int × Unit) → K)) (out_3 : Sl) : K :=
  c (out_3, (IntKind.wrap .i64 (x13_1 + 1)), ())
abbrev Zbm3 (x17_1 : Int) (c_1 : ((Sl × Int × Unit) → K)) (out_5 : Sl) : K :=
  c_1 (out_5, (IntKind.wrap .i64 (x17_1 + 1)), ())
abbrev Zbm4 (w_1 : Int) (out_4 : Sl) (x17_1 : Int) (c_1 : ((Sl × Int × Unit) → K)) (i : Int) : K :=
  nneg (IntKind.wrap .u64 (IntKind.wrap .i64 (8 * i))) <|
  alK (.cells #[.int .u8 (IntKind.wrap .u8 (shrI .u64 w_1 (IntKind.wrap .u64 (IntKind.wrap .i64 (8 * i)))))] 5) fun b =>
  semT Tryz.prog (Builtin.append_ #[60, 60] 60 #[out_4.v, .slice (some ⟨b, 0, none⟩) 1 1]) (.one (.sc (.slice))) fun x28 =>
  Zbm3 x17_1 c_1 x28
abbrev Zbm5 (x13_1 : Int) (c : ((Sl × Int × Unit) → K)) (w_1 : Int) (out_4 : Sl) (x17_1 : Int) (c_1 : ((Sl × Int × Unit) → K)) (x18 : Bool) : K :=
  brK x18
  (Zbm4 w_1 out_4 x17_1 c_1 x17_1)
  (Zbm2 x13_1 c out_4)
abbrev Zbm6 (x13_1 : Int) (c : ((Sl × Int × Unit) → K)) (w_1 : Int) (out_4 : Sl) (x17_1 : Int) (c_1 : ((Sl × Int × Unit) → K)) : K :=
  Zbm5 x13_1 c w_1 out_4 x17_1 c_1 (decide (x17_1 < 8))
abbrev Zbm7 (out_2 : Sl) (x13_1 : Int) (c : ((Sl × Int × Unit) → K)) (w_1 : Int) (x17 : Int) : K :=
  lp (fun (z_ : (Sl × Int × Unit)) c_ => Zbm6 x13_1 c w_1 z_.1 z_.2.1 c_) (out_2, x17, ())
abbrev Zbm8 (out_2 : Sl) (x13_1 : Int) (c : ((Sl × Int × Unit) → K)) (w_1 : Int) : K :=
  Zbm7 out_2 x13_1 c w_1 0
abbrev Zbm9 (x11 : Sl) (out_2 : Sl) (x13_1 : Int) (c : ((Sl × Int × Unit) → K)) : K :=
  ixS x11.p x11.n x13_1 1 fun x15 =>
  ldI .u64 x15 fun x16 =>
  Zbm8 out_2 x13_1 c x16
abbrev Zbm10 (k : (Sl → K)) (x11 : Sl) (out_2 : Sl) (x13_1 : Int) (c : ((Sl × Int × Unit) → K)) (x14 : Bool) : K :=
  brK x14
  (Zbm9 x11 out_2 x13_1 c)
  (Zbm1 k out_2)
abbrev Zbm11 (k : (Sl → K)) (x11 : Sl) (x12 : Int) (out_2 : Sl) (x13_1 : Int) (c : ((Sl × Int × Unit) → K)) : K :=
  Zbm10 k x11 out_2 x13_1 c (decide (x13_1 < x12))
abbrev Zbm12 (k : (Sl → K)) (out : Sl) (x11 : Sl) (x12 : Int) (x13 : Int) : K :=
  lp (fun (z_ : (Sl × Int × Unit)) c_ => Zbm11 k x11 x12 z_.1 z_.2.1 c_) (out, x13, ())
abbrev Zbm13 (words : Sl) (k : (Sl → K)) (out : Sl) : K :=
  Zbm12 k out words ((words.n : Nat) : Int) 0
abbrev Zbm14 (words : Sl) (k : (Sl → K)) : K :=
  mkS Tryz.prog 5 0 (IntKind.wrap .i64 (8 * ((words.n : Nat) : Int))) fun b_1 =>
  Zbm13 words k ⟨(some ⟨b_1, 0, none⟩), (Int.toNat 0), (Int.toNat (IntKind.wrap .i64 (8 * ((words.n : Nat) : Int))))⟩
abbrev bits_Bytes (words : Sl) : M Sl := fun k =>
  Zbm14 words k
theorem bits_Bytes_ok (words : Sl) (k : Sl → K) (w : World) (hyp_ : bits_Bytes words k w) : c_bits_Bytes words k w :=
  cl_of (P := Tryz.prog) Tryz.func237 rfl (by kernel_rfl)
  (Qs [] [0] (fun z_ => Zbm14 words k)
  Qz
  (fun _ => Qs [(3, .slice)] [0] (fun z_ => Zbm13 words k z_.1)
  Qz
  (fun ⟨out, _⟩ => Qs [(3, .slice)] [] (fun z_ => Zbm1 k z_.1)
  (Qs [(11, .slice), (12, .int .i64), (13, .int .i64)] [3] (fun z_ => Zbm12 k out z_.1 z_.2.1 z_.2.2.1)
  Qz
  (fun ⟨x11, x12, x13, _⟩ => Qb (Ql [(3, .slice), (13, .int .i64)] [11, 12] (fun (z_ : (Sl × Int × Unit)) c_ => Zbm11 k x11 x12 z_.1 z_.2.1 c_) (out, x13, ())
  (fun ⟨out_2, x13_1, _⟩ c => Qs [(14, .bool)] [3, 11, 12, 13] (fun z_ => Zbm10 k x11 out_2 x13_1 c z_.1)
  Qz
  (fun ⟨x14, _⟩ => Qs [] [3, 11, 12, 13] (fun z_ => Zbm9 x11 out_2 x13_1 c)
  (Qc (x14) (Zbm9 x11 out_2 x13_1 c) (Zbm1 k out_2) Qk Qx)
  (fun _ => Qs [(3, .slice)] [11, 12, 13] (fun z_ => Zbm2 x13_1 c z_.1)
  (Qb (Qs [(5, .int .u64)] [3, 11, 12, 13] (fun z_ => Zbm8 out_2 x13_1 c z_.1)
  Qz
  (fun ⟨w_1, _⟩ => Qs [(17, .int .i64)] [3, 5, 11, 12, 13] (fun z_ => Zbm7 out_2 x13_1 c w_1 z_.1)
  Qz
  (fun ⟨x17, _⟩ => Qb (Ql [(3, .slice), (17, .int .i64)] [5, 11, 12, 13] (fun (z_ : (Sl × Int × Unit)) c_ => Zbm6 x13_1 c w_1 z_.1 z_.2.1 c_) (out_2, x17, ())
  (fun ⟨out_4, x17_1, _⟩ c_1 => Qs [(18, .bool)] [3, 5, 11, 12, 13, 17] (fun z_ => Zbm5 x13_1 c w_1 out_4 x17_1 c_1 z_.1)
  Qz
  (fun ⟨x18, _⟩ => Qs [] [3, 5, 11, 12, 13, 17] (fun z_ => Zbm4 w_1 out_4 x17_1 c_1 x17_1)
  (Qc (x18) (Zbm4 w_1 out_4 x17_1 c_1 x17_1) (Zbm2 x13_1 c out_4) Qk Qx)
  (fun _ => Qs [(3, .slice)] [5, 11, 12, 13, 17] (fun z_ => Zbm3 x17_1 c_1 z_.1)
  (Qb (Qs [(6, .int .i64)] [3, 5, 11, 12, 13, 17] (fun z_ => Zbm4 w_1 out_4 x17_1 c_1 z_.1)
  Qz
  (fun ⟨i, _⟩ => Qz)))
  (fun ⟨out_5, _⟩ => Qz)))))))))
  (fun ⟨out_3, _⟩ => Qz)))))))
  (fun ⟨out_1, _⟩ => Qs [(2, .slice)] [] (fun z_ => Zbm0 k z_.1)
  Qz
  (fun ⟨x2, _⟩ => Qr))))) hyp_
abbrev Zbn0 (k : (Int → K)) (x4 : Int) : K :=
  k x4
abbrev Zbn1 (k : (Int → K)) (sum_2 : Int) : K :=
  Zbn0 k (notI .u32 sum_2)
abbrev Zbn2 (x11_1 : Int) (c : ((Int × Int × Unit) → K)) (sum_4 : Int) : K :=
  c (sum_4, (IntKind.wrap .i64 (x11_1 + 1)), ())
abbrev Zbn3 (x11_1 : Int) (c : ((Int × Int × Unit) → K)) (b : Int) (sum_5 : Int) : K :=
  c_crc_table (bitI .xor .u8 (IntKind.wrap .u8 sum_5) (shrI .u8 b 4)) fun x28 =>
  Zbn2 x11_1 c (bitI .xor .u32 x28 (shrI .u32 sum_5 4))
abbrev Zbn4 (sum_3 : Int) (x11_1 : Int) (c : ((Int × Int × Unit) → K)) (b : Int) : K :=
  c_crc_table (bitI .xor .u8 (IntKind.wrap .u8 sum_3) b) fun x19 =>
  Zbn3 x11_1 c b (bitI .xor .u32 x19 (shrI .u32 sum_3 4))
abbrev Zbn5 (x9 : Sl) (sum_3 : Int) (x11_1 : Int) (c : ((Int × Int × Unit) → K)) : K :=
  ixS x9.p x9.n x11_1 1 fun x13 =>
  ldI .u8 x13 fun x14 =>
  Zbn4 sum_3 x11_1 c x14
abbrev Zbn6 (k : (Int → K)) (x9 : Sl) (sum_3 : Int) (x11_1 : Int) (c : ((Int × Int × Unit) → K)) (x12 : Bool) : K :=
  brK x12
  (Zbn5 x9 sum_3 x11_1 c)
  (Zbn1 k sum_3)
abbrev Zbn7 (k : (Int → K)) (x9 : Sl) (x10 : Int) (sum_3 : Int) (x11_1 : Int) (c : ((Int × Int × Unit) → K)) : K :=
  Zbn6 k x9 sum_3 x11_1 c (decide (x11_1 < x10))
abbrev Zbn8 (k : (Int → K)) (sum_1 : Int) (x9 : Sl) (x10 : Int) (x11 : Int) : K :=
  lp (fun (z_ : (Int × Int × Unit)) c_ => Zbn7 k x9 x10 z_.1 z_.2.1 c_) (sum_1, x11, ())
abbrev Zbn9 (data : Sl) (k : (Int → K)) (sum_1 : Int) : K :=
  Zbn8 k sum_1 data ((data.n : Nat) : Int) 0
abbrev crc_More (sum : Int) (data : Sl) : M Int := fun k =>
  Zbn9 data k (notI .u32 sum)
theorem crc_More_ok (sum : Int) (data : Sl) (k : Int → K) (w : World) (hyp_ : crc_More sum data k w) : c_crc_More sum data k w :=
  cl_of (P := Tryz.prog) Tryz.func258 rfl (by kernel_rfl)
  (Qs [] [0, 1] (fun z_ => Zbn9 data k (notI .u32 sum))
  Qz
  (fun _ => Qs [(0, .int .u32)] [1] (fun z_ => Zbn9 data k z_.1)
  Qz
  (fun ⟨sum_1, _⟩ => Qs [(0, .int .u32)] [] (fun z_ => Zbn1 k z_.1)
  (Qs [(9, .slice), (10, .int .i64), (11, .int .i64)] [0] (fun z_ => Zbn8 k sum_1 z_.1 z_.2.1 z_.2.2.1)
  Qz
  (fun ⟨x9, x10, x11, _⟩ => Qb (Ql [(0, .int .u32), (11, .int .i64)] [9, 10] (fun (z_ : (Int × Int × Unit)) c_ => Zbn7 k x9 x10 z_.1 z_.2.1 c_) (sum_1, x11, ())
  (fun ⟨sum_3, x11_1, _⟩ c => Qs [(12, .bool)] [0, 9, 10, 11] (fun z_ => Zbn6 k x9 sum_3 x11_1 c z_.1)
  Qz
  (fun ⟨x12, _⟩ => Qs [] [0, 9, 10, 11] (fun z_ => Zbn5 x9 sum_3 x11_1 c)
  (Qc (x12) (Zbn5 x9 sum_3 x11_1 c) (Zbn1 k sum_3) Qk Qx)
  (fun _ => Qs [(0, .int .u32)] [9, 10, 11] (fun z_ => Zbn2 x11_1 c z_.1)
  (Qb (Qs [(6, .int .u8)] [0, 9, 10, 11] (fun z_ => Zbn4 sum_3 x11_1 c z_.1)
  Qz
  (fun ⟨b, _⟩ => Qs [(0, .int .u32)] [6, 9, 10, 11] (fun z_ => Zbn3 x11_1 c b z_.1)
  Qz
  (fun ⟨sum_5, _⟩ => Qz))))
  (fun ⟨sum_4, _⟩ => Qz)))))))
  (fun ⟨sum_2, _⟩ => Qs [(4, .int .u32)] [] (fun z_ => Zbn0 k z_.1)
  Qz
  (fun ⟨x4, _⟩ => Qr))))) hyp_
abbrev Zbo0 (k : (Int → K)) (x2 : Int) : K :=
  k x2
abbrev Zbo1 (i : Int) (k : (Int → K)) : K :=
  ixI .u32 #[.int .u32 0, .int .u32 498536548, .int .u32 997073096, .int .u32 651767980, .int .u32 1994146192, .int .u32 1802195444, .int .u32 1303535960, .int .u32 1342533948, .int .u32 3988292384, .int .u32 4027552580, .int .u32 3604390888, .int .u32 3412177804, .int .u32 2607071920, .int .u32 2262029012, .int .u32 2685067896, .int .u32 3183342108] 16 (bitI .and .u8 i 15) fun x6 =>
  Zbo0 k x6
abbrev crc_table (i : Int) : M Int := fun k =>
  Zbo1 i k
theorem crc_table_ok (i : Int) (k : Int → K) (w : World) (hyp_ : crc_table i k w) : c_crc_table i k w :=
  cl_of (P := Tryz.prog) Tryz.func270 rfl (by kernel_rfl)
  (Qs [] [0] (fun z_ => Zbo1 i k)
  Qz
  (fun _ => Qs [(2, .int .u32)] [] (fun z_ => Zbo0 k z_.1)
  Qz
  (fun ⟨x2, _⟩ => Qr))) hyp_
end
section
variable {B : World} {R : SL}
/-! geom -/
theorem geom_Words_c {g : Int} (h0 : 0 ≤ g) (h1 : g ≤ 2 ^ 40) {k : Int → K} (hk : T B R (k (g * 512))) : T B R (c_geom_Geometry_Words g k) := by
  refine T_of (geom_Geometry_Words_ok g k) ?_
  (repeat (first | ((with_reducible apply T_ldI); (focus rfl); (focus exact hasA); (focus rfl)) | (with_reducible refine T_al ?_; intro _)))
  rw [w64 (by omega) (by omega)]
  exact hk.weak
def blockOf (g at_ : Int) : Int := if at_ < 0 ∨ at_ ≥ g * 512 then -1 else at_ / 512
theorem geom_BlockOf_c {g a : Int} (h0 : 0 ≤ g) (h1 : g ≤ 2 ^ 40) {k : Int → K} (hk : T B R (k (blockOf g a))) : T B R (c_geom_Geometry_BlockOf g a k) := by
  refine T_of (geom_Geometry_BlockOf_ok g a k) ?_
  unfold blockOf at hk
  (repeat' (first | with_reducible refine T_brT ?_ | ((with_reducible apply T_ldI); (focus rfl); (focus exact hasA); (focus rfl)) | (with_reducible refine T_al ?_; intro _) | with_reducible refine T_brD (fun _ => ?_) (fun _ => ?_)))
  · rw [if_pos (by omega)] at hk; exact hk.weak
  · refine geom_Words_c h0 h1 ?_
    (repeat' (with_reducible refine T_brD (fun _ => ?_) (fun _ => ?_)))
    · rw [if_pos (by omega)] at hk; exact hk.weak
    · rw [if_neg (by omega)] at hk
      rw [Int.tdiv_eq_ediv_of_nonneg (by omega), w64 (by omega) (by omega)]; exact hk.weak
def first (g b : Int) : Int := if b < 0 ∨ b ≥ g then -1 else b * 512
theorem geom_First_c {g b : Int} (h1 : g ≤ 2 ^ 40) {k : Int → K} (hk : T B R (k (first g b))) : T B R (c_geom_Geometry_First g b k) := by
  refine T_of (geom_Geometry_First_ok g b k) ?_
  unfold first at hk
  (repeat' (first | with_reducible refine T_brT ?_ | ((with_reducible apply T_ldI); (focus rfl); (focus exact hasA); (focus rfl)) | (with_reducible refine T_al ?_; intro _) | with_reducible refine T_brD (fun _ => ?_) (fun _ => ?_)))
  · rw [if_pos (by omega)] at hk; exact hk.weak
  · rw [if_pos (by omega)] at hk; exact hk.weak
  · rw [if_neg (by omega)] at hk
    rw [w64 (by omega) (by omega)]; exact hk.weak
def header (g b : Int) : Int := if b < 1 ∨ b ≥ g then -1 else 256 + b
theorem geom_Header_c {g b : Int} (h1 : g ≤ 2 ^ 40) {k : Int → K} (hk : T B R (k (header g b))) : T B R (c_geom_Geometry_Header g b k) := by
  refine T_of (geom_Geometry_Header_ok g b k) ?_
  unfold header at hk
  (repeat' (first | with_reducible refine T_brT ?_ | ((with_reducible apply T_ldI); (focus rfl); (focus exact hasA); (focus rfl)) | (with_reducible refine T_al ?_; intro _) | with_reducible refine T_brD (fun _ => ?_) (fun _ => ?_)))
  · rw [if_pos (by omega)] at hk; exact hk.weak
  · rw [if_pos (by omega)] at hk; exact hk.weak
  · rw [if_neg (by omega)] at hk
    rw [w64 (by omega) (by omega)]; exact hk.weak
theorem geom_Most_c {g : Int} (h0 : 0 ≤ g) (h1 : g ≤ 2 ^ 40) {k : Int → K} (hk : T B R (k (max 0 (g - 1) * 512))) : T B R (c_geom_Geometry_Most g k) := by
  refine T_of (geom_Geometry_Most_ok g k) ?_
  (repeat' (first | ((with_reducible apply T_ldI); (focus rfl); (focus exact hasA); (focus rfl)) | (with_reducible refine T_al ?_; intro _)))
  have e : max2I 0 (IntKind.wrap .i64 (g - 1)) = max 0 (g - 1) := by rw [w64 (by omega) (by omega)]; unfold max2I; split <;> omega
  rw [e, w64 (by omega) (by omega)]; exact hk.weak
theorem geom_Data_c {g a : Int} (h0 : 0 ≤ g) (h1 : g ≤ 2 ^ 40) {k : Bool → K} (hk : T B R (k (decide (1 ≤ blockOf g a)))) : T B R (c_geom_Geometry_Data g a k) := by
  refine T_of (geom_Geometry_Data_ok g a k) ?_
  (repeat' (first | ((with_reducible apply T_ldI); (focus rfl); (focus exact hasA); (focus rfl)) | (with_reducible refine T_al ?_; intro _)))
  refine geom_BlockOf_c h0 h1 ?_
  exact hk.weak
/-! class -/
def szs : List Int := [2, 3, 4, 5, 6, 7, 8, 10, 12, 14, 16, 18, 20, 24, 28, 32, 36, 40, 46, 51, 56, 64, 73, 85, 92, 102, 113, 128, 146, 170, 204, 256]
theorem class_sizes_c {k : List Value → K} (hk : T B R (k (szs.map fun n => .int .i64 n))) : T B R (c_class_sizes k) := by
  refine T_of (class_sizes_ok k) ?_
  (repeat ((with_reducible refine T_al ?_; intro _)))
  refine T_stArr (l := List.replicate 32 (.int .i64 0)) (cs := szs.map fun n => .int .i64 n) rfl (by kernel_rfl) (by kernel_rfl) rfl rfl ?_
  (repeat (((with_reducible apply T_blob); (focus rfl); (focus exact hasA); (focus rfl))))
  exact hk.weak
theorem class_Right_c {c : Int} {k : Bool → K} (hk : T B R (k (decide (0 ≤ c ∧ c < 32)))) : T B R (c_class_Right c k) := by
  refine T_of (class_Right_ok c k) ?_
  (repeat' (with_reducible refine T_brD (fun _ => ?_) (fun _ => ?_)))
  · have e : decide (c < 32) = decide (0 ≤ c ∧ c < 32) := by simp; omega
    rw [e]; exact hk
  · have e : decide (0 ≤ c ∧ c < 32) = false := by simp; omega
    rw [e] at hk; exact hk
def clsW (c : Int) : Int := if 0 ≤ c ∧ c < 32 then szs.getD c.toNat 0 else 0
theorem class_Words_c {c : Int} {k : Int → K} (hk : T B R (k (clsW c))) : T B R (c_class_Words c k) := by
  refine T_of (class_Words_ok c k) ?_
  unfold clsW at hk
  skip
  refine class_Right_c ?_
  (repeat' (first | with_reducible refine T_brD (fun _ => ?_) (fun _ => ?_) | with_reducible refine T_brN ?_))
  · rename_i h
    rw [if_pos h] at hk
    refine class_sizes_c ?_
    intro w s
    have hl : c.toNat < szs.length := by show c.toNat < 32; omega
    refine ⟨by omega, szs.getD c.toNat 0, ?_, hk w s⟩
    simp only [List.getElem?_toArray, List.getElem?_map, List.getElem?_eq_getElem hl, Option.map_some, List.getD_eq_getElem?_getD, Option.getD_some]
  · rename_i h
    rw [if_neg h] at hk
    exact hk
theorem clsW_pos {c : Int} (h : 0 ≤ c ∧ c < 32) : 2 ≤ clsW c ∧ clsW c ≤ 256 := by
  unfold clsW; rw [if_pos h]
  have : ∀ n : Nat, n < 32 → 2 ≤ szs.getD n 0 ∧ szs.getD n 0 ≤ 256 := by decide
  exact this c.toNat (by omega)
theorem clsW_mono {c d : Int} (h0 : 0 ≤ c) (h : c < d) (h1 : d < 32) : clsW c < clsW d := by
  unfold clsW; rw [if_pos (by omega), if_pos (by omega)]
  have : ∀ m : Nat, m < 32 → ∀ n : Nat, n < m → szs.getD n 0 < szs.getD m 0 := by decide
  exact this d.toNat (by omega) c.toNat (by omega)
theorem class_Most_c {k : Int → K} (hk : T B R (k 256)) : T B R (c_class_Most k) := by
  refine T_of (class_Most_ok k) ?_
  skip
  refine class_Words_c ?_
  have e : clsW 31 = 256 := by decide
  rw [e]
  skip
  exact hk
def cls (c : Int) : Int := if 0 ≤ c ∧ c < 32 then 512 / clsW c else 0
theorem class_Cells_c {c : Int} {k : Int → K} (hk : T B R (k (cls c))) : T B R (c_class_Cells c k) := by
  refine T_of (class_Cells_ok c k) ?_
  unfold cls at hk
  skip
  refine class_Right_c ?_
  (repeat' (first | with_reducible refine T_brD (fun _ => ?_) (fun _ => ?_) | with_reducible refine T_brN ?_))
  · rename_i h
    rw [if_pos h] at hk
    refine class_Words_c ?_
    have hp := clsW_pos h
    refine T_nz (by omega) ?_
    rw [Int.tdiv_eq_ediv_of_nonneg (by omega), w64 (by have := Int.ediv_nonneg (a := 512) (b := clsW c) (by omega) (by omega); omega) (by have := Int.ediv_le_self (a := 512) (clsW c) (by omega); omega)]
    exact hk
  · rename_i h
    rw [if_neg h] at hk
    exact hk
theorem class_Waste_c {c : Int} {k : Int → K} (hk : T B R (k (if 0 ≤ c ∧ c < 32 then 512 - cls c * clsW c else 0))) : T B R (c_class_Waste c k) := by
  refine T_of (class_Waste_ok c k) ?_
  skip
  refine class_Right_c ?_
  (repeat' (first | with_reducible refine T_brD (fun _ => ?_) (fun _ => ?_) | with_reducible refine T_brN ?_))
  · rename_i h
    rw [if_pos h] at hk
    refine class_Cells_c ?_
    refine class_Words_c ?_
    have hp := clsW_pos h
    have hc : cls c = 512 / clsW c := by unfold cls; rw [if_pos h]
    have h1 : cls c * clsW c ≤ 512 := by rw [hc]; exact Int.ediv_mul_le _ (by omega)
    have h2 : 0 ≤ cls c * clsW c := by rw [hc]; exact Int.mul_nonneg (Int.ediv_nonneg (by omega) (by omega)) (by omega)
    rw [w64 (n := cls c * clsW c) (by omega) (by omega), w64 (by omega) (by omega)]
    exact hk
  · rename_i h
    rw [if_neg h] at hk
    exact hk
/-- the least class whose cells have so many words -/
def IsOf (words c : Int) : Prop := 0 ≤ c ∧ c < 32 ∧ words ≤ clsW c ∧ ∀ d, 0 ≤ d → d < c → clsW d < words
theorem class_Of_c {words : Int} {k : Int × Bool → K} (h0 : words < 1 ∨ 256 < words → T B R (k (0, false))) (h1 : 1 ≤ words → words ≤ 256 → ∀ c, IsOf words c → T B R (k (c, true))) :
    T B R (c_class_Of words k) := by
  refine T_of (class_Of_ok words k) ?_
  (repeat' (first | with_reducible refine T_brT ?_ | with_reducible refine T_brD (fun _ => ?_) (fun _ => ?_)))
  · exact h0 (.inl (by assumption))
  · refine class_Most_c ?_
    (repeat' (with_reducible refine T_brD (fun _ => ?_) (fun _ => ?_)))
    · exact h0 (.inr (by assumption))
    · rename_i a b
      have ha : 1 ≤ words := by omega
      have hb : words ≤ 256 := by omega
      refine T_lpX (fun _ _ => R) (fun n (s : Int × Int × Unit) => 0 ≤ s.1 ∧ s.1 ≤ s.2.1 ∧ s.2.1 < 32 ∧ words ≤ clsW s.2.1 ∧ (∀ d, 0 ≤ d → d < s.1 → clsW d < words) ∧ n = (s.2.1 - s.1).toNat) 31 rfl ?_ ?_
      · refine ⟨by simp, by simp, by simp, ?_, fun d h1 h2 => by simp at h2; omega, by simp⟩
        have e : clsW 31 = 256 := by decide
        simp only [e]; exact hb
      · rintro n ⟨lo, hi, u⟩ c ⟨i1, i2, i3, i4, i5, i6⟩ hc
        simp only at i1 i2 i3 i4 i5 i6
        (repeat' (with_reducible refine T_brD (fun _ => ?_) (fun _ => ?_)))
        · rename_i hlt
          simp only at hlt
          have e : IntKind.wrap .i64 (Int.tdiv (IntKind.wrap .i64 (lo + hi)) 2) = (lo + hi) / 2 := by
            rw [w64 (n := lo + hi) (by omega) (by omega), Int.tdiv_eq_ediv_of_nonneg (by omega), w64 (by omega) (by omega)]
          refine class_Words_c ?_
          (repeat' (with_reducible refine T_brD (fun _ => ?_) (fun _ => ?_)))
          · rename_i hw
            rw [e] at hw ⊢
            exact hc (((lo + hi) / 2 - lo).toNat) _ (by omega) ⟨i1, by simp only; omega, by simp only; omega, by simp only; omega, i5, rfl⟩
          · rename_i hw
            rw [e] at hw ⊢
            rw [w64 (n := (lo + hi) / 2 + 1) (by omega) (by omega)]
            refine hc ((hi - ((lo + hi) / 2 + 1)).toNat) _ (by omega) ⟨by simp only; omega, by simp only; omega, i3, i4, fun d h1 h2 => ?_, rfl⟩
            simp only at h2
            by_cases hd : d = (lo + hi) / 2
            · subst hd; omega
            · have := clsW_mono h1 (show d < (lo + hi) / 2 by omega) (by omega); omega
        · rename_i hge
          simp only at hge
          have : lo = hi := by omega
          subst this
          exact h1 ha hb lo ⟨i1, i3, i4, i5⟩
theorem class_Size_c {p d : Int} {k : Int × Int → K} (h0 : p < 0 ∨ 63 < p ∨ d < 0 ∨ 16384 < d → T B R (k (0, 5))) (h1 : 0 ≤ p → p ≤ 63 → 0 ≤ d → d ≤ 16384 → T B R (k (1 + p + d, 0))) :
    T B R (c_class_Size p d k) := by
  refine T_of (class_Size_ok p d k) ?_
  (repeat' (first | with_reducible refine T_brT ?_ | with_reducible refine T_brD (fun _ => ?_) (fun _ => ?_)))
  all_goals first
    | exact h0 (by omega)
    | (rw [w64 (n := 1 + p) (by omega) (by omega), w64 (by omega) (by omega)]; exact h1 (by omega) (by omega) (by omega) (by omega))
end
theorem wu64n (a : Nat) (h : a < 2 ^ 64) : IntKind.wrap .u64 (a : Int) = a := wu64 (by omega) (by omega)
theorem bit_and {a b : Nat} (ha : a < 2 ^ 64) (hb : b < 2 ^ 64) : bitI .and .u64 a b = ((a &&& b : Nat) : Int) := by
  show IntKind.wrap .u64 ((BitVec.ofInt 64 a &&& BitVec.ofInt 64 b).toNat : Int) = _
  rw [BitVec.ofInt_natCast, BitVec.ofInt_natCast, BitVec.toNat_and, BitVec.toNat_ofNat, BitVec.toNat_ofNat, Nat.mod_eq_of_lt ha, Nat.mod_eq_of_lt hb]
  exact wu64n _ (Nat.and_lt_two_pow _ hb)
theorem bit_or {a b : Nat} (ha : a < 2 ^ 64) (hb : b < 2 ^ 64) : bitI .or .u64 a b = ((a ||| b : Nat) : Int) := by
  show IntKind.wrap .u64 ((BitVec.ofInt 64 a ||| BitVec.ofInt 64 b).toNat : Int) = _
  rw [BitVec.ofInt_natCast, BitVec.ofInt_natCast, BitVec.toNat_or, BitVec.toNat_ofNat, BitVec.toNat_ofNat, Nat.mod_eq_of_lt ha, Nat.mod_eq_of_lt hb]
  exact wu64n _ (Nat.or_lt_two_pow ha hb)
theorem bit_andNot {a b i : Nat} (ha : a < 2 ^ i) (hi : i ≤ 64) (hb : b < 2 ^ 64) (hd : 2 ^ i ∣ b) : bitI .andNot .u64 a b = (a : Int) := by
  have ha' : a < 2 ^ 64 := Nat.lt_of_lt_of_le ha (Nat.pow_le_pow_right (by omega) hi)
  show IntKind.wrap .u64 ((BitVec.ofInt 64 a &&& ~~~ BitVec.ofInt 64 b).toNat : Int) = _
  have e : (BitVec.ofInt 64 a &&& ~~~ BitVec.ofInt 64 b) = BitVec.ofNat 64 a := by
    rw [BitVec.ofInt_natCast, BitVec.ofInt_natCast]
    apply BitVec.eq_of_getLsbD_eq
    intro j hj
    simp only [BitVec.getLsbD_and, BitVec.getLsbD_not, BitVec.getLsbD_ofNat, hj, decide_true, Bool.true_and]
    by_cases hij : i ≤ j
    · rw [Nat.testBit_lt_two_pow (Nat.lt_of_lt_of_le ha (Nat.pow_le_pow_right (by omega) hij))]; rw [Bool.false_and]
    · obtain ⟨c, rfl⟩ := hd
      rw [Nat.testBit_two_pow_mul]
      simp only [ge_iff_le, hij, decide_false, Bool.false_and, Bool.not_false, Bool.and_true]
  rw [e, BitVec.toNat_ofNat, Nat.mod_eq_of_lt ha']
  exact wu64n _ ha'
theorem shl_n {a s : Nat} (hs : s ≤ 64) (h : a * 2 ^ s < 2 ^ 64) : shlI .u64 a s = ((a * 2 ^ s : Nat) : Int) := by
  unfold shlI
  have : min ((s : Int)).toNat (IntKind.bits .u64) = s := by show min (Int.toNat (s : Int)) 64 = s; rw [Int.toNat_natCast]; omega
  have e : (a : Int) * 2 ^ s = ((a * 2 ^ s : Nat) : Int) := by rw [Int.natCast_mul, Int.natCast_pow]; rfl
  rw [this, e]
  exact wu64n _ h
theorem shr_n {a s : Nat} (hs : s ≤ 64) : shrI .u64 a s = ((a / 2 ^ s : Nat) : Int) := by
  unfold shrI
  have : min ((s : Int)).toNat (IntKind.bits .u64) = s := by show min (Int.toNat (s : Int)) 64 = s; rw [Int.toNat_natCast]; omega
  have e : (2 : Int) ^ s = ((2 ^ s : Nat) : Int) := by rw [Int.natCast_pow]; rfl
  rw [this, e, Int.fdiv_eq_ediv_of_nonneg _ (Int.natCast_nonneg _)]
  rfl
section
variable {B : World} {R : SL}
theorem bits_mask_c {n : Nat} (h0 : 0 < n) (h1 : n < 64) {k : Int → K} (hk : T B R (k ((2 ^ n - 1 : Nat) : Int))) : T B R (c_bits_mask n k) := by
  refine T_of (bits_mask_ok n k) ?_
  (repeat' (with_reducible refine T_brD (fun _ => ?_) (fun _ => ?_)))
  · omega
  · omega
  · have ew : IntKind.wrap .u64 (n : Int) = n := wu64 (by omega) (by omega)
    refine T_nneg (by rw [ew]; omega) ?_
    rw [ew]
    have h2 : 2 ^ n < 2 ^ 64 := Nat.pow_lt_pow_right (by omega) h1
    have h3 : 1 ≤ 2 ^ n := Nat.one_le_two_pow
    have e : shlI .u64 1 n = ((1 * 2 ^ n : Nat) : Int) := shl_n (a := 1) (by omega) (by omega)
    rw [e, wu64 (by omega) (by omega), show ((1 * 2 ^ n : Nat) : Int) - 1 = ((2 ^ n - 1 : Nat) : Int) from by omega]
    exact hk
theorem bits_Get_c {x at_ n : Nat} (hx : x < 2 ^ 64) (ha : at_ < 64) (h0 : 0 < n) (h1 : n < 64) {k : Int → K} (hk : T B R (k ((x / 2 ^ at_ % 2 ^ n : Nat) : Int))) : T B R (c_bits_Get x at_ n k) := by
  refine T_of (bits_Get_ok x at_ n k) ?_
  (repeat' (first | with_reducible refine T_brT ?_ | with_reducible refine T_brD (fun _ => ?_) (fun _ => ?_)))
  · omega
  · omega
  · have ew : IntKind.wrap .u64 (at_ : Int) = at_ := wu64 (by omega) (by omega)
    refine T_nneg (by rw [ew]; omega) ?_
    refine bits_mask_c h0 h1 ?_
    have h2 : 2 ^ n < 2 ^ 64 := Nat.pow_lt_pow_right (by omega) h1
    rw [ew, shr_n (by omega), bit_and (Nat.lt_of_le_of_lt (Nat.div_le_self _ _) hx) (by omega), Nat.and_two_pow_sub_one_eq_mod]
    exact hk
theorem bits_Put_c {w at_ n x : Nat} (hw : w < 2 ^ at_) (h0 : 0 < n) (h1 : at_ + n ≤ 63) (hx : x < 2 ^ n) {k : Int → K} (hk : T B R (k ((w + x * 2 ^ at_ : Nat) : Int))) : T B R (c_bits_Put w at_ n x k) := by
  refine T_of (bits_Put_ok w at_ n x k) ?_
  (repeat' (first | with_reducible refine T_brT ?_ | with_reducible refine T_brD (fun _ => ?_) (fun _ => ?_)))
  · omega
  · omega
  · have ew : IntKind.wrap .u64 (at_ : Int) = at_ := wu64 (by omega) (by omega)
    refine bits_mask_c h0 (by omega) ?_
    refine T_nneg (by rw [ew]; omega) ?_
    refine T_nneg (by rw [ew]; omega) ?_
    have h2 : 2 ^ n * 2 ^ at_ ≤ 2 ^ 63 := by rw [← Nat.pow_add]; exact Nat.pow_le_pow_right (by omega) (by omega)
    have h3 : 1 ≤ 2 ^ n := Nat.one_le_two_pow
    have hpos : 0 < 2 ^ at_ := Nat.two_pow_pos _
    have hm : (2 ^ n - 1) * 2 ^ at_ < 2 ^ 64 := by
      have : (2 ^ n - 1) * 2 ^ at_ ≤ 2 ^ n * 2 ^ at_ := Nat.mul_le_mul_right _ (by omega)
      omega
    have hxm : x * 2 ^ at_ < 2 ^ 64 := by
      have : x * 2 ^ at_ ≤ 2 ^ n * 2 ^ at_ := Nat.mul_le_mul_right _ (by omega)
      omega
    rw [ew, shl_n (by omega) hm, shl_n (by omega) hxm, bit_andNot hw (by omega) hm (Nat.dvd_mul_left _ _), bit_and hxm hm]
    have hw64 : w < 2 ^ 64 := Nat.lt_of_lt_of_le hw (Nat.pow_le_pow_right (by omega) (by omega))
    have e1 : x * 2 ^ at_ &&& (2 ^ n - 1) * 2 ^ at_ = x * 2 ^ at_ := by
      rw [← Nat.shiftLeft_eq, ← Nat.shiftLeft_eq, ← Nat.shiftLeft_and_distrib, Nat.and_two_pow_sub_one_eq_mod, Nat.mod_eq_of_lt hx]
    rw [e1, bit_or hw64 hxm]
    have e2 : w ||| x * 2 ^ at_ = w + x * 2 ^ at_ := by
      rw [Nat.or_comm, Nat.mul_comm, ← Nat.two_pow_add_eq_or_of_lt hw, Nat.add_comm, Nat.mul_comm]
    rw [e2]
    exact hk
theorem bits_Up_c {n s : Int} (hs : 0 < s) (h0 : 0 ≤ n) (h1 : n ≤ 2 ^ 60) {k : Int → K} (hk : T B R (k ((n + s - 1) / s))) : T B R (c_bits_Up n s k) := by
  refine T_of (bits_Up_ok n s k) ?_
  (repeat' (first | with_reducible refine T_brT ?_ | with_reducible refine T_brD (fun _ => ?_) (fun _ => ?_)))
  · have e : (n + s - 1) / s = 0 := Int.ediv_eq_zero_of_lt (by omega) (by omega)
    rw [e] at hk; exact hk
  · omega
  · refine T_nz (by omega) ?_
    have hd : 0 ≤ (n - 1) / s := Int.ediv_nonneg (by omega) (by omega)
    have hd2 : (n - 1) / s ≤ n - 1 := Int.ediv_le_self _ (by omega)
    rw [w64 (n := n - 1) (by omega) (by omega), Int.tdiv_eq_ediv_of_nonneg (by omega), w64 (n := (n - 1) / s) (by omega) (by omega), w64 (by omega) (by omega)]
    have e : (n + s - 1) / s = (n - 1) / s + 1 := by
      rw [show n + s - 1 = n - 1 + 1 * s from by omega, Int.add_mul_ediv_right _ _ (by omega)]
    rw [e] at hk; exact hk
end
section
open Go Go.RowKit
section
variable {B : World} {P Q R : SL} {t : K} {Pg : Program}
theorem repZ_split (z : List Value) {l c : Nat} (h : l ≤ c) : repZ z c = repZ z l ++ repZ z (c - l) := by
  unfold repZ
  rw [← List.flatten_append, List.replicate_append_replicate]
  congr 2; omega
theorem T_mkV {Tid E : TypeId} {sz : Nat} (hK : Kd Pg Tid E sz) {li ci : Int} {k : Nat → K} (h0 : 0 ≤ li) (h1 : li ≤ ci) (h2 : ci ≤ 2 ^ 40)
    (hk : ∀ b, T B (R * vec E sz ⟨some ⟨b, 0, none⟩, li.toNat, ci.toNat⟩ (repZ (zerosP Pg E) li.toNat)) (k b)) : T B R (mkS Pg E li ci k) := by
  have hsz0 : 0 < sz := by have := (okT_spec hK.ok).2; rw [hK.size] at this; omega
  refine T_mkS h0 h1 ?_ fun b => ?_
  · have h3 : bytesP Pg E * ci.toNat ≤ 64 * 2 ^ 40 := Nat.mul_le_mul hK.bytes (by omega)
    have h4 : ((bytesP Pg E * ci.toNat : Nat) : Int) = bytesP Pg E * ci := by rw [Int.natCast_mul]; congr 1; omega
    omega
  · rw [repZ_split (zerosP Pg E) (show li.toNat ≤ ci.toNat by omega)]
    have e : (repZ (zerosP Pg E) li.toNat).length = li.toNat * sz := by rw [repZ_length, hK.zlen]
    refine T_vecI (sz := sz) (s := ⟨some ⟨b, 0, none⟩, li.toNat, ci.toNat⟩) rfl e.symm ?_ ?_ (hk b)
    · rw [e, repZ_length, hK.zlen, ← Nat.add_mul]; congr 1; simp only; omega
    · unfold maxLen; simp only; omega
theorem T_rdp {x : Sl} {sz : Nat} {vs : List Value} (h : Rd P x sz vs) (ht : (x.p = none → vs = []) → T B P t) : T B P t := fun w s => ht (fun e => by
  rcases (h B w s).2.2 with h | ⟨a, h, _⟩
  · exact h.2
  · rw [e] at h; cases h) w s
theorem T_lpW {σ : Type} {body : σ → (σ → K) → K} {s0 : σ} (X : Nat → σ → SL) (φ : Nat → σ → Prop) (n0 : Nat) (hP : ∀ t, T B (X n0 s0) t → T B P t) (h0 : φ n0 s0)
    (h : ∀ n s (c : σ → K), φ n s → (∀ m s', m < n → φ m s' → T B (X m s') (c s')) → T B (X n s) (body s c)) : T B P (lp body s0) := hP _ (T_lpX X φ n0 rfl h0 h)
theorem T_end {α : Type} {x y : α} {k : α → K} (h : T B R (k x)) (hP : ∀ t, T B R t → T B P t) (e : x = y) : T B P (k y) := e ▸ hP _ h
/-- one element, of cells told -/
theorem T_app1 {Tid E : TypeId} {sz ty : Nat} (hK : Kd Pg Tid E sz) {s : Sl} {vs new : List Value} {k : Sl → K} {E' : TypeId} (hn : new.length = sz) (hsc : new.all scal = true)
    (hlen : vs.length / sz + 1 ≤ 2 ^ 40) (hk : ∀ s', T B (R * vec E sz s' (vs ++ new)) (k s')) :
    T B (R * vec E sz s vs) (alK (.cells new.toArray E') fun b => semT Pg (Builtin.append_ #[Tid, Tid] ty #[s.v, .slice (some ⟨b, 0, none⟩) 1 1]) (.one (.sc .slice)) k) := by
  refine T_al fun b => ?_
  refine T_bring (X := vec E sz s vs) (.init .last) ?_
  refine T_append (x := ⟨some ⟨b, 0, none⟩, 1, 1⟩) (new := new) hK (Rd.one Has.last (by rw [hn]; simp) (Nat.le_refl _)) hsc hlen fun s' => ?_
  exact T_dropM (hk s')
end
end
theorem kd_u8 : Kd Tryz.prog 60 5 1 := ⟨by kernel_rfl, by kernel_rfl, by kernel_rfl, by kernel_rfl, by kernel_rfl, by decide +kernel, by decide +kernel⟩
def crcTab : List Int := [0x00000000, 0x1db71064, 0x3b6e20c8, 0x26d930ac, 0x76dc4190, 0x6b6b51f4, 0x4db26158, 0x5005713c, 0xedb88320, 0xf00f9344, 0xd6d6a3e8, 0xcb61b38c, 0x9b64c2b0, 0x86d3d2d4, 0xa00ae278, 0xbdbdf21c]
def tabI (i : Int) : Int := crcTab.getD (bitI .and .u8 i 15).toNat 0
def crcB (sum b : Int) : Int :=
  bitI .xor .u32 (tabI (bitI .xor .u8 (IntKind.wrap .u8 (bitI .xor .u32 (tabI (bitI .xor .u8 (IntKind.wrap .u8 sum) b)) (shrI .u32 sum 4))) (shrI .u8 b 4)))
    (shrI .u32 (bitI .xor .u32 (tabI (bitI .xor .u8 (IntKind.wrap .u8 sum) b)) (shrI .u32 sum 4)) 4)
def crcMore (sum : Int) (l : List Int) : Int := notI .u32 (l.foldl crcB (notI .u32 sum))
def byteI (w : Int) (i : Nat) : Int := IntKind.wrap .u8 (shrI .u64 w ((8 * i : Nat) : Int))
def byteL (w : Int) : List Int := (List.range 8).map (byteI w)
def crcW (l : List Int) : Int := crcMore 0 (l.flatMap byteL)
theorem and15 (i : Int) : 0 ≤ bitI .and .u8 i 15 ∧ bitI .and .u8 i 15 < 16 := by
  have h : (BitVec.ofInt 8 i &&& BitVec.ofInt 8 15).toNat ≤ 15 := by
    rw [BitVec.toNat_and]; exact Nat.and_le_right
  show 0 ≤ IntKind.wrap .u8 ((BitVec.ofInt 8 i &&& BitVec.ofInt 8 15).toNat : Int) ∧ IntKind.wrap .u8 ((BitVec.ofInt 8 i &&& BitVec.ofInt 8 15).toNat : Int) < 16
  have e : IntKind.wrap .u8 ((BitVec.ofInt 8 i &&& BitVec.ofInt 8 15).toNat : Int) = ((BitVec.ofInt 8 i &&& BitVec.ofInt 8 15).toNat : Int) := by
    show ((BitVec.ofInt 8 i &&& BitVec.ofInt 8 15).toNat : Int) % (2 ^ 8 : Int) = _
    omega
  rw [e]; omega
section
variable {B : World} {R : SL}
theorem crc_table_c {i : Int} {k : Int → K} (hk : T B R (k (tabI i))) : T B R (c_crc_table i k) := by
  refine T_of (crc_table_ok i k) ?_
  intro w s
  have h := and15 i
  refine ⟨⟨h.1, by omega⟩, tabI i, ?_, hk w s⟩
  have hl : (bitI .and .u8 i 15).toNat < crcTab.length := by show _ < 16; omega
  have e : (#[.int .u32 0, .int .u32 498536548, .int .u32 997073096, .int .u32 651767980, .int .u32 1994146192, .int .u32 1802195444, .int .u32 1303535960, .int .u32 1342533948, .int .u32 3988292384, .int .u32 4027552580, .int .u32 3604390888, .int .u32 3412177804, .int .u32 2607071920, .int .u32 2262029012, .int .u32 2685067896, .int .u32 3183342108] : Array Value) = (crcTab.map fun n => Value.int .u32 n).toArray := by rfl
  rw [e]
  simp only [List.getElem?_toArray, List.getElem?_map, List.getElem?_eq_getElem hl, Option.map_some, tabI, List.getD_eq_getElem?_getD, Option.getD_some]
theorem crc_More_c {sum : Int} {data : Sl} {l : List Int} (hl : l.length ≤ 2 ^ 40) (hd : Rd R data 1 (l.map fun b => .int .u8 b)) {k : Int → K} (hk : T B R (k (crcMore sum l))) : T B R (c_crc_More sum data k) := by
  refine T_of (crc_More_ok sum data k) ?_
  refine T_rdlen hd fun hn => ?_
  simp only [Nat.mul_one, List.length_map] at hn
  skip
  refine T_lpX (fun _ _ => R) (fun n (s : Int × Int × Unit) => ∃ i : Nat, i ≤ l.length ∧ s.2.1 = i ∧ s.1 = (l.take i).foldl crcB (notI .u32 sum) ∧ n = l.length - i) l.length rfl ⟨0, by omega, rfl, by simp, by omega⟩ ?_
  rintro n ⟨s1, s2, u⟩ c ⟨i, hi, h1, h2, h3⟩ hc
  simp only at h1 h2
  subst h1 h2 h3
  (repeat' (with_reducible refine T_brD (fun _ => ?_) (fun _ => ?_)))
  · rename_i hlt
    simp only at hlt ⊢
    have hlt' : i < l.length := by omega
    refine T_ixV hd (by omega) (n := l[i]) (by simp [hlt']) ?_
    refine crc_table_c ?_
    refine crc_table_c ?_
    refine hc (l.length - (i + 1)) _ (by omega) ⟨i + 1, by omega, w64 (by omega) (by omega), ?_, rfl⟩
    simp only
    rw [List.take_succ_eq_append_getElem hlt', List.foldl_append]
    rfl
  · rename_i hge
    simp only at hge ⊢
    have : i = l.length := by omega
    subst this
    simp only [List.take_length]
    exact hk
theorem byteL_len (l : List Int) : (l.flatMap byteL).length = 8 * l.length := by
  induction l with
  | nil => rfl
  | cons a l ih => rw [List.flatMap_cons, List.length_append, ih]; simp [byteL]; omega
theorem bits_Bytes_c {x : Sl} {l : List Int} (hl : l.length ≤ 2 ^ 20) (hx : Rd R x 1 (l.map fun b => .int .u64 b)) {k : Sl → K}
    (hk : ∀ s, T B (R * vec 5 1 s ((l.flatMap byteL).map fun b => .int .u8 b)) (k s)) : T B R (c_bits_Bytes x k) := by
  refine T_of (bits_Bytes_ok x k) ?_
  refine T_rdlen hx fun hn => ?_
  simp only [Nat.mul_one, List.length_map] at hn
  have h8 : IntKind.wrap .i64 (8 * ((x.n : Nat) : Int)) = ((8 * l.length : Nat) : Int) := by rw [hn, w64 (by omega) (by omega)]; omega
  refine T_mkV kd_u8 (by omega) (by omega) (by omega) fun b => ?_
  refine T_lpX (fun _ s => R * vec 5 1 s.1 (((l.take s.2.1.toNat).flatMap byteL).map fun b => .int .u8 b))
    (fun n (s : Sl × Int × Unit) => ∃ i : Nat, i ≤ l.length ∧ s.2.1 = i ∧ n = l.length - i) l.length rfl ⟨0, by omega, rfl, by omega⟩ ?_
  rintro n ⟨s1, s2, u⟩ c ⟨i, hi, h1, h2⟩ hc
  simp only at h1
  subst h1 h2
  simp only [Int.toNat_natCast]
  (repeat' (with_reducible refine T_brD (fun _ => ?_) (fun _ => ?_)))
  · rename_i hlt
    have hlt' : i < l.length := by omega
    refine T_ixV hx.init (by omega) (n := l[i]) (by simp [hlt']) ?_
    refine T_lpX (fun _ s => R * vec 5 1 s.1 (((l.take i).flatMap byteL ++ (List.range s.2.1.toNat).map (byteI l[i])).map fun b => .int .u8 b))
      (fun n (s : Sl × Int × Unit) => ∃ j : Nat, j ≤ 8 ∧ s.2.1 = j ∧ n = 8 - j) 8 (by simp) ⟨0, by omega, rfl, by omega⟩ ?_
    rintro n ⟨s1, s2, u⟩ c' ⟨j, hj, h1, h2⟩ hc'
    simp only at h1
    subst h1 h2
    simp only [Int.toNat_natCast]
    (repeat' (with_reducible refine T_brD (fun _ => ?_) (fun _ => ?_)))
    · rename_i hj8
      have e1 : IntKind.wrap .i64 (8 * ((j : Nat) : Int)) = ((8 * j : Nat) : Int) := by rw [w64 (by omega) (by omega)]; omega
      have e2 : IntKind.wrap .u64 (IntKind.wrap .i64 (8 * ((j : Nat) : Int))) = ((8 * j : Nat) : Int) := by rw [e1, wu64 (by omega) (by omega)]
      refine T_nneg (by omega) ?_
      refine T_app1 (new := [.int .u8 (IntKind.wrap .u8 (shrI .u64 l[i] (IntKind.wrap .u64 (IntKind.wrap .i64 (8 * (j : Int))))))]) kd_u8 rfl rfl ?_ fun s' => ?_
      · have := byteL_len (l.take i)
        simp only [List.length_map, List.length_append, List.length_range, List.length_take, Nat.div_one] at this ⊢
        omega
      · refine T.perm ?_ (hc' (8 - (j + 1)) (s', IntKind.wrap .i64 ((j : Int) + 1), ()) (by omega) ⟨j + 1, by omega, w64 (by omega) (by omega), rfl⟩)
        have e : (IntKind.wrap .i64 ((j : Int) + 1)).toNat = j + 1 := by rw [w64 (by omega) (by omega)]; omega
        simp only [e, List.range_succ, List.map_append, List.map_cons, List.map_nil, List.append_assoc]
        unfold byteI
        rw [e2]
    · rename_i hj8
      have : j = 8 := by omega
      subst this
      refine T.perm ?_ (hc (l.length - (i + 1)) (s1, IntKind.wrap .i64 (i + 1), ()) (by omega) ⟨i + 1, by omega, w64 (by omega) (by omega), rfl⟩)
      have e : (IntKind.wrap .i64 ((i : Int) + 1)).toNat = i + 1 := by rw [w64 (by omega) (by omega)]; omega
      simp only [e]
      rw [List.take_succ_eq_append_getElem hlt', List.flatMap_append]
      simp [byteL]
  · rename_i hge
    have : i = l.length := by omega
    subst this
    simp only [List.take_length]
    exact hk s1
theorem crc_Words_c {x : Sl} {l : List Int} (hl : l.length ≤ 2 ^ 20) (hx : Rd R x 1 (l.map fun b => .int .u64 b)) {k : Int → K}
    (hk : T B R (k (crcW l))) : T B R (c_crc_Words x k) := by
  refine T_of (crc_Words_ok x k) ?_
  refine bits_Bytes_c hl hx fun s => ?_
  refine T_of (crc_Sum_ok s _) ?_
  refine crc_More_c (l := l.flatMap byteL) ?_ (Rd.vec Frm.last) ?_
  · rw [byteL_len]; omega
  · exact hk.weak
end
theorem wu32' (n : Int) : IntKind.wrap .u32 n = n % 4294967296 := by
  unfold IntKind.wrap
  simp only [IntKind.bits, IntKind.signed, Bool.false_and, Bool.false_eq_true, if_false]
  rfl
theorem notI_rng (x : Int) : 0 ≤ notI .u32 x ∧ notI .u32 x < 4294967296 := by
  unfold notI bitI
  simp only [wu32']
  omega
theorem crcW_rng (l : List Int) : 0 ≤ crcW l ∧ crcW l < 4294967296 := notI_rng _
def sealI (n place : Int) : Int := n + 4294967296 * crcW [n, IntKind.wrap .u64 place]
theorem sealI_rng {n p : Int} (h0 : 0 ≤ n) (h1 : n < 4294967296) : 0 ≤ sealI n p ∧ sealI n p < 18446744073709551616 ∧ sealI n p % 4294967296 = n := by
  have := crcW_rng [n, IntKind.wrap .u64 p]
  unfold sealI; omega
section
variable {B : World} {R : SL}
theorem crc_Seal_c {n p : Int} (h0 : 0 ≤ n) (h1 : n < 4294967296) {k : Int → K} (hk : T B R (k (sealI n p))) : T B R (c_crc_Seal n p k) := by
  refine T_of (crc_Seal_ok n p k) ?_
  (repeat ((with_reducible refine T_al ?_; intro _)))
  rename_i b
  rw [wu64 h0 (by omega)]
  refine crc_Words_c (l := [n, IntKind.wrap .u64 p]) (by simp) (Rd.one Has.last rfl (Nat.le_refl _)) ?_
  have hc := crcW_rng [n, IntKind.wrap .u64 p]
  obtain ⟨c, hc'⟩ : ∃ c : Nat, crcW [n, IntKind.wrap .u64 p] = c := ⟨_, (Int.toNat_of_nonneg hc.1).symm⟩
  obtain ⟨m, rfl⟩ : ∃ m : Nat, n = m := ⟨_, (Int.toNat_of_nonneg h0).symm⟩
  unfold sealI at hk
  rw [hc'] at hc hk ⊢
  rw [wu64 (n := (c : Int)) (by omega) (by omega)]
  have hlt : c * 2 ^ 32 < 2 ^ 64 := by show c * 4294967296 < 18446744073709551616; omega
  have hm : m < 2 ^ 32 := by show m < 4294967296; omega
  have e1 : shlI .u64 (c : Int) 32 = ((c * 2 ^ 32 : Nat) : Int) := shl_n (s := 32) (by decide) hlt
  have e2 : c * 2 ^ 32 ||| m = c * 2 ^ 32 + m := by
    rw [Nat.mul_comm, ← Nat.two_pow_add_eq_or_of_lt hm]
  rw [e1, bit_or hlt (by omega), e2]
  have e3 : ((c * 2 ^ 32 + m : Nat) : Int) = (m : Int) + 4294967296 * c := by
    show ((c * 4294967296 + m : Nat) : Int) = _
    omega
  rw [e3]
  exact hk.weak
def openI (w p : Int) : Int × Bool := if sealI (w % 4294967296) p = w then (w % 4294967296, true) else (0, false)
theorem crc_Open_c {w p : Int} {k : Int × Bool → K} (hk : T B R (k (openI w p))) : T B R (c_crc_Open w p k) := by
  refine T_of (crc_Open_ok w p k) ?_
  unfold openI at hk
  refine crc_Seal_c (by rw [wu32']; omega) (by rw [wu32']; omega) ?_
  rw [wu32']
  (repeat' (with_reducible refine T_brNE (fun _ => ?_) (fun _ => ?_)))
  · rename_i h; rw [if_neg h] at hk; exact hk
  · rename_i h; rw [if_pos h] at hk; exact hk
/-! headers of blocks: kind, class, length -/
abbrev Hd := Int × Int × Int
def hRight (h : Hd) : Prop := (h = (0, 0, 0)) ∨ (h.1 = 1 ∧ 0 ≤ h.2.1 ∧ h.2.1 < 32 ∧ h.2.2 = 0) ∨ ((h.1 = 2 ∨ h.1 = 3) ∧ h.2.1 = 0 ∧ 1 ≤ h.2.2 ∧ h.2.2 < 256)
instance (h : Hd) : Decidable (hRight h) := by unfold hRight; infer_instance
theorem bhead_Right_c {h : Hd} {k : Bool → K} (hk : T B R (k (decide (hRight h)))) : T B R (c_bhead_Header_Right h k) := by
  refine T_of (bhead_Header_Right_ok h k) ?_
  obtain ⟨a, b, c⟩ := h
  (repeat' (first | ((with_reducible apply T_ldI); (focus rfl); (focus exact hasA); (focus rfl)) | (with_reducible refine T_al ?_; intro _) | with_reducible refine T_brD (fun _ => ?_) (fun _ => ?_) | with_reducible refine T_brE (fun _ => ?_) (fun _ => ?_)))
  case ht.refine_2.refine_1.ht =>
    refine class_Right_c ?_
    (repeat' (first | ((with_reducible apply T_ldI); (focus rfl); (focus exact hasA); (focus rfl)) | with_reducible refine T_brD (fun _ => ?_) (fun _ => ?_)))
    all_goals
      (refine T_end hk (by intro t h; repeat (first | exact h | refine T.weak ?_)) ?_)
      rw [Bool.eq_iff_iff]
      simp only [hRight, decide_eq_true_eq, beq_iff_eq, Prod.mk.injEq, Bool.false_eq_true] at *
      first | omega | (constructor <;> (intro h'; first | omega | (rcases h' with h' | h' | h' <;> omega))) 
  all_goals
    (refine T_end hk (by intro t h; repeat (first | exact h | refine T.weak ?_)) ?_)
    rw [Bool.eq_iff_iff]
    simp only [hRight, decide_eq_true_eq, Bool.and_eq_true, beq_iff_eq, Prod.mk.injEq, Bool.false_eq_true, and_true] at *
    first | omega | (constructor <;> (intro h'; first | omega | (rcases h' with h' | h' | h' <;> omega))) 
def hNum (h : Hd) : Int := h.1 + h.2.1 * 4 + h.2.2 * 256
def benc (b : Int) (h : Hd) : Int := if hRight h then sealI (hNum h) (256 + b) else 0
theorem hRight_rng {h : Hd} (r : hRight h) : 0 ≤ h.1 ∧ h.1 < 4 ∧ 0 ≤ h.2.1 ∧ h.2.1 < 64 ∧ 0 ≤ h.2.2 ∧ h.2.2 < 65536 := by
  obtain ⟨a, b, c⟩ := h
  simp only [hRight, Prod.mk.injEq] at *
  omega
theorem bits_Put_i {w at_ n x r : Int} (h : 0 ≤ w ∧ 0 ≤ x ∧ 0 ≤ at_ ∧ 0 ≤ n) (hw : w < 2 ^ at_.toNat) (h0 : 0 < n) (h1 : at_ + n ≤ 63) (hx : x < 2 ^ n.toNat) (hr : r = w + x * 2 ^ at_.toNat) {k : Int → K} (hk : T B R (k r)) : T B R (c_bits_Put w at_ n x k) := by
  obtain ⟨hw0, hx0, ha0, hn0⟩ := h
  obtain ⟨w, rfl⟩ := Int.eq_ofNat_of_zero_le hw0
  obtain ⟨x, rfl⟩ := Int.eq_ofNat_of_zero_le hx0
  obtain ⟨a, rfl⟩ := Int.eq_ofNat_of_zero_le ha0
  obtain ⟨n, rfl⟩ := Int.eq_ofNat_of_zero_le hn0
  simp only [Int.toNat_natCast] at *
  refine bits_Put_c (by exact_mod_cast hw) (by omega) (by omega) (by exact_mod_cast hx) ?_
  rw [hr] at hk
  have e : ((w + x * 2 ^ a : Nat) : Int) = (w : Int) + x * 2 ^ a := by rw [Int.natCast_add, Int.natCast_mul, Int.natCast_pow]; rfl
  rw [e]; exact hk
theorem bits_Get_i {x at_ n r : Int} (h : 0 ≤ x ∧ 0 ≤ at_ ∧ 0 < n) (hx : x < 18446744073709551616) (ha : at_ < 64) (h1 : n < 64) (hr : r = x / 2 ^ at_.toNat % 2 ^ n.toNat) {k : Int → K} (hk : T B R (k r)) : T B R (c_bits_Get x at_ n k) := by
  obtain ⟨hx0, ha0, hn0⟩ := h
  obtain ⟨x, rfl⟩ := Int.eq_ofNat_of_zero_le hx0
  obtain ⟨a, rfl⟩ := Int.eq_ofNat_of_zero_le ha0
  obtain ⟨n, rfl⟩ := Int.eq_ofNat_of_zero_le (Int.le_of_lt hn0)
  simp only [Int.toNat_natCast] at *
  refine bits_Get_c (by omega) (by omega) (by omega) (by omega) ?_
  rw [hr] at hk
  have e : ((x / 2 ^ a % 2 ^ n : Nat) : Int) = (x : Int) / 2 ^ a % 2 ^ n := by rw [Int.natCast_emod, Int.natCast_ediv, Int.natCast_pow, Int.natCast_pow]; rfl
  rw [e]; exact hk
theorem bhead_Encode_c {b : Int} {h : Hd} (hb : 0 ≤ b) (hb2 : b ≤ 2 ^ 40) {k : Int → K} (hk : T B R (k (benc b h))) : T B R (c_bhead_Encode b h k) := by
  refine T_of (bhead_Encode_ok b h k) ?_
  (repeat (first | ((with_reducible apply T_ldI); (focus rfl); (focus exact hasA); (focus rfl)) | (with_reducible refine T_al ?_; intro _)))
  refine bhead_Right_c ?_
  unfold benc at hk
  (repeat' (first | ((with_reducible apply T_ldI); (focus rfl); (focus exact hasA); (focus rfl)) | with_reducible refine T_brD (fun _ => ?_) (fun _ => ?_) | with_reducible refine T_brN ?_))
  · rename_i hr
    rw [if_pos hr] at hk
    have hg := hRight_rng hr
    (dsimp only [bhead_Encode, Zay0, Zay1, Zay2, Zay3, Zay4, Zay5, Zay6, Zay7])
    simp only at hg
    rw [wu64 (by omega) (by omega)]
    refine bits_Put_i (r := h.1) (by omega) (by decide) (by omega) (by omega) (by show h.1 < 4; omega) (by show h.1 = 0 + h.1 * 1; omega) ?_
    (repeat (((with_reducible apply T_ldI); (focus rfl); (focus exact hasA); (focus rfl))))
    rw [wu64 (by omega) (by omega)]
    refine bits_Put_i (r := h.1 + h.2.1 * 4) (by omega) (by show h.1 < 4; omega) (by omega) (by omega) (by show h.2.1 < 64; omega) rfl ?_
    (repeat (((with_reducible apply T_ldI); (focus rfl); (focus exact hasA); (focus rfl))))
    rw [wu64 (by omega) (by omega)]
    refine bits_Put_i (r := hNum h) (by omega) (by show h.1 + h.2.1 * 4 < 256; omega) (by omega) (by omega) (by show h.2.2 < 65536; omega) rfl ?_
    have hn : 0 ≤ hNum h ∧ hNum h < 4294967296 := by unfold hNum; omega
    rw [wu32', Int.emod_eq_of_lt hn.1 hn.2, w64 (by omega) (by omega)]
    refine crc_Seal_c hn.1 hn.2 ?_
    exact hk.weak
  · rename_i hr
    rw [if_neg hr] at hk
    exact hk.weak
def bnum (x : Int) : Hd := (x % 4, x / 4 % 64, x / 256 % 65536)
def bdec (b w : Int) : Hd × Int := if sealI (w % 4294967296) (256 + b) = w then (if benc b (bnum (w % 4294967296)) = w then (bnum (w % 4294967296), 0) else ((0, 0, 0), 26)) else ((0, 0, 0), 25)
theorem bhead_Decode_c {b w : Int} (hb : 0 ≤ b) (hb2 : b ≤ 2 ^ 40) {k : Hd × Int → K} (hk : T B R (k (bdec b w))) : T B R (c_bhead_Decode b w k) := by
  refine T_of (bhead_Decode_ok b w k) ?_
  (repeat ((with_reducible refine T_al ?_; intro _)))
  (dsimp only [bhead_Decode, Zas0, Zas1, Zas2, Zas3, Zas4, Zas5, Zas6, Zas7, Zas8, Zas9, Zas10, Zas11])
  rw [w64 (by omega) (by omega)]
  refine crc_Open_c ?_
  unfold bdec at hk
  unfold openI
  split
  · rename_i ho
    rw [if_pos ho] at hk
    skip
    have hm : 0 ≤ w % 4294967296 ∧ w % 4294967296 < 4294967296 := by omega
    generalize w % 4294967296 = x at *
    rw [wu64 (by omega) (by omega)]
    refine bits_Get_i (r := x % 4) (by omega) (by omega) (by omega) (by omega) (by show x % 4 = x / 1 % 4; rw [Int.ediv_one]) ?_
    refine bits_Get_i (r := x / 4 % 64) (by omega) (by omega) (by omega) (by omega) rfl ?_
    refine bits_Get_i (r := x / 256 % 65536) (by omega) (by omega) (by omega) (by omega) rfl ?_
    rw [w64 (by omega) (by omega), w64 (by omega) (by omega), w64 (by omega) (by omega)]
    (repeat (first | ((with_reducible apply T_ldI); (focus rfl); (focus exact hasA); (focus rfl)) | (with_reducible refine T_al ?_; intro _) | ((with_reducible apply T_st); (focus rfl); (focus exact updA); (focus simp); simp only [List.set, Nat.zero_add, Nat.reduceAdd])))
    refine bhead_Encode_c hb hb2 ?_
    (repeat' (first | ((with_reducible apply T_ldI); (focus rfl); (focus exact hasA); (focus rfl)) | ((with_reducible apply T_st); (focus rfl); (focus exact updA); (focus simp); simp only [List.set, Nat.zero_add, Nat.reduceAdd]) | with_reducible refine T_brNE (fun _ => ?_) (fun _ => ?_)))
    · rename_i hne
      (refine T_end hk (by intro t h; repeat (first | exact h | refine T.weak ?_)) ?_)
      exact if_neg hne
    · rename_i he
      (refine T_end hk (by intro t h; repeat (first | exact h | refine T.weak ?_)) ?_)
      exact if_pos he
  · rename_i ho
    rw [if_neg ho] at hk
    (repeat' (first | with_reducible refine T_brF ?_ | ((with_reducible apply T_ldI); (focus rfl); (focus exact hasA); (focus rfl)) | ((with_reducible apply T_st); (focus rfl); (focus exact updA); (focus simp); simp only [List.set, Nat.zero_add, Nat.reduceAdd]) | with_reducible refine T_brN ?_))
    (refine T_end hk (by intro t h; repeat (first | exact h | refine T.weak ?_)) ?_)
    rfl
end
theorem bdec_benc {b : Int} {h : Hd} (r : hRight h) : bdec b (benc b h) = (h, 0) := by
  have hg := hRight_rng r
  obtain ⟨a, c, d⟩ := h
  simp only at hg
  have hn : 0 ≤ hNum (a, c, d) ∧ hNum (a, c, d) < 4294967296 := by unfold hNum; simp only; omega
  have e : bnum (hNum (a, c, d)) = (a, c, d) := by
    unfold bnum hNum; simp only [Prod.mk.injEq]; omega
  have hb : benc b (a, c, d) = sealI (hNum (a, c, d)) (256 + b) := by unfold benc; rw [if_pos r]
  unfold bdec
  rw [hb, (sealI_rng hn.1 hn.2).2.2, if_pos rfl, e, hb, if_pos rfl]
section
set_option maxRecDepth 100000
abbrev Zbp0 (k : (Int → K)) (x2 : Int) : K :=
  k x2
abbrev Zbp1 (k : (Int → K)) (o_1 : Addr) : K :=
  ldI .i64 (o_1.add 0) fun x22 =>
  ldI .i64 (o_1.add 1) fun x25 =>
  Zbp0 k (IntKind.wrap .i64 ((IntKind.wrap .i64 (1 + x22)) + x25))
abbrev Zbp2 (k : (Int → K)) (x2_1 : Int) : K :=
  k x2_1
abbrev Zbp3 (k : (Int → K)) (o_1 : Addr) (x20 : Bool) : K :=
  brK x20
  (Zbp2 k 0)
  (Zbp1 k o_1)
abbrev Zbp4 (k : (Int → K)) (o_1 : Addr) : K :=
  ldI .i64 (o_1.add 0) fun x4 =>
  brK (decide (x4 < 0))
  (Zbp3 k o_1 true)
  (ldI .i64 (o_1.add 0) fun x8 =>
  brK (decide (x8 > 63))
  (Zbp3 k o_1 true)
  (ldI .i64 (o_1.add 1) fun x13 =>
  brK (decide (x13 < 0))
  (Zbp3 k o_1 true)
  (ldI .i64 (o_1.add 1) fun x18 =>
  Zbp3 k o_1 (decide (x18 > 16384)))))
abbrev ref08_Size (o : (Int × Int)) : M Int := fun k =>
  alK (.cells #[.int .i64 o.1, .int .i64 o.2] 74) fun b =>
  Zbp4 k ⟨b, 0, none⟩
theorem ref08_Size_ok (o : (Int × Int)) (k : Int → K) (w : World) (hyp_ : ref08_Size o k w) : c_ref08_Size o k w :=
  cl_of (P := Tryz.prog) Tryz.func34 rfl (by kernel_rfl)
  (Qs [(1, .addr)] [] (fun z_ => Zbp4 k z_.1)
  Qz
  (fun ⟨o_1, _⟩ => Qs [] [1] (fun z_ => Zbp1 k o_1)
  (Qs [(20, .bool)] [1] (fun z_ => Zbp3 k o_1 z_.1)
  (Qp [3, 8, 13])
  (fun ⟨x20, _⟩ => Qc (x20) (Zbp2 k 0) (Zbp1 k o_1) (Qs [(2, .int .i64)] [] (fun z_ => Zbp2 k z_.1)
  Qz
  (fun ⟨x2_1, _⟩ => Qr)) Qk))
  (fun _ => Qs [(2, .int .i64)] [] (fun z_ => Zbp0 k z_.1)
  Qz
  (fun ⟨x2, _⟩ => Qr)))) hyp_
abbrev Zbq0 (k : (Sl → K)) (x6 : Sl) : K :=
  k x6
abbrev Zbq1 (k : (Sl → K)) (x7_1 : Sl) : K :=
  Zbq0 k x7_1
abbrev Zbq2 (x8_1 : Int) (c : ((Sl × Int × Unit) → K)) (x7_3 : Sl) : K :=
  c (x7_3, (IntKind.wrap .i64 (x8_1 + 1)), ())
abbrev Zbq3 (x9_1 : Int) (c_1 : ((Sl × Int × Unit) → K)) (x7_5 : Sl) : K :=
  c_1 (x7_5, (IntKind.wrap .i64 (x9_1 + 1)), ())
abbrev Zbq4 (x7_4 : Sl) (x9_1 : Int) (c_1 : ((Sl × Int × Unit) → K)) (x10 : Int) : K :=
  alK (.cells #[.int .i64 x10] 3) fun b =>
  semT Tryz.prog (Builtin.append_ #[27, 27] 27 #[x7_4.v, .slice (some ⟨b, 0, none⟩) 1 1]) (.one (.sc (.slice))) fun x69 =>
  Zbq3 x9_1 c_1 x69
abbrev Zbq5 (x7_4 : Sl) (x9_1 : Int) (c_1 : ((Sl × Int × Unit) → K)) (x10 : Int) (x65 : Bool) : K :=
  brK x65
  (Zbq4 x7_4 x9_1 c_1 x10)
  (Zbq3 x9_1 c_1 x7_4)
abbrev Zbq6 (x7_4 : Sl) (x9_1 : Int) (c_1 : ((Sl × Int × Unit) → K)) (x10 : Int) (x11_1 : Bool) : K :=
  Zbq5 x7_4 x9_1 c_1 x10 (!x11_1)
abbrev Zbq7 (x12_1 : Int) (c_2 : ((Bool × Int × Unit) → K)) (x11_3 : Bool) : K :=
  c_2 (x11_3, (IntKind.wrap .i64 (x12_1 + 1)), ())
abbrev Zbq8 (x2 : Sl) (x10 : Int) (x11_2 : Bool) (x12_1 : Int) (c_2 : ((Bool × Int × Unit) → K)) : K :=
  brK x11_2
  (Zbq7 x12_1 c_2 true)
  (ixS x2.p x2.n x12_1 1 fun x59 =>
  ldI .i64 x59 fun x60 =>
  Zbq7 x12_1 c_2 (x60 == x10))
abbrev Zbq9 (x2 : Sl) (x7_4 : Sl) (x9_1 : Int) (c_1 : ((Sl × Int × Unit) → K)) (x10 : Int) (x11_2 : Bool) (x12_1 : Int) (c_2 : ((Bool × Int × Unit) → K)) (x52 : Bool) : K :=
  brK x52
  (Zbq8 x2 x10 x11_2 x12_1 c_2)
  (Zbq6 x7_4 x9_1 c_1 x10 x11_2)
abbrev Zbq10 (x2 : Sl) (x7_4 : Sl) (x9_1 : Int) (c_1 : ((Sl × Int × Unit) → K)) (x10 : Int) (x11_2 : Bool) (x12_1 : Int) (c_2 : ((Bool × Int × Unit) → K)) : K :=
  Zbq9 x2 x7_4 x9_1 c_1 x10 x11_2 x12_1 c_2 (decide (x12_1 < ((x2.n : Nat) : Int)))
abbrev Zbq11 (x2 : Sl) (x7_4 : Sl) (x9_1 : Int) (c_1 : ((Sl × Int × Unit) → K)) (x10 : Int) (x11 : Bool) (x12 : Int) : K :=
  lp (fun (z_ : (Bool × Int × Unit)) c_ => Zbq10 x2 x7_4 x9_1 c_1 x10 z_.1 z_.2.1 c_) (x11, x12, ())
abbrev Zbq12 (x2 : Sl) (x7_4 : Sl) (x9_1 : Int) (c_1 : ((Sl × Int × Unit) → K)) (x10 : Int) (x11 : Bool) : K :=
  Zbq11 x2 x7_4 x9_1 c_1 x10 x11 0
abbrev Zbq13 (x2 : Sl) (x7_4 : Sl) (x9_1 : Int) (c_1 : ((Sl × Int × Unit) → K)) (x10 : Int) : K :=
  Zbq12 x2 x7_4 x9_1 c_1 x10 false
abbrev Zbq14 (x1 : Int) (x2 : Sl) (x8_1 : Int) (x7_4 : Sl) (x9_1 : Int) (c_1 : ((Sl × Int × Unit) → K)) : K :=
  c_ref06_Words x1 fun x46 =>
  Zbq13 x2 x7_4 x9_1 c_1 (IntKind.wrap .i64 ((IntKind.wrap .i64 (512 * x8_1)) + (IntKind.wrap .i64 (x9_1 * x46))))
abbrev Zbq15 (x1 : Int) (x2 : Sl) (x8_1 : Int) (c : ((Sl × Int × Unit) → K)) (x7_4 : Sl) (x9_1 : Int) (c_1 : ((Sl × Int × Unit) → K)) (x39 : Bool) : K :=
  brK x39
  (Zbq14 x1 x2 x8_1 x7_4 x9_1 c_1)
  (Zbq2 x8_1 c x7_4)
abbrev Zbq16 (x0 : Sl) (x1 : Int) (x2 : Sl) (x8_1 : Int) (c : ((Sl × Int × Unit) → K)) (x7_4 : Sl) (x9_1 : Int) (c_1 : ((Sl × Int × Unit) → K)) : K :=
  ixS x0.p x0.n x8_1 3 fun x21 =>
  ldI .i64 (x21.add 0) fun x23 =>
  brK (x23 == 1)
  (ixS x0.p x0.n x8_1 3 fun x28 =>
  ldI .i64 (x28.add 1) fun x30 =>
  brK (x30 == x1)
  (c_ref06_Cells x1 fun x37 =>
  Zbq15 x1 x2 x8_1 c x7_4 x9_1 c_1 (decide (x9_1 < x37)))
  (Zbq15 x1 x2 x8_1 c x7_4 x9_1 c_1 false))
  (Zbq15 x1 x2 x8_1 c x7_4 x9_1 c_1 false)
abbrev Zbq17 (x0 : Sl) (x1 : Int) (x2 : Sl) (x7_2 : Sl) (x8_1 : Int) (c : ((Sl × Int × Unit) → K)) (x9 : Int) : K :=
  lp (fun (z_ : (Sl × Int × Unit)) c_ => Zbq16 x0 x1 x2 x8_1 c z_.1 z_.2.1 c_) (x7_2, x9, ())
abbrev Zbq18 (x0 : Sl) (x1 : Int) (x2 : Sl) (k : (Sl → K)) (x7_2 : Sl) (x8_1 : Int) (c : ((Sl × Int × Unit) → K)) (x16 : Bool) : K :=
  brK x16
  (Zbq17 x0 x1 x2 x7_2 x8_1 c 0)
  (Zbq1 k x7_2)
abbrev Zbq19 (x0 : Sl) (x1 : Int) (x2 : Sl) (k : (Sl → K)) (x7_2 : Sl) (x8_1 : Int) (c : ((Sl × Int × Unit) → K)) : K :=
  Zbq18 x0 x1 x2 k x7_2 x8_1 c (decide (x8_1 < ((x0.n : Nat) : Int)))
abbrev Zbq20 (x0 : Sl) (x1 : Int) (x2 : Sl) (k : (Sl → K)) (x7 : Sl) (x8 : Int) : K :=
  lp (fun (z_ : (Sl × Int × Unit)) c_ => Zbq19 x0 x1 x2 k z_.1 z_.2.1 c_) (x7, x8, ())
abbrev Zbq21 (x0 : Sl) (x1 : Int) (x2 : Sl) (k : (Sl → K)) (x7 : Sl) : K :=
  Zbq20 x0 x1 x2 k x7 1
abbrev ref16_Free (x0 : Sl) (x1 : Int) (x2 : Sl) : M Sl := fun k =>
  Zbq21 x0 x1 x2 k ⟨none, 0, 0⟩
theorem ref16_Free_ok (x0 : Sl) (x1 : Int) (x2 : Sl) (k : Sl → K) (w : World) (hyp_ : ref16_Free x0 x1 x2 k w) : c_ref16_Free x0 x1 x2 k w :=
  cl_of (P := Tryz.prog) Tryz.func51 rfl (by kernel_rfl)
  (Qs [] [0, 1, 2] (fun z_ => Zbq21 x0 x1 x2 k ⟨none, 0, 0⟩)
  Qz
  (fun _ => Qs [(7, .slice)] [0, 1, 2] (fun z_ => Zbq21 x0 x1 x2 k z_.1)
  Qz
  (fun ⟨x7, _⟩ => Qs [(7, .slice)] [] (fun z_ => Zbq1 k z_.1)
  (Qs [(8, .int .i64)] [0, 1, 2, 7] (fun z_ => Zbq20 x0 x1 x2 k x7 z_.1)
  Qz
  (fun ⟨x8, _⟩ => Qb (Ql [(7, .slice), (8, .int .i64)] [0, 1, 2] (fun (z_ : (Sl × Int × Unit)) c_ => Zbq19 x0 x1 x2 k z_.1 z_.2.1 c_) (x7, x8, ())
  (fun ⟨x7_2, x8_1, _⟩ c => Qs [] [0, 1, 2, 7, 8] (fun z_ => Zbq17 x0 x1 x2 x7_2 x8_1 c 0)
  (Qs [(16, .bool)] [0, 1, 2, 7, 8] (fun z_ => Zbq18 x0 x1 x2 k x7_2 x8_1 c z_.1)
  Qz
  (fun ⟨x16, _⟩ => Qc (x16) (Zbq17 x0 x1 x2 x7_2 x8_1 c 0) (Zbq1 k x7_2) Qk Qx))
  (fun _ => Qs [(7, .slice)] [0, 1, 2, 8] (fun z_ => Zbq2 x8_1 c z_.1)
  (Qb (Qs [(9, .int .i64)] [0, 1, 2, 7, 8] (fun z_ => Zbq17 x0 x1 x2 x7_2 x8_1 c z_.1)
  Qz
  (fun ⟨x9, _⟩ => Qb (Ql [(7, .slice), (9, .int .i64)] [0, 1, 2, 8] (fun (z_ : (Sl × Int × Unit)) c_ => Zbq16 x0 x1 x2 x8_1 c z_.1 z_.2.1 c_) (x7_2, x9, ())
  (fun ⟨x7_4, x9_1, _⟩ c_1 => Qs [] [0, 1, 2, 7, 8, 9] (fun z_ => Zbq14 x1 x2 x8_1 x7_4 x9_1 c_1)
  (Qs [(39, .bool)] [0, 1, 2, 7, 8, 9] (fun z_ => Zbq15 x1 x2 x8_1 c x7_4 x9_1 c_1 z_.1)
  (Qp [6, 15])
  (fun ⟨x39, _⟩ => Qc (x39) (Zbq14 x1 x2 x8_1 x7_4 x9_1 c_1) (Zbq2 x8_1 c x7_4) Qk Qx))
  (fun _ => Qs [(7, .slice)] [0, 1, 2, 8, 9] (fun z_ => Zbq3 x9_1 c_1 z_.1)
  (Qb (Qs [(10, .int .i64)] [0, 1, 2, 7, 8, 9] (fun z_ => Zbq13 x2 x7_4 x9_1 c_1 z_.1)
  Qz
  (fun ⟨x10, _⟩ => Qs [(11, .bool)] [0, 1, 2, 7, 8, 9, 10] (fun z_ => Zbq12 x2 x7_4 x9_1 c_1 x10 z_.1)
  Qz
  (fun ⟨x11, _⟩ => Qs [(11, .bool)] [0, 1, 2, 7, 8, 9, 10] (fun z_ => Zbq6 x7_4 x9_1 c_1 x10 z_.1)
  (Qs [(12, .int .i64)] [0, 1, 2, 7, 8, 9, 10, 11] (fun z_ => Zbq11 x2 x7_4 x9_1 c_1 x10 x11 z_.1)
  Qz
  (fun ⟨x12, _⟩ => Qb (Ql [(11, .bool), (12, .int .i64)] [0, 1, 2, 7, 8, 9, 10] (fun (z_ : (Bool × Int × Unit)) c_ => Zbq10 x2 x7_4 x9_1 c_1 x10 z_.1 z_.2.1 c_) (x11, x12, ())
  (fun ⟨x11_2, x12_1, _⟩ c_2 => Qs [] [0, 1, 2, 7, 8, 9, 10, 11, 12] (fun z_ => Zbq8 x2 x10 x11_2 x12_1 c_2)
  (Qs [(52, .bool)] [0, 1, 2, 7, 8, 9, 10, 11, 12] (fun z_ => Zbq9 x2 x7_4 x9_1 c_1 x10 x11_2 x12_1 c_2 z_.1)
  Qz
  (fun ⟨x52, _⟩ => Qc (x52) (Zbq8 x2 x10 x11_2 x12_1 c_2) (Zbq6 x7_4 x9_1 c_1 x10 x11_2) Qk Qx))
  (fun _ => Qs [(11, .bool)] [0, 1, 2, 7, 8, 9, 10, 12] (fun z_ => Zbq7 x12_1 c_2 z_.1)
  (Qb (Qp [1]))
  (fun ⟨x11_3, _⟩ => Qz))))))
  (fun ⟨x11_1, _⟩ => Qs [(65, .bool)] [0, 1, 2, 7, 8, 9, 10] (fun z_ => Zbq5 x7_4 x9_1 c_1 x10 z_.1)
  Qz
  (fun ⟨x65, _⟩ => Qc (x65) (Zbq4 x7_4 x9_1 c_1 x10) (Zbq3 x9_1 c_1 x7_4) Qz Qk))))))
  (fun ⟨x7_5, _⟩ => Qz)))))))
  (fun ⟨x7_3, _⟩ => Qz))))))
  (fun ⟨x7_1, _⟩ => Qs [(6, .slice)] [] (fun z_ => Zbq0 k z_.1)
  Qz
  (fun ⟨x6, _⟩ => Qr))))) hyp_
abbrev Zbr0 (k : (Int → K)) (x2 : Int) : K :=
  k x2
abbrev Zbr1 (k_1 : Int) (k : (Int → K)) : K :=
  c_ref06_Sizes fun x9 =>
  ixS x9.p x9.n k_1 1 fun x11 =>
  ldI .i64 x11 fun x12 =>
  Zbr0 k x12
abbrev Zbr2 (k : (Int → K)) (x2_1 : Int) : K :=
  k x2_1
abbrev Zbr3 (k_1 : Int) (k : (Int → K)) (x8 : Bool) : K :=
  brK x8
  (Zbr2 k 0)
  (Zbr1 k_1 k)
abbrev Zbr4 (k_1 : Int) (k : (Int → K)) : K :=
  brK (decide (k_1 < 0))
  (Zbr3 k_1 k true)
  (Zbr3 k_1 k (decide (k_1 ≥ 32)))
abbrev ref06_Words (k_1 : Int) : M Int := fun k =>
  Zbr4 k_1 k
theorem ref06_Words_ok (k_1 : Int) (k : Int → K) (w : World) (hyp_ : ref06_Words k_1 k w) : c_ref06_Words k_1 k w :=
  cl_of (P := Tryz.prog) Tryz.func52 rfl (by kernel_rfl)
  (Qs [] [0] (fun z_ => Zbr4 k_1 k)
  Qz
  (fun _ => Qs [] [0] (fun z_ => Zbr1 k_1 k)
  (Qs [(8, .bool)] [0] (fun z_ => Zbr3 k_1 k z_.1)
  (Qp [2])
  (fun ⟨x8, _⟩ => Qc (x8) (Zbr2 k 0) (Zbr1 k_1 k) (Qs [(2, .int .i64)] [] (fun z_ => Zbr2 k z_.1)
  Qz
  (fun ⟨x2_1, _⟩ => Qr)) Qk))
  (fun _ => Qs [(2, .int .i64)] [] (fun z_ => Zbr0 k z_.1)
  Qz
  (fun ⟨x2, _⟩ => Qr)))) hyp_
abbrev Zbs0 (k : (Int → K)) (x2 : Int) : K :=
  k x2
abbrev Zbs1 (k : (Int → K)) (o_1 : Addr) : K :=
  ldI .i64 (o_1.add 0) fun x3_0 =>
  ldI .i64 (o_1.add 1) fun x3_1 =>
  c_ref08_Size (x3_0, x3_1) fun x4 =>
  c_ref06_Of x4 fun x5 =>
  Zbs0 k x5
abbrev ref08_Class (o : (Int × Int)) : M Int := fun k =>
  alK (.cells #[.int .i64 o.1, .int .i64 o.2] 74) fun b =>
  Zbs1 k ⟨b, 0, none⟩
theorem ref08_Class_ok (o : (Int × Int)) (k : Int → K) (w : World) (hyp_ : ref08_Class o k w) : c_ref08_Class o k w :=
  cl_of (P := Tryz.prog) Tryz.func98 rfl (by kernel_rfl)
  (Qs [(1, .addr)] [] (fun z_ => Zbs1 k z_.1)
  Qz
  (fun ⟨o_1, _⟩ => Qs [(2, .int .i64)] [] (fun z_ => Zbs0 k z_.1)
  Qz
  (fun ⟨x2, _⟩ => Qr))) hyp_
abbrev Zbt0 (k : (Int → K)) (x2 : Int) : K :=
  k x2
abbrev Zbt1 (k : (Int → K)) (o_1 : Addr) : K :=
  ldI .i64 (o_1.add 0) fun x6_0 =>
  ldI .i64 (o_1.add 1) fun x6_1 =>
  c_ref08_Size (x6_0, x6_1) fun x7 =>
  c_ref04_Need x7 fun x8 =>
  Zbt0 k x8
abbrev Zbt2 (k : (Int → K)) (x2_1 : Int) : K :=
  k x2_1
abbrev Zbt3 (k : (Int → K)) (o_1 : Addr) (x5 : Bool) : K :=
  brK x5
  (Zbt2 k 0)
  (Zbt1 k o_1)
abbrev Zbt4 (k : (Int → K)) (o_1 : Addr) : K :=
  ldI .i64 (o_1.add 0) fun x3_0 =>
  ldI .i64 (o_1.add 1) fun x3_1 =>
  c_ref08_Class (x3_0, x3_1) fun x4 =>
  Zbt3 k o_1 (decide (x4 ≥ 0))
abbrev ref08_Blocks (o : (Int × Int)) : M Int := fun k =>
  alK (.cells #[.int .i64 o.1, .int .i64 o.2] 74) fun b =>
  Zbt4 k ⟨b, 0, none⟩
theorem ref08_Blocks_ok (o : (Int × Int)) (k : Int → K) (w : World) (hyp_ : ref08_Blocks o k w) : c_ref08_Blocks o k w :=
  cl_of (P := Tryz.prog) Tryz.func99 rfl (by kernel_rfl)
  (Qs [(1, .addr)] [] (fun z_ => Zbt4 k z_.1)
  Qz
  (fun ⟨o_1, _⟩ => Qs [] [1] (fun z_ => Zbt1 k o_1)
  (Qs [(5, .bool)] [1] (fun z_ => Zbt3 k o_1 z_.1)
  Qz
  (fun ⟨x5, _⟩ => Qc (x5) (Zbt2 k 0) (Zbt1 k o_1) (Qs [(2, .int .i64)] [] (fun z_ => Zbt2 k z_.1)
  Qz
  (fun ⟨x2_1, _⟩ => Qr)) Qk))
  (fun _ => Qs [(2, .int .i64)] [] (fun z_ => Zbt0 k z_.1)
  Qz
  (fun ⟨x2, _⟩ => Qr)))) hyp_
abbrev Zbu0 (k : (Int → K)) (x2 : Int) : K :=
  k x2
abbrev Zbu1 (k : (Int → K)) (n_1 : Int) : K :=
  Zbu0 k n_1
abbrev Zbu2 (k : (Int → K)) (n_2 : Int) (c : ((Int × Unit) → K)) (x14 : Bool) : K :=
  brK x14
  (c ((IntKind.wrap .i64 (n_2 + 1)), ()))
  (Zbu1 k n_2)
abbrev Zbu3 (k_1 : Int) (k : (Int → K)) (n_2 : Int) (c : ((Int × Unit) → K)) : K :=
  c_ref06_Words k_1 fun x5 =>
  brK (decide (x5 > 0))
  (c_ref06_Words k_1 fun x11 =>
  Zbu2 k n_2 c (decide ((IntKind.wrap .i64 ((IntKind.wrap .i64 (n_2 + 1)) * x11)) ≤ 512)))
  (Zbu2 k n_2 c false)
abbrev Zbu4 (k_1 : Int) (k : (Int → K)) (n : Int) : K :=
  lp (fun (z_ : (Int × Unit)) c_ => Zbu3 k_1 k z_.1 c_) (n, ())
abbrev ref06_Cells (k_1 : Int) : M Int := fun k =>
  Zbu4 k_1 k 0
theorem ref06_Cells_ok (k_1 : Int) (k : Int → K) (w : World) (hyp_ : ref06_Cells k_1 k w) : c_ref06_Cells k_1 k w :=
  cl_of (P := Tryz.prog) Tryz.func109 rfl (by kernel_rfl)
  (Qs [] [0] (fun z_ => Zbu4 k_1 k 0)
  Qz
  (fun _ => Qs [(3, .int .i64)] [0] (fun z_ => Zbu4 k_1 k z_.1)
  Qz
  (fun ⟨n, _⟩ => Qs [(3, .int .i64)] [] (fun z_ => Zbu1 k z_.1)
  (Qb (Ql [(3, .int .i64)] [0] (fun (z_ : (Int × Unit)) c_ => Zbu3 k_1 k z_.1 c_) (n, ())
  (fun ⟨n_2, _⟩ c => Qs [] [0, 3] (fun z_ => c ((IntKind.wrap .i64 (n_2 + 1)), ()))
  (Qs [(14, .bool)] [0, 3] (fun z_ => Zbu2 k n_2 c z_.1)
  (Qp [3])
  (fun ⟨x14, _⟩ => Qc (x14) (c ((IntKind.wrap .i64 (n_2 + 1)), ())) (Zbu1 k n_2) Qk Qx))
  (fun _ => Qb Qz))))
  (fun ⟨n_1, _⟩ => Qs [(2, .int .i64)] [] (fun z_ => Zbu0 k z_.1)
  Qz
  (fun ⟨x2, _⟩ => Qr))))) hyp_
abbrev Zbv0 (k : (((Int × Int) × Bool) → K)) (x4 : Addr) (x5 : Bool) : K :=
  ldI .i64 (x4.add 0) fun x4_0 =>
  ldI .i64 (x4.add 1) fun x4_1 =>
  k ((x4_0, x4_1), x5)
abbrev Zbv1 (k : (((Int × Int) × Bool) → K)) (x4 : Addr) (o : Addr) : K :=
  ldI .i64 (o.add 0) fun x42_0 =>
  ldI .i64 (o.add 1) fun x42_1 =>
  stK (x4.add 0) (.int .i64 x42_0) <|
  stK (x4.add 1) (.int .i64 x42_1) <|
  Zbv0 k x4 true
abbrev Zbv2 (k : (((Int × Int) × Bool) → K)) (x4 : Addr) (x5_1 : Bool) : K :=
  ldI .i64 (x4.add 0) fun x4_0_1 =>
  ldI .i64 (x4.add 1) fun x4_1_1 =>
  k ((x4_0_1, x4_1_1), x5_1)
abbrev Zbv3 (k : (((Int × Int) × Bool) → K)) (x4 : Addr) : K :=
  stK (x4.add 0) (.int .i64 0) <|
  stK (x4.add 1) (.int .i64 0) <|
  Zbv2 k x4 false
abbrev Zbv4 (k : (((Int × Int) × Bool) → K)) (x4 : Addr) (o : Addr) (x40 : Bool) : K :=
  brK x40
  (Zbv3 k x4)
  (Zbv1 k x4 o)
abbrev Zbv5 (at_1 : Int) (k : (((Int × Int) × Bool) → K)) (d_1 : Addr) (x4 : Addr) (o : Addr) (e : Int) : K :=
  tick fun _ =>
  brK (e != 0)
  (Zbv4 k x4 o true)
  (ldI .i64 (o.add 0) fun x31_0 =>
  ldI .i64 (o.add 1) fun x31_1 =>
  ldS (d_1.add 0) fun x34 =>
  c_ref08_Size (x31_0, x31_1) fun x32 =>
  chk [.cell (d_1.add 0) (x34.v)] fun _ =>
  Zbv4 k x4 o (decide (x32 > (IntKind.wrap .i64 ((IntKind.wrap .i64 (8 * ((x34.n : Nat) : Int))) - at_1)))))
abbrev Zbv6 (at_1 : Int) (k : (((Int × Int) × Bool) → K)) (d_1 : Addr) (x4 : Addr) : K :=
  ldS (d_1.add 0) fun x22 =>
  c_ref03_Get x22 at_1 fun x24 =>
  c_ref08_Decode at_1 x24 fun x25 =>
  alK (.cells #[.int .i64 0, .int .i64 0] 74) fun b =>
  stK (Addr.add ⟨b, 0, none⟩ 0) (.int .i64 x25.1.1) <|
  stK (Addr.add ⟨b, 0, none⟩ 1) (.int .i64 x25.1.2) <|
  Zbv5 at_1 k d_1 x4 ⟨b, 0, none⟩ x25.2
abbrev Zbv7 (k : (((Int × Int) × Bool) → K)) (x4 : Addr) (x5_2 : Bool) : K :=
  ldI .i64 (x4.add 0) fun x4_0_2 =>
  ldI .i64 (x4.add 1) fun x4_1_2 =>
  k ((x4_0_2, x4_1_2), x5_2)
abbrev Zbv8 (k : (((Int × Int) × Bool) → K)) (x4 : Addr) : K :=
  stK (x4.add 0) (.int .i64 0) <|
  stK (x4.add 1) (.int .i64 0) <|
  Zbv7 k x4 false
abbrev Zbv9 (at_1 : Int) (k : (((Int × Int) × Bool) → K)) (d_1 : Addr) (x4 : Addr) (x17 : Bool) : K :=
  brK x17
  (Zbv8 k x4)
  (Zbv6 at_1 k d_1 x4)
abbrev Zbv10 (at_1 : Int) (k : (((Int × Int) × Bool) → K)) (d_1 : Addr) (x4 : Addr) : K :=
  brK (decide (at_1 < 0))
  (Zbv9 at_1 k d_1 x4 true)
  (ldS (d_1.add 0) fun x13 =>
  Zbv9 at_1 k d_1 x4 (decide (at_1 ≥ (IntKind.wrap .i64 (8 * ((x13.n : Nat) : Int))))))
abbrev ref15_Head (d : (Sl × (Sl × (Sl × (Sl × (Sl × (Int × (Int × Bool)))))))) (at_1 : Int) : M ((Int × Int) × Bool) := fun k =>
  alK (.cells #[d.1.v, d.2.1.v, d.2.2.1.v, d.2.2.2.1.v, d.2.2.2.2.1.v, .int .i64 d.2.2.2.2.2.1, .int .i64 d.2.2.2.2.2.2.1, .bool d.2.2.2.2.2.2.2] 103) fun b_1 =>
  alK (.cells #[.int .i64 0, .int .i64 0] 74) fun b_2 =>
  Zbv10 at_1 k ⟨b_1, 0, none⟩ ⟨b_2, 0, none⟩
theorem ref15_Head_ok (d : (Sl × (Sl × (Sl × (Sl × (Sl × (Int × (Int × Bool)))))))) (at_1 : Int) (k : ((Int × Int) × Bool) → K) (w : World) (hyp_ : ref15_Head d at_1 k w) : c_ref15_Head d at_1 k w :=
  cl_of (P := Tryz.prog) Tryz.func110 rfl (by kernel_rfl)
  (Qs [(2, .addr), (4, .addr)] [1] (fun z_ => Zbv10 at_1 k z_.1 z_.2.1)
  Qz
  (fun ⟨d_1, x4, _⟩ => Qs [] [1, 2, 4] (fun z_ => Zbv6 at_1 k d_1 x4)
  (Qs [(17, .bool)] [1, 2, 4] (fun z_ => Zbv9 at_1 k d_1 x4 z_.1)
  (Qp [2])
  (fun ⟨x17, _⟩ => Qc (x17) (Zbv8 k x4) (Zbv6 at_1 k d_1 x4) (Qs [(5, .bool)] [4] (fun z_ => Zbv7 k x4 z_.1)
  Qz
  (fun ⟨x5_2, _⟩ => Qr)) Qk))
  (fun _ => Qs [(6, .addr), (7, .int .i64)] [1, 2, 4] (fun z_ => Zbv5 at_1 k d_1 x4 z_.1 z_.2.1)
  Qz
  (fun ⟨o, e, _⟩ => Qs [] [4, 6] (fun z_ => Zbv1 k x4 o)
  (Qs [(40, .bool)] [4, 6] (fun z_ => Zbv4 k x4 o z_.1)
  (RefK.draw [2] [0, 1, 3, 7, 15, 7, 39, 103, 231, 7, 999, 2047, 4095] [0, 1, 2, 3, 5, 6, 7, 8, 9, 10, 4, 11, 12] [0, 1, 2, 3, 4, 5, 6, 7, 8, 9, 10, 11, 12] (by kernel_rfl) (by kernel_rfl))
  (fun ⟨x40, _⟩ => Qc (x40) (Zbv3 k x4) (Zbv1 k x4 o) (Qs [(5, .bool)] [4] (fun z_ => Zbv2 k x4 z_.1)
  Qz
  (fun ⟨x5_1, _⟩ => Qr)) Qk))
  (fun _ => Qs [(5, .bool)] [4] (fun z_ => Zbv0 k x4 z_.1)
  Qz
  (fun ⟨x5, _⟩ => Qr)))))) hyp_
abbrev Zbw0 (k : (Int → K)) (x2 : Int) : K :=
  k x2
abbrev Zbw1 (k : (Int → K)) (o_1 : Addr) : K :=
  ldI .i64 (o_1.add 0) fun x10_0 =>
  ldI .i64 (o_1.add 1) fun x10_1 =>
  c_ref08_Blocks (x10_0, x10_1) fun x11 =>
  Zbw0 k (IntKind.wrap .i64 (512 * x11))
abbrev Zbw2 (k : (Int → K)) (x2_1 : Int) : K :=
  k x2_1
abbrev Zbw3 (k : (Int → K)) (k_1 : Int) : K :=
  c_ref06_Words k_1 fun x9 =>
  Zbw2 k x9
abbrev Zbw4 (k : (Int → K)) (o_1 : Addr) (k_1 : Int) (x7 : Bool) : K :=
  brK x7
  (Zbw3 k k_1)
  (Zbw1 k o_1)
abbrev Zbw5 (k : (Int → K)) (o_1 : Addr) (k_1 : Int) : K :=
  Zbw4 k o_1 k_1 (decide (k_1 ≥ 0))
abbrev Zbw6 (k : (Int → K)) (o_1 : Addr) : K :=
  ldI .i64 (o_1.add 0) fun x4_0 =>
  ldI .i64 (o_1.add 1) fun x4_1 =>
  c_ref08_Class (x4_0, x4_1) fun x5 =>
  Zbw5 k o_1 x5
abbrev ref16_Room (o : (Int × Int)) : M Int := fun k =>
  alK (.cells #[.int .i64 o.1, .int .i64 o.2] 74) fun b =>
  Zbw6 k ⟨b, 0, none⟩
theorem ref16_Room_ok (o : (Int × Int)) (k : Int → K) (w : World) (hyp_ : ref16_Room o k w) : c_ref16_Room o k w :=
  cl_of (P := Tryz.prog) Tryz.func111 rfl (by kernel_rfl)
  (Qs [(1, .addr)] [] (fun z_ => Zbw6 k z_.1)
  Qz
  (fun ⟨o_1, _⟩ => Qs [] [1] (fun z_ => Zbw1 k o_1)
  (Qs [(3, .int .i64)] [1] (fun z_ => Zbw5 k o_1 z_.1)
  Qz
  (fun ⟨k_1, _⟩ => Qs [(7, .bool)] [1, 3] (fun z_ => Zbw4 k o_1 k_1 z_.1)
  Qz
  (fun ⟨x7, _⟩ => Qc (x7) (Zbw3 k k_1) (Zbw1 k o_1) (Qs [(2, .int .i64)] [] (fun z_ => Zbw2 k z_.1)
  Qz
  (fun ⟨x2_1, _⟩ => Qr)) Qk)))
  (fun _ => Qs [(2, .int .i64)] [] (fun z_ => Zbw0 k z_.1)
  Qz
  (fun ⟨x2, _⟩ => Qr)))) hyp_
abbrev Zbx0 (k : ((Sl × (Sl × (Sl × (Sl × (Sl × (Int × (Int × Bool))))))) → K)) (x2 : Addr) : K :=
  ldS (x2.add 0) fun x2_0 =>
  ldS (x2.add 1) fun x2_1 =>
  ldS (x2.add 2) fun x2_2 =>
  ldS (x2.add 3) fun x2_3 =>
  ldS (x2.add 4) fun x2_4 =>
  ldI .i64 (x2.add 5) fun x2_5 =>
  ldI .i64 (x2.add 6) fun x2_6 =>
  ldB (x2.add 7) fun x2_7 =>
  k (x2_0, (x2_1, (x2_2, (x2_3, (x2_4, (x2_5, (x2_6, x2_7)))))))
abbrev Zbx1 (k : ((Sl × (Sl × (Sl × (Sl × (Sl × (Int × (Int × Bool))))))) → K)) (x2 : Addr) (d : Addr) : K :=
  ldS (d.add 0) fun x54_0 =>
  ldS (d.add 1) fun x54_1 =>
  ldS (d.add 2) fun x54_2 =>
  ldS (d.add 3) fun x54_3 =>
  ldS (d.add 4) fun x54_4 =>
  ldI .i64 (d.add 5) fun x54_5 =>
  ldI .i64 (d.add 6) fun x54_6 =>
  ldB (d.add 7) fun x54_7 =>
  stK (x2.add 0) (x54_0.v) <|
  stK (x2.add 1) (x54_1.v) <|
  stK (x2.add 2) (x54_2.v) <|
  stK (x2.add 3) (x54_3.v) <|
  stK (x2.add 4) (x54_4.v) <|
  stK (x2.add 5) (.int .i64 x54_5) <|
  stK (x2.add 6) (.int .i64 x54_6) <|
  stK (x2.add 7) (.bool x54_7) <|
  Zbx0 k x2
abbrev Zbx2 (k : ((Sl × (Sl × (Sl × (Sl × (Sl × (Int × (Int × Bool))))))) → K)) (x2 : Addr) (d : Addr) : K :=
  stK (Addr.add (d.add 6) 0) (.int .i64 (-1)) <|
  Zbx1 k x2 d
abbrev Zbx3 (k : ((Sl × (Sl × (Sl × (Sl × (Sl × (Int × (Int × Bool))))))) → K)) (x2 : Addr) (d : Addr) : K :=
  ldS (d.add 0) fun x49 =>
  mkS Tryz.prog 4 ((x49.n : Nat) : Int) ((x49.n : Nat) : Int) fun b =>
  stK (Addr.add (d.add 4) 0) (.slice (some ⟨b, 0, none⟩) (Int.toNat ((x49.n : Nat) : Int)) (Int.toNat ((x49.n : Nat) : Int))) <|
  Zbx2 k x2 d
abbrev Zbx4 (k : ((Sl × (Sl × (Sl × (Sl × (Sl × (Int × (Int × Bool))))))) → K)) (x2 : Addr) (d : Addr) : K :=
  ldS (d.add 0) fun x44 =>
  mkS Tryz.prog 4 ((x44.n : Nat) : Int) ((x44.n : Nat) : Int) fun b_1 =>
  stK (Addr.add (d.add 3) 0) (.slice (some ⟨b_1, 0, none⟩) (Int.toNat ((x44.n : Nat) : Int)) (Int.toNat ((x44.n : Nat) : Int))) <|
  Zbx3 k x2 d
abbrev Zbx5 (k : ((Sl × (Sl × (Sl × (Sl × (Sl × (Int × (Int × Bool))))))) → K)) (x2 : Addr) (d : Addr) : K :=
  ldS (d.add 0) fun x39 =>
  mkS Tryz.prog 219 ((x39.n : Nat) : Int) ((x39.n : Nat) : Int) fun b_2 =>
  stK (Addr.add (d.add 2) 0) (.slice (some ⟨b_2, 0, none⟩) (Int.toNat ((x39.n : Nat) : Int)) (Int.toNat ((x39.n : Nat) : Int))) <|
  Zbx4 k x2 d
abbrev Zbx6 (k : ((Sl × (Sl × (Sl × (Sl × (Sl × (Int × (Int × Bool))))))) → K)) (x2 : Addr) (d : Addr) : K :=
  ldS (d.add 1) fun x33 =>
  ldS (d.add 0) fun x35 =>
  semT Tryz.prog (Builtin.append_ #[100, 100] 100 #[x33.v, x35.v]) (.one (.sc (.slice))) fun x36 =>
  stK (Addr.add (d.add 1) 0) (x36.v) <|
  Zbx5 k x2 d
abbrev Zbx7 (words : Sl) (d : Addr) (i_1 : Int) (c : ((Int × Unit) → K)) : K :=
  tick fun _ =>
  ldS (d.add 0) fun x21 =>
  ixS words.p words.n i_1 1 fun x28 =>
  ldI .u64 x28 fun x29 =>
  ixS x21.p x21.n (IntKind.wrap .i64 (Int.tdiv i_1 8)) 8 fun x30 =>
  ixA x30 8 (Int.tmod i_1 8) 1 fun x31 =>
  stK (x31.add 0) (.int .u64 x29) <|
  c ((IntKind.wrap .i64 (i_1 + 1)), ())
abbrev Zbx8 (words : Sl) (d : Addr) (i_1 : Int) (c : ((Int × Unit) → K)) : K :=
  ldS (d.add 0) fun x15 =>
  alK (.cells #[.int .u64 0, .int .u64 0, .int .u64 0, .int .u64 0, .int .u64 0, .int .u64 0, .int .u64 0, .int .u64 0] 219) fun b_3 =>
  semT Tryz.prog (Builtin.append_ #[100, 100] 100 #[x15.v, .slice (some ⟨b_3, 0, none⟩) 1 1]) (.one (.sc (.slice))) fun x18 =>
  stK (Addr.add (d.add 0) 0) (x18.v) <|
  Zbx7 words d i_1 c
abbrev Zbx9 (words : Sl) (d : Addr) (i_1 : Int) (c : ((Int × Unit) → K)) (x13 : Bool) : K :=
  brK x13
  (Zbx8 words d i_1 c)
  (Zbx7 words d i_1 c)
abbrev Zbx10 (words : Sl) (k : ((Sl × (Sl × (Sl × (Sl × (Sl × (Int × (Int × Bool))))))) → K)) (x2 : Addr) (d : Addr) (i_1 : Int) (c : ((Int × Unit) → K)) (x8 : Bool) : K :=
  brK x8
  (Zbx9 words d i_1 c ((Int.tmod i_1 8) == 0))
  (Zbx6 k x2 d)
abbrev Zbx11 (words : Sl) (k : ((Sl × (Sl × (Sl × (Sl × (Sl × (Int × (Int × Bool))))))) → K)) (x2 : Addr) (d : Addr) (i_1 : Int) (c : ((Int × Unit) → K)) : K :=
  Zbx10 words k x2 d i_1 c (decide (i_1 < ((words.n : Nat) : Int)))
abbrev Zbx12 (words : Sl) (k : ((Sl × (Sl × (Sl × (Sl × (Sl × (Int × (Int × Bool))))))) → K)) (x2 : Addr) (d : Addr) (i : Int) : K :=
  lp (fun (z_ : (Int × Unit)) c_ => Zbx11 words k x2 d z_.1 c_) (i, ())
abbrev Zbx13 (words : Sl) (k : ((Sl × (Sl × (Sl × (Sl × (Sl × (Int × (Int × Bool))))))) → K)) (x2 : Addr) (d : Addr) : K :=
  Zbx12 words k x2 d 0
abbrev Zbx14 (words : Sl) (k : ((Sl × (Sl × (Sl × (Sl × (Sl × (Int × (Int × Bool))))))) → K)) (x2 : Addr) : K :=
  alK (.cells #[.slice none 0 0, .slice none 0 0, .slice none 0 0, .slice none 0 0, .slice none 0 0, .int .i64 0, .int .i64 0, .bool false] 103) fun b_4 =>
  Zbx13 words k x2 ⟨b_4, 0, none⟩
abbrev ref03_Load (words : Sl) : M (Sl × (Sl × (Sl × (Sl × (Sl × (Int × (Int × Bool))))))) := fun k =>
  alK (.cells #[.slice none 0 0, .slice none 0 0, .slice none 0 0, .slice none 0 0, .slice none 0 0, .int .i64 0, .int .i64 0, .bool false] 103) fun b_5 =>
  Zbx14 words k ⟨b_5, 0, none⟩
theorem ref03_Load_ok (words : Sl) (k : (Sl × (Sl × (Sl × (Sl × (Sl × (Int × (Int × Bool))))))) → K) (w : World) (hyp_ : ref03_Load words k w) : c_ref03_Load words k w :=
  cl_of (P := Tryz.prog) Tryz.func113 rfl (by kernel_rfl)
  (Qs [(2, .addr)] [0] (fun z_ => Zbx14 words k z_.1)
  Qz
  (fun ⟨x2, _⟩ => Qs [(3, .addr)] [0, 2] (fun z_ => Zbx13 words k x2 z_.1)
  Qz
  (fun ⟨d, _⟩ => Qs [] [2, 3] (fun z_ => Zbx6 k x2 d)
  (Qs [(4, .int .i64)] [0, 2, 3] (fun z_ => Zbx12 words k x2 d z_.1)
  Qz
  (fun ⟨i, _⟩ => Qb (Ql [(4, .int .i64)] [0, 2, 3] (fun (z_ : (Int × Unit)) c_ => Zbx11 words k x2 d z_.1 c_) (i, ())
  (fun ⟨i_1, _⟩ c => Qs [] [0, 2, 3, 4] (fun z_ => Zbx9 words d i_1 c ((Int.tmod i_1 8) == 0))
  (Qs [(8, .bool)] [0, 2, 3, 4] (fun z_ => Zbx10 words k x2 d i_1 c z_.1)
  Qz
  (fun ⟨x8, _⟩ => Qc (x8) (Zbx9 words d i_1 c ((Int.tmod i_1 8) == 0)) (Zbx6 k x2 d) Qk Qx))
  (fun _ => Qs [] [0, 2, 3, 4] (fun z_ => c ((IntKind.wrap .i64 (i_1 + 1)), ()))
  (Qb (Qs [] [0, 2, 3, 4] (fun z_ => Zbx7 words d i_1 c)
  (Qs [(13, .bool)] [0, 2, 3, 4] (fun z_ => Zbx9 words d i_1 c z_.1)
  Qz
  (fun ⟨x13, _⟩ => Qc (x13) (Zbx8 words d i_1 c) (Zbx7 words d i_1 c) Qz Qk))
  (fun _ => RefK.draw [] [0, 1, 0, 4, 0, 16, 0, 0, 192, 448, 15, 2047, 4095] [0, 1, 2, 3, 4, 5, 6, 7, 8, 9, 10, 11, 12] [0, 1, 2, 3, 4, 5, 6, 7, 8, 9, 10, 11, 12] (by kernel_rfl) (by kernel_rfl))))
  (fun _ => Qz))))))
  (fun _ => Qs [] [2, 3] (fun z_ => Zbx5 k x2 d)
  Qz
  (fun _ => Qs [] [2, 3] (fun z_ => Zbx4 k x2 d)
  Qz
  (fun _ => Qs [] [2, 3] (fun z_ => Zbx3 k x2 d)
  Qz
  (fun _ => Qs [] [2, 3] (fun z_ => Zbx2 k x2 d)
  Qz
  (fun _ => Qs [] [2, 3] (fun z_ => Zbx1 k x2 d)
  Qz
  (fun _ => Qs [] [2] (fun z_ => Zbx0 k x2)
  Qz
  (fun _ => Qr)))))))))) hyp_
abbrev Zby0 (k : (Sl → K)) (x0 : Sl) : K :=
  k x0
abbrev Zby1 (k : (Sl → K)) : K :=
  alK (.cells #[.int .i64 2, .int .i64 3, .int .i64 4, .int .i64 5, .int .i64 6, .int .i64 7, .int .i64 8, .int .i64 10, .int .i64 12, .int .i64 14, .int .i64 16, .int .i64 18, .int .i64 20, .int .i64 24, .int .i64 28, .int .i64 32, .int .i64 36, .int .i64 40, .int .i64 46, .int .i64 51, .int .i64 56, .int .i64 64, .int .i64 73, .int .i64 85, .int .i64 92, .int .i64 102, .int .i64 113, .int .i64 128, .int .i64 146, .int .i64 170, .int .i64 204, .int .i64 256] 3) fun b =>
  Zby0 k ⟨(some ⟨b, 0, none⟩), 32, 32⟩
abbrev ref06_Sizes : M Sl := fun k =>
  Zby1 k
theorem ref06_Sizes_ok (k : Sl → K) (w : World) (hyp_ : ref06_Sizes k w) : c_ref06_Sizes k w :=
  cl_of (P := Tryz.prog) Tryz.func114 rfl (by kernel_rfl)
  (Qs [] [] (fun z_ => Zby1 k)
  Qz
  (fun _ => Qs [(0, .slice)] [] (fun z_ => Zby0 k z_.1)
  Qz
  (fun ⟨x0, _⟩ => Qr))) hyp_
abbrev Zbz0 (k : (Int → K)) (x2 : Int) : K :=
  k x2
abbrev Zbz1 (k : (Int → K)) (x2_1 : Int) : K :=
  k x2_1
abbrev Zbz2 (k : (Int → K)) (k_2 : Int) (c : ((Int × Unit) → K)) (x17 : Bool) : K :=
  brK x17
  (Zbz1 k k_2)
  (c ((IntKind.wrap .i64 (k_2 + 1)), ()))
abbrev Zbz3 (words : Int) (k : (Int → K)) (k_2 : Int) (c : ((Int × Unit) → K)) : K :=
  c_ref06_Sizes fun x12 =>
  ixS x12.p x12.n k_2 1 fun x14 =>
  ldI .i64 x14 fun x15 =>
  Zbz2 k k_2 c (decide (x15 ≥ words))
abbrev Zbz4 (words : Int) (k : (Int → K)) (k_2 : Int) (c : ((Int × Unit) → K)) (x9 : Bool) : K :=
  brK x9
  (Zbz3 words k k_2 c)
  (Zbz0 k (-1))
abbrev Zbz5 (words : Int) (k : (Int → K)) (k_2 : Int) (c : ((Int × Unit) → K)) : K :=
  brK (decide (k_2 < 32))
  (Zbz4 words k k_2 c (decide (words > 0)))
  (Zbz4 words k k_2 c false)
abbrev Zbz6 (words : Int) (k : (Int → K)) (k_1 : Int) : K :=
  lp (fun (z_ : (Int × Unit)) c_ => Zbz5 words k z_.1 c_) (k_1, ())
abbrev ref06_Of (words : Int) : M Int := fun k =>
  Zbz6 words k 0
theorem ref06_Of_ok (words : Int) (k : Int → K) (w : World) (hyp_ : ref06_Of words k w) : c_ref06_Of words k w :=
  cl_of (P := Tryz.prog) Tryz.func158 rfl (by kernel_rfl)
  (Qs [] [0] (fun z_ => Zbz6 words k 0)
  Qz
  (fun _ => Qs [] [] (fun z_ => Zbz0 k (-1))
  (Qs [(3, .int .i64)] [0] (fun z_ => Zbz6 words k z_.1)
  Qz
  (fun ⟨k_1, _⟩ => Qb (Ql [(3, .int .i64)] [0] (fun (z_ : (Int × Unit)) c_ => Zbz5 words k z_.1 c_) (k_1, ())
  (fun ⟨k_2, _⟩ c => Qs [] [0, 3] (fun z_ => Zbz3 words k k_2 c)
  (Qs [(9, .bool)] [0, 3] (fun z_ => Zbz4 words k k_2 c z_.1)
  (Qp [2])
  (fun ⟨x9, _⟩ => Qc (x9) (Zbz3 words k k_2 c) (Zbz0 k (-1)) Qk Qx))
  (fun _ => Qs [] [0, 3] (fun z_ => c ((IntKind.wrap .i64 (k_2 + 1)), ()))
  (Qb (Qs [(17, .bool)] [0, 3] (fun z_ => Zbz2 k k_2 c z_.1)
  Qz
  (fun ⟨x17, _⟩ => Qc (x17) (Zbz1 k k_2) (c ((IntKind.wrap .i64 (k_2 + 1)), ())) (Qs [(2, .int .i64)] [] (fun z_ => Zbz1 k z_.1)
  Qz
  (fun ⟨x2_1, _⟩ => Qr)) Qk)))
  (fun _ => Qz))))))
  (fun _ => Qs [(2, .int .i64)] [] (fun z_ => Zbz0 k z_.1)
  Qz
  (fun ⟨x2, _⟩ => Qr)))) hyp_
abbrev Zca0 (k : (Int → K)) (x2 : Int) : K :=
  k x2
abbrev Zca1 (k : (Int → K)) (n_1 : Int) : K :=
  Zca0 k n_1
abbrev Zca2 (k : (Int → K)) (n : Int) (x10 : Bool) : K :=
  brK x10
  (Zca1 k (IntKind.wrap .i64 (n + 1)))
  (Zca1 k n)
abbrev Zca3 (words : Int) (k : (Int → K)) (n : Int) : K :=
  Zca2 k n ((Int.tmod words 512) != 0)
abbrev Zca4 (k : (Int → K)) (x2_1 : Int) : K :=
  k x2_1
abbrev Zca5 (words : Int) (k : (Int → K)) (x5 : Bool) : K :=
  brK x5
  (Zca4 k 0)
  (Zca3 words k (IntKind.wrap .i64 (Int.tdiv words 512)))
abbrev ref04_Need (words : Int) : M Int := fun k =>
  Zca5 words k (decide (words < 1))
theorem ref04_Need_ok (words : Int) (k : Int → K) (w : World) (hyp_ : ref04_Need words k w) : c_ref04_Need words k w :=
  cl_of (P := Tryz.prog) Tryz.func159 rfl (by kernel_rfl)
  (Qs [] [0] (fun z_ => Zca5 words k (decide (words < 1)))
  Qz
  (fun _ => Qs [] [0] (fun z_ => Zca3 words k (IntKind.wrap .i64 (Int.tdiv words 512)))
  (Qs [(5, .bool)] [0] (fun z_ => Zca5 words k z_.1)
  Qz
  (fun ⟨x5, _⟩ => Qc (x5) (Zca4 k 0) (Zca3 words k (IntKind.wrap .i64 (Int.tdiv words 512))) (Qs [(2, .int .i64)] [] (fun z_ => Zca4 k z_.1)
  Qz
  (fun ⟨x2_1, _⟩ => Qr)) Qk))
  (fun _ => Qs [(3, .int .i64)] [0] (fun z_ => Zca3 words k z_.1)
  Qz
  (fun ⟨n, _⟩ => Qs [(3, .int .i64)] [] (fun z_ => Zca1 k z_.1)
  (Qs [(10, .bool)] [3] (fun z_ => Zca2 k n z_.1)
  Qz
  (fun ⟨x10, _⟩ => Qc (x10) (Zca1 k (IntKind.wrap .i64 (n + 1))) (Zca1 k n) Qz Qk))
  (fun ⟨n_1, _⟩ => Qs [(2, .int .i64)] [] (fun z_ => Zca0 k z_.1)
  Qz
  (fun ⟨x2, _⟩ => Qr)))))) hyp_
abbrev Zcb0 (k : (((Int × Int) × Int) → K)) (x4 : Addr) (x5 : Int) : K :=
  ldI .i64 (x4.add 0) fun x4_0 =>
  ldI .i64 (x4.add 1) fun x4_1 =>
  k ((x4_0, x4_1), x5)
abbrev Zcb1 (k : (((Int × Int) × Int) → K)) (x4 : Addr) (o : Addr) : K :=
  ldI .i64 (o.add 0) fun x38_0 =>
  ldI .i64 (o.add 1) fun x38_1 =>
  stK (x4.add 0) (.int .i64 x38_0) <|
  stK (x4.add 1) (.int .i64 x38_1) <|
  Zcb0 k x4 0
abbrev Zcb2 (k : (((Int × Int) × Int) → K)) (x4 : Addr) (x5_1 : Int) : K :=
  ldI .i64 (x4.add 0) fun x4_0_1 =>
  ldI .i64 (x4.add 1) fun x4_1_1 =>
  k ((x4_0_1, x4_1_1), x5_1)
abbrev Zcb3 (k : (((Int × Int) × Int) → K)) (x4 : Addr) : K :=
  stK (x4.add 0) (.int .i64 0) <|
  stK (x4.add 1) (.int .i64 0) <|
  Zcb2 k x4 26
abbrev Zcb4 (k : (((Int × Int) × Int) → K)) (x4 : Addr) (o : Addr) (x36 : Bool) : K :=
  brK x36
  (Zcb3 k x4)
  (Zcb1 k x4 o)
abbrev Zcb5 (at_1 : Int) (w_1 : Int) (k : (((Int × Int) × Int) → K)) (x4 : Addr) (o : Addr) : K :=
  ldI .i64 (o.add 0) fun x27_0 =>
  ldI .i64 (o.add 1) fun x27_1 =>
  c_ref08_Size (x27_0, x27_1) fun x28 =>
  brK (x28 == 0)
  (Zcb4 k x4 o true)
  (ldI .i64 (o.add 0) fun x31_0 =>
  ldI .i64 (o.add 1) fun x31_1 =>
  c_ref08_Encode (x31_0, x31_1) at_1 fun x33 =>
  Zcb4 k x4 o (x33 != w_1))
abbrev Zcb6 (at_1 : Int) (w_1 : Int) (k : (((Int × Int) × Int) → K)) (x4 : Addr) (n : Int) : K :=
  alK (.cells #[.int .i64 0, .int .i64 0] 74) fun b =>
  stK (Addr.add ⟨b, 0, none⟩ 0) (.int .i64 (IntKind.wrap .i64 (Int.tmod (IntKind.wrap .u32 (Int.tdiv n 256)) 64))) <|
  stK (Addr.add ⟨b, 0, none⟩ 1) (.int .i64 (IntKind.wrap .i64 (Int.tmod (IntKind.wrap .u32 (Int.tdiv n 16384)) 32768))) <|
  Zcb5 at_1 w_1 k x4 ⟨b, 0, none⟩
abbrev Zcb7 (k : (((Int × Int) × Int) → K)) (x4 : Addr) (x5_2 : Int) : K :=
  ldI .i64 (x4.add 0) fun x4_0_2 =>
  ldI .i64 (x4.add 1) fun x4_1_2 =>
  k ((x4_0_2, x4_1_2), x5_2)
abbrev Zcb8 (k : (((Int × Int) × Int) → K)) (x4 : Addr) : K :=
  stK (x4.add 0) (.int .i64 0) <|
  stK (x4.add 1) (.int .i64 0) <|
  Zcb7 k x4 25
abbrev Zcb9 (at_1 : Int) (w_1 : Int) (k : (((Int × Int) × Int) → K)) (x4 : Addr) (n : Int) (x16 : Bool) : K :=
  brK x16
  (Zcb8 k x4)
  (Zcb6 at_1 w_1 k x4 n)
abbrev Zcb10 (at_1 : Int) (w_1 : Int) (k : (((Int × Int) × Int) → K)) (x4 : Addr) (n : Int) (ok : Bool) : K :=
  Zcb9 at_1 w_1 k x4 n (!ok)
abbrev Zcb11 (at_1 : Int) (w_1 : Int) (k : (((Int × Int) × Int) → K)) (x4 : Addr) : K :=
  c_ref02_Open w_1 at_1 fun x12 =>
  Zcb10 at_1 w_1 k x4 x12.1 x12.2
abbrev ref08_Decode (at_1 : Int) (w_1 : Int) : M ((Int × Int) × Int) := fun k =>
  alK (.cells #[.int .i64 0, .int .i64 0] 74) fun b_1 =>
  Zcb11 at_1 w_1 k ⟨b_1, 0, none⟩
theorem ref08_Decode_ok (at_1 : Int) (w_1 : Int) (k : ((Int × Int) × Int) → K) (w : World) (hyp_ : ref08_Decode at_1 w_1 k w) : c_ref08_Decode at_1 w_1 k w :=
  cl_of (P := Tryz.prog) Tryz.func170 rfl (by kernel_rfl)
  (Qs [(4, .addr)] [0, 1] (fun z_ => Zcb11 at_1 w_1 k z_.1)
  Qz
  (fun ⟨x4, _⟩ => Qs [(6, .int .u32), (7, .bool)] [0, 1, 4] (fun z_ => Zcb10 at_1 w_1 k x4 z_.1 z_.2.1)
  Qz
  (fun ⟨n, ok, _⟩ => Qs [] [0, 1, 4, 6] (fun z_ => Zcb6 at_1 w_1 k x4 n)
  (Qs [(16, .bool)] [0, 1, 4, 6] (fun z_ => Zcb9 at_1 w_1 k x4 n z_.1)
  Qz
  (fun ⟨x16, _⟩ => Qc (x16) (Zcb8 k x4) (Zcb6 at_1 w_1 k x4 n) (Qs [(5, .int .i64)] [4] (fun z_ => Zcb7 k x4 z_.1)
  Qz
  (fun ⟨x5_2, _⟩ => Qr)) Qk))
  (fun _ => Qs [(8, .addr)] [0, 1, 4] (fun z_ => Zcb5 at_1 w_1 k x4 z_.1)
  Qz
  (fun ⟨o, _⟩ => Qs [] [4, 8] (fun z_ => Zcb1 k x4 o)
  (Qs [(36, .bool)] [4, 8] (fun z_ => Zcb4 k x4 o z_.1)
  (Qp [3])
  (fun ⟨x36, _⟩ => Qc (x36) (Zcb3 k x4) (Zcb1 k x4 o) (Qs [(5, .int .i64)] [4] (fun z_ => Zcb2 k x4 z_.1)
  Qz
  (fun ⟨x5_1, _⟩ => Qr)) Qk))
  (fun _ => Qs [(5, .int .i64)] [4] (fun z_ => Zcb0 k x4 z_.1)
  Qz
  (fun ⟨x5, _⟩ => Qr))))))) hyp_
abbrev Zcc0 (k : (Int → K)) (x4 : Int) : K :=
  k x4
abbrev Zcc1 (l : Sl) (at_1 : Int) (k : (Int → K)) : K :=
  ixS l.p l.n (IntKind.wrap .i64 (Int.tdiv at_1 8)) 8 fun x19 =>
  ixA x19 8 (Int.tmod at_1 8) 1 fun x20 =>
  ldI .u64 x20 fun x21 =>
  Zcc0 k x21
abbrev Zcc2 (k : (Int → K)) (x4_1 : Int) : K :=
  k x4_1
abbrev Zcc3 (l : Sl) (at_1 : Int) (k : (Int → K)) (x13 : Bool) : K :=
  brK x13
  (Zcc2 k 0)
  (Zcc1 l at_1 k)
abbrev Zcc4 (l : Sl) (at_1 : Int) (k : (Int → K)) : K :=
  brK (decide (at_1 < 0))
  (Zcc3 l at_1 k true)
  (Zcc3 l at_1 k (decide (at_1 ≥ (IntKind.wrap .i64 (8 * ((l.n : Nat) : Int))))))
abbrev ref03_Get (l : Sl) (at_1 : Int) : M Int := fun k =>
  Zcc4 l at_1 k
theorem ref03_Get_ok (l : Sl) (at_1 : Int) (k : Int → K) (w : World) (hyp_ : ref03_Get l at_1 k w) : c_ref03_Get l at_1 k w :=
  cl_of (P := Tryz.prog) Tryz.func171 rfl (by kernel_rfl)
  (Qs [] [0, 1] (fun z_ => Zcc4 l at_1 k)
  Qz
  (fun _ => Qs [] [0, 1] (fun z_ => Zcc1 l at_1 k)
  (Qs [(13, .bool)] [0, 1] (fun z_ => Zcc3 l at_1 k z_.1)
  (Qp [2])
  (fun ⟨x13, _⟩ => Qc (x13) (Zcc2 k 0) (Zcc1 l at_1 k) (Qs [(4, .int .u64)] [] (fun z_ => Zcc2 k z_.1)
  Qz
  (fun ⟨x4_1, _⟩ => Qr)) Qk))
  (fun _ => Qs [(4, .int .u64)] [] (fun z_ => Zcc0 k z_.1)
  Qz
  (fun ⟨x4, _⟩ => Qr)))) hyp_
abbrev Zcd0 (k : ((Int × Bool) → K)) (x4 : Int) (x5 : Bool) : K :=
  k (x4, x5)
abbrev Zcd1 (k : ((Int × Bool) → K)) (x4_1 : Int) (x5_1 : Bool) : K :=
  k (x4_1, x5_1)
abbrev Zcd2 (k : ((Int × Bool) → K)) (n : Int) (x14 : Bool) : K :=
  brK x14
  (Zcd1 k n true)
  (Zcd0 k 0 false)
abbrev Zcd3 (w_1 : Int) (place : Int) (k : ((Int × Bool) → K)) (n : Int) : K :=
  c_ref02_Seal n place fun x12 =>
  Zcd2 k n (x12 == w_1)
abbrev ref02_Open (w_1 : Int) (place : Int) : M (Int × Bool) := fun k =>
  Zcd3 w_1 place k (IntKind.wrap .u32 (Int.tmod w_1 4294967296))
theorem ref02_Open_ok (w_1 : Int) (place : Int) (k : (Int × Bool) → K) (w : World) (hyp_ : ref02_Open w_1 place k w) : c_ref02_Open w_1 place k w :=
  cl_of (P := Tryz.prog) Tryz.func214 rfl (by kernel_rfl)
  (Qs [] [0, 1] (fun z_ => Zcd3 w_1 place k (IntKind.wrap .u32 (Int.tmod w_1 4294967296)))
  Qz
  (fun _ => Qs [(6, .int .u32)] [0, 1] (fun z_ => Zcd3 w_1 place k z_.1)
  Qz
  (fun ⟨n, _⟩ => Qs [] [] (fun z_ => Zcd0 k 0 false)
  (Qs [(14, .bool)] [6] (fun z_ => Zcd2 k n z_.1)
  Qz
  (fun ⟨x14, _⟩ => Qc (x14) (Zcd1 k n true) (Zcd0 k 0 false) (Qs [(4, .int .u32), (5, .bool)] [] (fun z_ => Zcd1 k z_.1 z_.2.1)
  Qz
  (fun ⟨x4_1, x5_1, _⟩ => Qr)) Qk))
  (fun _ => Qs [(4, .int .u32), (5, .bool)] [] (fun z_ => Zcd0 k z_.1 z_.2.1)
  Qz
  (fun ⟨x4, x5, _⟩ => Qr))))) hyp_
abbrev Zce0 (k : (Int → K)) (x4 : Int) : K :=
  k x4
abbrev Zce1 (at_1 : Int) (k : (Int → K)) (o_1 : Addr) : K :=
  ldI .i64 (o_1.add 0) fun x9 =>
  ldI .i64 (o_1.add 1) fun x13 =>
  c_ref02_Seal (IntKind.wrap .u32 (IntKind.wrap .i64 ((IntKind.wrap .i64 (165 + (IntKind.wrap .i64 (256 * x9)))) + (IntKind.wrap .i64 (16384 * x13))))) at_1 fun x18 =>
  Zce0 k x18
abbrev Zce2 (k : (Int → K)) (x4_1 : Int) : K :=
  k x4_1
abbrev Zce3 (at_1 : Int) (k : (Int → K)) (o_1 : Addr) (x7 : Bool) : K :=
  brK x7
  (Zce2 k 0)
  (Zce1 at_1 k o_1)
abbrev Zce4 (at_1 : Int) (k : (Int → K)) (o_1 : Addr) : K :=
  ldI .i64 (o_1.add 0) fun x5_0 =>
  ldI .i64 (o_1.add 1) fun x5_1 =>
  c_ref08_Size (x5_0, x5_1) fun x6 =>
  Zce3 at_1 k o_1 (x6 == 0)
abbrev ref08_Encode (o : (Int × Int)) (at_1 : Int) : M Int := fun k =>
  alK (.cells #[.int .i64 o.1, .int .i64 o.2] 74) fun b =>
  Zce4 at_1 k ⟨b, 0, none⟩
theorem ref08_Encode_ok (o : (Int × Int)) (at_1 : Int) (k : Int → K) (w : World) (hyp_ : ref08_Encode o at_1 k w) : c_ref08_Encode o at_1 k w :=
  cl_of (P := Tryz.prog) Tryz.func215 rfl (by kernel_rfl)
  (Qs [(2, .addr)] [1] (fun z_ => Zce4 at_1 k z_.1)
  Qz
  (fun ⟨o_1, _⟩ => Qs [] [1, 2] (fun z_ => Zce1 at_1 k o_1)
  (Qs [(7, .bool)] [1, 2] (fun z_ => Zce3 at_1 k o_1 z_.1)
  Qz
  (fun ⟨x7, _⟩ => Qc (x7) (Zce2 k 0) (Zce1 at_1 k o_1) (Qs [(4, .int .u64)] [] (fun z_ => Zce2 k z_.1)
  Qz
  (fun ⟨x4_1, _⟩ => Qr)) Qk))
  (fun _ => Qs [(4, .int .u64)] [] (fun z_ => Zce0 k z_.1)
  Qz
  (fun ⟨x4, _⟩ => Qr)))) hyp_
abbrev Zcf0 (k : (Int → K)) (x4 : Int) : K :=
  k x4
abbrev Zcf1 (n : Int) (place : Int) (k : (Int → K)) : K :=
  alK (.cells #[.int .u64 (IntKind.wrap .u64 n), .int .u64 (IntKind.wrap .u64 place)] 109) fun b =>
  c_ref02_Words ⟨(some ⟨b, 0, none⟩), 2, 2⟩ fun x10 =>
  Zcf0 k (IntKind.wrap .u64 ((IntKind.wrap .u64 ((IntKind.wrap .u64 x10) * 4294967296)) + (IntKind.wrap .u64 n)))
abbrev ref02_Seal (n : Int) (place : Int) : M Int := fun k =>
  Zcf1 n place k
theorem ref02_Seal_ok (n : Int) (place : Int) (k : Int → K) (w : World) (hyp_ : ref02_Seal n place k w) : c_ref02_Seal n place k w :=
  cl_of (P := Tryz.prog) Tryz.func232 rfl (by kernel_rfl)
  (Qs [] [0, 1] (fun z_ => Zcf1 n place k)
  Qz
  (fun _ => Qs [(4, .int .u64)] [] (fun z_ => Zcf0 k z_.1)
  Qz
  (fun ⟨x4, _⟩ => Qr))) hyp_
abbrev Zcg0 (k : (Int → K)) (x2 : Int) : K :=
  k x2
abbrev Zcg1 (l : Sl) (k : (Int → K)) : K :=
  c_ref01_Bytes l fun x4 =>
  c_ref02_More 0 x4 fun x5 =>
  Zcg0 k x5
abbrev ref02_Words (l : Sl) : M Int := fun k =>
  Zcg1 l k
theorem ref02_Words_ok (l : Sl) (k : Int → K) (w : World) (hyp_ : ref02_Words l k w) : c_ref02_Words l k w :=
  cl_of (P := Tryz.prog) Tryz.func257 rfl (by kernel_rfl)
  (Qs [] [0] (fun z_ => Zcg1 l k)
  Qz
  (fun _ => Qs [(2, .int .u32)] [] (fun z_ => Zcg0 k z_.1)
  Qz
  (fun ⟨x2, _⟩ => Qr))) hyp_
abbrev Zch0 (k : (Int → K)) (x4 : Int) : K :=
  k x4
abbrev Zch1 (k : (Int → K)) (s_1 : Int) : K :=
  Zch0 k (IntKind.wrap .u32 (4294967295 - s_1))
abbrev Zch2 (i_1 : Int) (c : ((Int × Int × Unit) → K)) (s_3 : Int) : K :=
  c (s_3, (IntKind.wrap .i64 (i_1 + 1)), ())
abbrev Zch3 (k_2 : Int) (c_1 : ((Int × Int × Unit) → K)) (s_6 : Int) : K :=
  c_1 (s_6, (IntKind.wrap .i64 (k_2 + 1)), ())
abbrev Zch4 (k_2 : Int) (c_1 : ((Int × Int × Unit) → K)) (s_7 : Int) (x33 : Bool) : K :=
  brK x33
  (Zch3 k_2 c_1 (bitI .xor .u32 s_7 3988292384))
  (Zch3 k_2 c_1 s_7)
abbrev Zch5 (k_2 : Int) (c_1 : ((Int × Int × Unit) → K)) (low : Int) (s_7 : Int) : K :=
  Zch4 k_2 c_1 s_7 (low == 1)
abbrev Zch6 (s_5 : Int) (k_2 : Int) (c_1 : ((Int × Int × Unit) → K)) (low : Int) : K :=
  Zch5 k_2 c_1 low (IntKind.wrap .u32 (Int.tdiv s_5 2))
abbrev Zch7 (i_1 : Int) (c : ((Int × Int × Unit) → K)) (s_5 : Int) (k_2 : Int) (c_1 : ((Int × Int × Unit) → K)) (x25 : Bool) : K :=
  brK x25
  (Zch6 s_5 k_2 c_1 (Int.tmod s_5 2))
  (Zch2 i_1 c s_5)
abbrev Zch8 (i_1 : Int) (c : ((Int × Int × Unit) → K)) (s_5 : Int) (k_2 : Int) (c_1 : ((Int × Int × Unit) → K)) : K :=
  Zch7 i_1 c s_5 k_2 c_1 (decide (k_2 < 8))
abbrev Zch9 (i_1 : Int) (c : ((Int × Int × Unit) → K)) (s_4 : Int) (k_1 : Int) : K :=
  lp (fun (z_ : (Int × Int × Unit)) c_ => Zch8 i_1 c z_.1 z_.2.1 c_) (s_4, k_1, ())
abbrev Zch10 (i_1 : Int) (c : ((Int × Int × Unit) → K)) (s_4 : Int) : K :=
  Zch9 i_1 c s_4 0
abbrev Zch11 (data : Sl) (s_2 : Int) (i_1 : Int) (c : ((Int × Int × Unit) → K)) : K :=
  ixS data.p data.n i_1 1 fun x20 =>
  ldI .u8 x20 fun x21 =>
  Zch10 i_1 c (bitI .xor .u32 s_2 (IntKind.wrap .u32 x21))
abbrev Zch12 (data : Sl) (k : (Int → K)) (s_2 : Int) (i_1 : Int) (c : ((Int × Int × Unit) → K)) (x14 : Bool) : K :=
  brK x14
  (Zch11 data s_2 i_1 c)
  (Zch1 k s_2)
abbrev Zch13 (data : Sl) (k : (Int → K)) (s_2 : Int) (i_1 : Int) (c : ((Int × Int × Unit) → K)) : K :=
  Zch12 data k s_2 i_1 c (decide (i_1 < ((data.n : Nat) : Int)))
abbrev Zch14 (data : Sl) (k : (Int → K)) (s : Int) (i : Int) : K :=
  lp (fun (z_ : (Int × Int × Unit)) c_ => Zch13 data k z_.1 z_.2.1 c_) (s, i, ())
abbrev Zch15 (data : Sl) (k : (Int → K)) (s : Int) : K :=
  Zch14 data k s 0
abbrev ref02_More (sum : Int) (data : Sl) : M Int := fun k =>
  Zch15 data k (IntKind.wrap .u32 (4294967295 - sum))
theorem ref02_More_ok (sum : Int) (data : Sl) (k : Int → K) (w : World) (hyp_ : ref02_More sum data k w) : c_ref02_More sum data k w :=
  cl_of (P := Tryz.prog) Tryz.func268 rfl (by kernel_rfl)
  (Qs [] [0, 1] (fun z_ => Zch15 data k (IntKind.wrap .u32 (4294967295 - sum)))
  Qz
  (fun _ => Qs [(5, .int .u32)] [1] (fun z_ => Zch15 data k z_.1)
  Qz
  (fun ⟨s, _⟩ => Qs [(5, .int .u32)] [] (fun z_ => Zch1 k z_.1)
  (Qs [(6, .int .i64)] [1, 5] (fun z_ => Zch14 data k s z_.1)
  Qz
  (fun ⟨i, _⟩ => Qb (Ql [(5, .int .u32), (6, .int .i64)] [1] (fun (z_ : (Int × Int × Unit)) c_ => Zch13 data k z_.1 z_.2.1 c_) (s, i, ())
  (fun ⟨s_2, i_1, _⟩ c => Qs [] [1, 5, 6] (fun z_ => Zch11 data s_2 i_1 c)
  (Qs [(14, .bool)] [1, 5, 6] (fun z_ => Zch12 data k s_2 i_1 c z_.1)
  Qz
  (fun ⟨x14, _⟩ => Qc (x14) (Zch11 data s_2 i_1 c) (Zch1 k s_2) Qk Qx))
  (fun _ => Qs [(5, .int .u32)] [1, 6] (fun z_ => Zch2 i_1 c z_.1)
  (Qb (Qs [(5, .int .u32)] [1, 6] (fun z_ => Zch10 i_1 c z_.1)
  Qz
  (fun ⟨s_4, _⟩ => Qs [(7, .int .i64)] [1, 5, 6] (fun z_ => Zch9 i_1 c s_4 z_.1)
  Qz
  (fun ⟨k_1, _⟩ => Qb (Ql [(5, .int .u32), (7, .int .i64)] [1, 6] (fun (z_ : (Int × Int × Unit)) c_ => Zch8 i_1 c z_.1 z_.2.1 c_) (s_4, k_1, ())
  (fun ⟨s_5, k_2, _⟩ c_1 => Qs [] [1, 5, 6, 7] (fun z_ => Zch6 s_5 k_2 c_1 (Int.tmod s_5 2))
  (Qs [(25, .bool)] [1, 5, 6, 7] (fun z_ => Zch7 i_1 c s_5 k_2 c_1 z_.1)
  Qz
  (fun ⟨x25, _⟩ => Qc (x25) (Zch6 s_5 k_2 c_1 (Int.tmod s_5 2)) (Zch2 i_1 c s_5) Qk Qx))
  (fun _ => Qs [(5, .int .u32)] [1, 6, 7] (fun z_ => Zch3 k_2 c_1 z_.1)
  (Qb (Qs [(8, .int .u32)] [1, 5, 6, 7] (fun z_ => Zch6 s_5 k_2 c_1 z_.1)
  Qz
  (fun ⟨low, _⟩ => Qs [(5, .int .u32)] [1, 6, 7, 8] (fun z_ => Zch5 k_2 c_1 low z_.1)
  Qz
  (fun ⟨s_7, _⟩ => Qs [(33, .bool)] [1, 5, 6, 7] (fun z_ => Zch4 k_2 c_1 s_7 z_.1)
  Qz
  (fun ⟨x33, _⟩ => Qc (x33) (Zch3 k_2 c_1 (bitI .xor .u32 s_7 3988292384)) (Zch3 k_2 c_1 s_7) Qz Qk)))))
  (fun ⟨s_6, _⟩ => Qz))))))))
  (fun ⟨s_3, _⟩ => Qz))))))
  (fun ⟨s_1, _⟩ => Qs [(4, .int .u32)] [] (fun z_ => Zch0 k z_.1)
  Qz
  (fun ⟨x4, _⟩ => Qr))))) hyp_
abbrev Zci0 (k : (Sl → K)) (x2 : Sl) : K :=
  k x2
abbrev Zci1 (k : (Sl → K)) (out_1 : Sl) : K :=
  Zci0 k out_1
abbrev Zci2 (i_1 : Int) (c : ((Sl × Int × Unit) → K)) (out_3 : Sl) : K :=
  c (out_3, (IntKind.wrap .i64 (i_1 + 1)), ())
abbrev Zci3 (k_2 : Int) (c_1 : ((Sl × Int × Int × Unit) → K)) (out_5 : Sl) (w_3 : Int) : K :=
  c_1 (out_5, w_3, (IntKind.wrap .i64 (k_2 + 1)), ())
abbrev Zci4 (w_2 : Int) (k_2 : Int) (c_1 : ((Sl × Int × Int × Unit) → K)) (out_6 : Sl) : K :=
  Zci3 k_2 c_1 out_6 (IntKind.wrap .u64 (Int.tdiv w_2 256))
abbrev Zci5 (out_4 : Sl) (w_2 : Int) (k_2 : Int) (c_1 : ((Sl × Int × Int × Unit) → K)) : K :=
  alK (.cells #[.int .u8 (IntKind.wrap .u8 (Int.tmod w_2 256))] 5) fun b =>
  semT Tryz.prog (Builtin.append_ #[60, 60] 60 #[out_4.v, .slice (some ⟨b, 0, none⟩) 1 1]) (.one (.sc (.slice))) fun x26 =>
  Zci4 w_2 k_2 c_1 x26
abbrev Zci6 (i_1 : Int) (c : ((Sl × Int × Unit) → K)) (out_4 : Sl) (w_2 : Int) (k_2 : Int) (c_1 : ((Sl × Int × Int × Unit) → K)) (x18 : Bool) : K :=
  brK x18
  (Zci5 out_4 w_2 k_2 c_1)
  (Zci2 i_1 c out_4)
abbrev Zci7 (i_1 : Int) (c : ((Sl × Int × Unit) → K)) (out_4 : Sl) (w_2 : Int) (k_2 : Int) (c_1 : ((Sl × Int × Int × Unit) → K)) : K :=
  Zci6 i_1 c out_4 w_2 k_2 c_1 (decide (k_2 < 8))
abbrev Zci8 (out_2 : Sl) (i_1 : Int) (c : ((Sl × Int × Unit) → K)) (w_1 : Int) (k_1 : Int) : K :=
  lp (fun (z_ : (Sl × Int × Int × Unit)) c_ => Zci7 i_1 c z_.1 z_.2.1 z_.2.2.1 c_) (out_2, w_1, k_1, ())
abbrev Zci9 (out_2 : Sl) (i_1 : Int) (c : ((Sl × Int × Unit) → K)) (w_1 : Int) : K :=
  Zci8 out_2 i_1 c w_1 0
abbrev Zci10 (words : Sl) (out_2 : Sl) (i_1 : Int) (c : ((Sl × Int × Unit) → K)) : K :=
  ixS words.p words.n i_1 1 fun x15 =>
  ldI .u64 x15 fun x16 =>
  Zci9 out_2 i_1 c x16
abbrev Zci11 (words : Sl) (k : (Sl → K)) (out_2 : Sl) (i_1 : Int) (c : ((Sl × Int × Unit) → K)) (x10 : Bool) : K :=
  brK x10
  (Zci10 words out_2 i_1 c)
  (Zci1 k out_2)
abbrev Zci12 (words : Sl) (k : (Sl → K)) (out_2 : Sl) (i_1 : Int) (c : ((Sl × Int × Unit) → K)) : K :=
  Zci11 words k out_2 i_1 c (decide (i_1 < ((words.n : Nat) : Int)))
abbrev Zci13 (words : Sl) (k : (Sl → K)) (out : Sl) (i : Int) : K :=
  lp (fun (z_ : (Sl × Int × Unit)) c_ => Zci12 words k z_.1 z_.2.1 c_) (out, i, ())
abbrev Zci14 (words : Sl) (k : (Sl → K)) (out : Sl) : K :=
  Zci13 words k out 0
abbrev ref01_Bytes (words : Sl) : M Sl := fun k =>
  Zci14 words k ⟨none, 0, 0⟩
theorem ref01_Bytes_ok (words : Sl) (k : Sl → K) (w : World) (hyp_ : ref01_Bytes words k w) : c_ref01_Bytes words k w :=
  cl_of (P := Tryz.prog) Tryz.func269 rfl (by kernel_rfl)
  (Qs [] [0] (fun z_ => Zci14 words k ⟨none, 0, 0⟩)
  Qz
  (fun _ => Qs [(3, .slice)] [0] (fun z_ => Zci14 words k z_.1)
  Qz
  (fun ⟨out, _⟩ => Qs [(3, .slice)] [] (fun z_ => Zci1 k z_.1)
  (Qs [(4, .int .i64)] [0, 3] (fun z_ => Zci13 words k out z_.1)
  Qz
  (fun ⟨i, _⟩ => Qb (Ql [(3, .slice), (4, .int .i64)] [0] (fun (z_ : (Sl × Int × Unit)) c_ => Zci12 words k z_.1 z_.2.1 c_) (out, i, ())
  (fun ⟨out_2, i_1, _⟩ c => Qs [] [0, 3, 4] (fun z_ => Zci10 words out_2 i_1 c)
  (Qs [(10, .bool)] [0, 3, 4] (fun z_ => Zci11 words k out_2 i_1 c z_.1)
  Qz
  (fun ⟨x10, _⟩ => Qc (x10) (Zci10 words out_2 i_1 c) (Zci1 k out_2) Qk Qx))
  (fun _ => Qs [(3, .slice)] [0, 4] (fun z_ => Zci2 i_1 c z_.1)
  (Qb (Qs [(5, .int .u64)] [0, 3, 4] (fun z_ => Zci9 out_2 i_1 c z_.1)
  Qz
  (fun ⟨w_1, _⟩ => Qs [(6, .int .i64)] [0, 3, 4, 5] (fun z_ => Zci8 out_2 i_1 c w_1 z_.1)
  Qz
  (fun ⟨k_1, _⟩ => Qb (Ql [(3, .slice), (5, .int .u64), (6, .int .i64)] [0, 4] (fun (z_ : (Sl × Int × Int × Unit)) c_ => Zci7 i_1 c z_.1 z_.2.1 z_.2.2.1 c_) (out_2, w_1, k_1, ())
  (fun ⟨out_4, w_2, k_2, _⟩ c_1 => Qs [] [0, 3, 4, 5, 6] (fun z_ => Zci5 out_4 w_2 k_2 c_1)
  (Qs [(18, .bool)] [0, 3, 4, 5, 6] (fun z_ => Zci6 i_1 c out_4 w_2 k_2 c_1 z_.1)
  Qz
  (fun ⟨x18, _⟩ => Qc (x18) (Zci5 out_4 w_2 k_2 c_1) (Zci2 i_1 c out_4) Qk Qx))
  (fun _ => Qs [(3, .slice), (5, .int .u64)] [0, 4, 6] (fun z_ => Zci3 k_2 c_1 z_.1 z_.2.1)
  (Qb (Qs [(3, .slice)] [0, 4, 5, 6] (fun z_ => Zci4 w_2 k_2 c_1 z_.1)
  Qz
  (fun ⟨out_6, _⟩ => Qz)))
  (fun ⟨out_5, w_3, _⟩ => Qz))))))))
  (fun ⟨out_3, _⟩ => Qz))))))
  (fun ⟨out_1, _⟩ => Qs [(2, .slice)] [] (fun z_ => Zci0 k z_.1)
  Qz
  (fun ⟨x2, _⟩ => Qr))))) hyp_
end
def bitN (x : Nat) : Nat := x / 2 ^^^ (if x % 2 = 1 then 3988292384 else 0)
def tabL : List Nat := [0, 498536548, 997073096, 651767980, 1994146192, 1802195444, 1303535960, 1342533948, 3988292384, 4027552580, 3604390888, 3412177804, 2607071920, 2262029012, 2685067896, 3183342108]
def tabN (i : Nat) : Nat := tabL.getD i 0
theorem bitN_xor (a b : Nat) : bitN (a ^^^ b) = bitN a ^^^ bitN b := by
  unfold bitN
  have h1 : (a ^^^ b) / 2 = a / 2 ^^^ b / 2 := by
    have := Nat.xor_div_two_pow (a := a) (b := b) (n := 1)
    simpa using this
  have h2 : (a ^^^ b) % 2 = (a % 2) ^^^ (b % 2) := by
    have := Nat.xor_mod_two_pow (a := a) (b := b) (n := 1)
    simpa using this
  rw [h1, h2]
  have ha : a % 2 = 0 ∨ a % 2 = 1 := by omega
  have hb : b % 2 = 0 ∨ b % 2 = 1 := by omega
  rcases ha with ha | ha <;> rcases hb with hb | hb <;> rw [ha, hb]
  · simp
  · simp [Nat.xor_assoc]
  · have e : ((1 : Nat) ^^^ 0) = 1 := rfl
    rw [e]
    simp only [if_true, if_neg (show ¬ (0 : Nat) = 1 by omega), Nat.xor_zero]
    rw [Nat.xor_assoc, Nat.xor_comm (b / 2), ← Nat.xor_assoc]
  · have e : ((1 : Nat) ^^^ 1) = 0 := rfl
    rw [e]
    simp only [if_true, if_neg (show ¬ (0 : Nat) = 1 by omega), Nat.xor_zero]
    rw [Nat.xor_assoc, Nat.xor_comm 3988292384, Nat.xor_assoc, Nat.xor_self, Nat.xor_zero]
theorem bitN_two (z : Nat) : bitN (2 * z) = z := by
  unfold bitN
  rw [Nat.mul_div_cancel_left _ (by omega), if_neg (by omega), Nat.xor_zero]
def bit4 (x : Nat) : Nat := bitN (bitN (bitN (bitN x)))
theorem bit4_low : ∀ i, i < 16 → bit4 i = tabN i := by decide +kernel
theorem split16 (x : Nat) : x = (16 * (x / 16)) ^^^ (x % 16) := by
  apply Nat.eq_of_testBit_eq
  intro j
  rw [Nat.testBit_xor]
  have h1 : (16 * (x / 16)).testBit j = (decide (4 ≤ j) && x.testBit j) := by
    rw [Nat.mul_comm, show (16 : Nat) = 2 ^ 4 from rfl, Nat.testBit_mul_two_pow, Nat.testBit_div_two_pow]
    by_cases h : 4 ≤ j
    · rw [Nat.sub_add_cancel h]
    · simp [h]
  have h2 : (x % 16).testBit j = (decide (j < 4) && x.testBit j) := by
    rw [show (16 : Nat) = 2 ^ 4 from rfl, Nat.testBit_mod_two_pow]
  rw [h1, h2]
  by_cases h : 4 ≤ j
  · rw [decide_eq_true h, decide_eq_false (by omega : ¬ j < 4)]; simp
  · rw [decide_eq_false h, decide_eq_true (by omega : j < 4)]; simp
theorem bit4_eq (x : Nat) : bit4 x = x / 16 ^^^ tabN (x % 16) := by
  have h : ∀ a b, bit4 (a ^^^ b) = bit4 a ^^^ bit4 b := fun a b => by unfold bit4; rw [bitN_xor, bitN_xor, bitN_xor, bitN_xor]
  have h2 : bit4 (16 * (x / 16)) = x / 16 := by
    unfold bit4
    rw [show 16 * (x / 16) = 2 * (2 * (2 * (2 * (x / 16)))) by omega, bitN_two, bitN_two, bitN_two, bitN_two]
  have h3 := bit4_low (x % 16) (Nat.mod_lt _ (by omega))
  have h4 : bit4 x = bit4 ((16 * (x / 16)) ^^^ (x % 16)) := by rw [← split16]
  rw [h4, h, h2, h3]
/-- one byte by the table -/
def tabB (s b : Nat) : Nat := tabN (((tabN ((s % 256 ^^^ b) % 16) ^^^ s / 16) % 256 ^^^ b / 16) % 16) ^^^ (tabN ((s % 256 ^^^ b) % 16) ^^^ s / 16) / 16
theorem mod16_mod256 (a b : Nat) : (a % 256 ^^^ b) % 16 = (a ^^^ b) % 16 := by
  have h1 := Nat.xor_mod_two_pow (a := a % 256) (b := b) (n := 4)
  have h2 := Nat.xor_mod_two_pow (a := a) (b := b) (n := 4)
  rw [show (2 : Nat) ^ 4 = 16 from rfl] at h1 h2
  rw [h1, h2, Nat.mod_mod_of_dvd _ (by decide)]
theorem tabB_eq {s b : Nat} (hb : b < 256) : tabB s b = bit4 (bit4 (s ^^^ b)) := by
  unfold tabB
  rw [mod16_mod256, mod16_mod256]
  have hd : ∀ a c : Nat, (a ^^^ c) / 16 = a / 16 ^^^ c / 16 := fun a c => by
    have := Nat.xor_div_two_pow (a := a) (b := c) (n := 4)
    rwa [show (2 : Nat) ^ 4 = 16 from rfl] at this
  have e1 : bit4 (s ^^^ b) = (tabN ((s ^^^ b) % 16) ^^^ s / 16) ^^^ b / 16 := by
    rw [bit4_eq, hd, Nat.xor_comm (tabN _), Nat.xor_assoc, Nat.xor_comm (b / 16), ← Nat.xor_assoc]
  rw [e1]
  generalize tabN ((s ^^^ b) % 16) ^^^ s / 16 = s'
  rw [bit4_eq, hd, show b / 16 / 16 = 0 by omega, Nat.xor_zero, Nat.xor_comm]
theorem bitN_lt {x : Nat} (h : x < 2 ^ 32) : bitN x < 2 ^ 32 := by
  unfold bitN
  refine Nat.xor_lt_two_pow (by omega) ?_
  split <;> decide
/-- the least class for so many words -/
def ofC (w : Int) : Int := (((List.range 32).find? fun (c : Nat) => decide (w ≤ clsW (c : Int))).getD 0 : Nat)
def kOf (w : Int) : Int × Bool := if 1 ≤ w ∧ w ≤ 256 then (ofC w, true) else (0, false)
theorem ofC_eq {w c : Int} (h : IsOf w c) : ofC w = c := by
  obtain ⟨h0, h1, h2, h3⟩ := h
  obtain ⟨n, rfl⟩ := Int.eq_ofNat_of_zero_le h0
  have : (List.range 32).find? (fun (c : Nat) => decide (w ≤ clsW (c : Int))) = some n := by
    rw [List.find?_range_eq_some]
    refine ⟨by simpa using h2, by simp; omega, fun j hj => ?_⟩
    have := h3 j (by omega) (by omega)
    simp; omega
  unfold ofC; rw [this]; rfl
section
variable {B : World} {R : SL}
theorem class_Of_p {w : Int} {k : Int × Bool → K} (hk : T B R (k (kOf w))) : T B R (c_class_Of w k) := by
  unfold kOf at hk
  refine class_Of_c (fun h => ?_) (fun h1 h2 c hc => ?_)
  · rw [if_neg (by omega)] at hk; exact hk
  · rw [if_pos (by omega), ofC_eq hc] at hk; exact hk
abbrev Ob := Int × Int
def oRight (o : Ob) : Prop := 0 ≤ o.1 ∧ o.1 ≤ 63 ∧ 0 ≤ o.2 ∧ o.2 ≤ 16384
instance (o : Ob) : Decidable (oRight o) := by unfold oRight; infer_instance
def oSize (o : Ob) : Int := if oRight o then 1 + o.1 + o.2 else 0
theorem oSize_rng (o : Ob) : 0 ≤ oSize o ∧ oSize o ≤ 16448 := by
  unfold oSize; split
  · rename_i h; unfold oRight at h; omega
  · omega
theorem ohead_Size_c {o : Ob} {k : Int → K} (hk : T B R (k (oSize o))) : T B R (c_ohead_Object_Size o k) := by
  refine T_of (ohead_Object_Size_ok o k) ?_
  (repeat (first | ((with_reducible apply T_ldI); (focus rfl); (focus exact hasA); (focus rfl)) | (with_reducible refine T_al ?_; intro _)))
  refine class_Size_c (fun h => ?_) (fun h1 h2 h3 h4 => ?_)
  · (repeat' (with_reducible refine T_brNE (fun _ => ?_) (fun _ => ?_)))
    · (refine T_end hk (by intro t h; repeat (first | exact h | refine T.weak ?_)) ?_)
      exact if_neg (by unfold oRight; omega)
    · simp only at *; omega
  · (repeat' (with_reducible refine T_brNE (fun _ => ?_) (fun _ => ?_)))
    · simp only at *; omega
    · (refine T_end hk (by intro t h; repeat (first | exact h | refine T.weak ?_)) ?_)
      exact if_pos (by unfold oRight; omega)
theorem ohead_Small_c {o : Ob} {k : Int × Bool → K} (hk : T B R (k (kOf (oSize o)))) : T B R (c_ohead_Object_Small o k) := by
  refine T_of (ohead_Object_Small_ok o k) ?_
  (repeat (first | ((with_reducible apply T_ldI); (focus rfl); (focus exact hasA); (focus rfl)) | (with_reducible refine T_al ?_; intro _)))
  refine ohead_Size_c ?_
  refine class_Of_p ?_
  skip
  (refine T_end hk (by intro t h; repeat (first | exact h | refine T.weak ?_)) ?_)
  rfl
def oBlocks (o : Ob) : Int := if 1 ≤ oSize o ∧ oSize o ≤ 256 then 0 else (oSize o + 511) / 512
theorem ohead_Blocks_c {o : Ob} {k : Int → K} (hk : T B R (k (oBlocks o))) : T B R (c_ohead_Object_Blocks o k) := by
  refine T_of (ohead_Object_Blocks_ok o k) ?_
  have hr := oSize_rng o
  (repeat (first | ((with_reducible apply T_ldI); (focus rfl); (focus exact hasA); (focus rfl)) | (with_reducible refine T_al ?_; intro _)))
  refine ohead_Small_c ?_
  unfold kOf
  split
  · rename_i h
    (repeat' (with_reducible refine T_brT ?_))
    (refine T_end hk (by intro t h; repeat (first | exact h | refine T.weak ?_)) ?_)
    unfold oBlocks; rw [if_pos h]
  · rename_i h
    (repeat' (first | with_reducible refine T_brF ?_ | ((with_reducible apply T_ldI); (focus rfl); (focus exact hasA); (focus rfl))))
    refine ohead_Size_c ?_
    refine bits_Up_c (by omega) (by show 0 ≤ oSize o; omega) (by show oSize o ≤ _; omega) ?_
    (refine T_end hk (by intro t h; repeat (first | exact h | refine T.weak ?_)) ?_)
    unfold oBlocks; rw [if_neg h]
    show _ = (oSize o + 512 - 1) / 512
    congr 1; omega
def oNum (o : Ob) : Int := 165 + o.1 * 256 + o.2 * 16384
def oenc (a : Int) (o : Ob) : Int := if oSize o = 0 then 0 else sealI (oNum o) a
theorem ohead_Encode_c {a : Int} {o : Ob} {k : Int → K} (hk : T B R (k (oenc a o))) : T B R (c_ohead_Object_Encode o a k) := by
  refine T_of (ohead_Object_Encode_ok o a k) ?_
  (repeat (first | ((with_reducible apply T_ldI); (focus rfl); (focus exact hasA); (focus rfl)) | (with_reducible refine T_al ?_; intro _)))
  refine ohead_Size_c ?_
  (repeat' (first | ((with_reducible apply T_ldI); (focus rfl); (focus exact hasA); (focus rfl)) | with_reducible refine T_brE (fun _ => ?_) (fun _ => ?_)))
  · rename_i h
    (refine T_end hk (by intro t h; repeat (first | exact h | refine T.weak ?_)) ?_)
    unfold oenc; exact if_pos h
  · rename_i h
    have h' : oSize o ≠ 0 := h
    have hr : oRight o := by
      by_cases hr : oRight o
      · exact hr
      · unfold oSize at h'; rw [if_neg hr] at h'; exact absurd rfl h'
    unfold oRight at hr
    (dsimp only [ohead_Object_Encode, Zaq0, Zaq1, Zaq2, Zaq3, Zaq4, Zaq5, Zaq6])
    rw [wu64 (by omega) (by omega)]
    refine bits_Put_i (r := 165 + o.1 * 256) (by omega) (by decide) (by omega) (by omega) (by show o.1 < 64; omega) rfl ?_
    (repeat (((with_reducible apply T_ldI); (focus rfl); (focus exact hasA); (focus rfl))))
    rw [wu64 (by omega) (by omega)]
    refine bits_Put_i (r := oNum o) (by omega) (by show 165 + o.1 * 256 < 16384; omega) (by omega) (by omega) (by show o.2 < 32768; omega) rfl ?_
    have hn : 0 ≤ oNum o ∧ oNum o < 4294967296 := by unfold oNum; omega
    rw [wu32', Int.emod_eq_of_lt hn.1 hn.2]
    refine crc_Seal_c hn.1 hn.2 ?_
    (refine T_end hk (by intro t h; repeat (first | exact h | refine T.weak ?_)) ?_)
    unfold oenc; exact if_neg h'
def onum (x : Int) : Ob := (x / 256 % 64, x / 16384 % 32768)
def odec (a w : Int) : Ob × Int := if sealI (w % 4294967296) a = w then (if oenc a (onum (w % 4294967296)) = w then (onum (w % 4294967296), 0) else ((0, 0), 26)) else ((0, 0), 25)
theorem ohead_Decode_c {a w : Int} {k : Ob × Int → K} (hk : T B R (k (odec a w))) : T B R (c_ohead_Decode a w k) := by
  refine T_of (ohead_Decode_ok a w k) ?_
  (repeat ((with_reducible refine T_al ?_; intro _)))
  (dsimp only [ohead_Decode, Zai0, Zai1, Zai2, Zai3, Zai4, Zai5, Zai6, Zai7, Zai8, Zai9, Zai10, Zai11])
  refine crc_Open_c ?_
  unfold odec at hk
  unfold openI
  split
  · rename_i ho
    rw [if_pos ho] at hk
    skip
    have hm : 0 ≤ w % 4294967296 ∧ w % 4294967296 < 4294967296 := by omega
    generalize w % 4294967296 = x at *
    rw [wu64 (by omega) (by omega)]
    refine bits_Get_i (r := x / 256 % 64) (by omega) (by omega) (by omega) (by omega) rfl ?_
    refine bits_Get_i (r := x / 16384 % 32768) (by omega) (by omega) (by omega) (by omega) rfl ?_
    rw [w64 (by omega) (by omega), w64 (by omega) (by omega)]
    (repeat (first | ((with_reducible apply T_ldI); (focus rfl); (focus exact hasA); (focus rfl)) | (with_reducible refine T_al ?_; intro _) | ((with_reducible apply T_st); (focus rfl); (focus exact updA); (focus simp); simp only [List.set, Nat.zero_add, Nat.reduceAdd])))
    refine ohead_Encode_c ?_
    (repeat' (first | ((with_reducible apply T_ldI); (focus rfl); (focus exact hasA); (focus rfl)) | ((with_reducible apply T_st); (focus rfl); (focus exact updA); (focus simp); simp only [List.set, Nat.zero_add, Nat.reduceAdd]) | with_reducible refine T_brNE (fun _ => ?_) (fun _ => ?_)))
    · rename_i hne
      (refine T_end hk (by intro t h; repeat (first | exact h | refine T.weak ?_)) ?_)
      exact if_neg hne
    · rename_i he
      (refine T_end hk (by intro t h; repeat (first | exact h | refine T.weak ?_)) ?_)
      exact if_pos he
  · rename_i ho
    rw [if_neg ho] at hk
    (repeat' (first | with_reducible refine T_brF ?_ | ((with_reducible apply T_ldI); (focus rfl); (focus exact hasA); (focus rfl)) | ((with_reducible apply T_st); (focus rfl); (focus exact updA); (focus simp); simp only [List.set, Nat.zero_add, Nat.reduceAdd]) | with_reducible refine T_brN ?_))
    (refine T_end hk (by intro t h; repeat (first | exact h | refine T.weak ?_)) ?_)
    rfl
theorem odec_oenc {a : Int} {o : Ob} (r : oRight o) : odec a (oenc a o) = (o, 0) := by
  have r' := r
  unfold oRight at r'
  obtain ⟨p, d⟩ := o
  simp only at r'
  have hs : oSize (p, d) ≠ 0 := by unfold oSize; rw [if_pos r]; simp only; omega
  have hn : 0 ≤ oNum (p, d) ∧ oNum (p, d) < 4294967296 := by unfold oNum; simp only; omega
  have e : onum (oNum (p, d)) = (p, d) := by unfold onum oNum; simp only [Prod.mk.injEq]; omega
  have hb : oenc a (p, d) = sealI (oNum (p, d)) a := by unfold oenc; exact if_neg hs
  unfold odec
  rw [hb, (sealI_rng hn.1 hn.2).2.2, if_pos rfl, e, hb, if_pos rfl]
def cellAt (g k : Int) (c : Int × Int) : Int := if ¬ (0 ≤ k ∧ k < 32) ∨ c.1 < 1 ∨ c.1 ≥ g ∨ c.2 < 0 ∨ c.2 ≥ cls k then -1 else c.1 * 512 + c.2 * clsW k
theorem cls_rng {k : Int} (h : 0 ≤ k ∧ k < 32) : 2 ≤ cls k ∧ cls k ≤ 256 ∧ cls k * clsW k ≤ 512 := by
  unfold cls clsW; rw [if_pos h, if_pos h]
  have : ∀ n : Nat, n < 32 → 2 ≤ 512 / szs.getD n 0 ∧ 512 / szs.getD n 0 ≤ 256 ∧ 512 / szs.getD n 0 * szs.getD n 0 ≤ 512 := by decide
  exact this k.toNat (by omega)
theorem cells_Address_c {g c : Int} {x : Int × Int} (h1 : g ≤ 2 ^ 40) {k : Int → K} (hk : T B R (k (cellAt g c x))) : T B R (c_cells_Address g c x k) := by
  refine T_of (cells_Address_ok g c x k) ?_
  unfold cellAt at hk
  (repeat (first | with_reducible refine T_tick ?_ | (with_reducible refine T_al ?_; intro _)))
  refine class_Right_c ?_
  (repeat' (first | with_reducible refine T_brT ?_ | ((with_reducible apply T_ldI); (focus rfl); (focus exact hasA); (focus rfl)) | with_reducible refine T_brD (fun _ => ?_) (fun _ => ?_) | with_reducible refine T_brN ?_))
  all_goals try ((refine T_end hk (by intro t h; repeat (first | exact h | refine T.weak ?_)) ?_); exact if_pos (by omega))
  refine class_Cells_c ?_
  (repeat' (first | with_reducible refine T_tick ?_ | with_reducible refine T_chk0 ?_ | ((with_reducible apply T_ldI); (focus rfl); (focus exact hasA); (focus rfl)) | ((with_reducible apply T_chk); (focus rfl); (focus exact hasA); (focus rfl)) | with_reducible refine T_brD (fun _ => ?_) (fun _ => ?_)))
  · (refine T_end hk (by intro t h; repeat (first | exact h | refine T.weak ?_)) ?_); exact if_pos (by omega)
  · have hr := cls_rng (k := c) (by omega)
    have hp := clsW_pos (c := c) (by omega)
    refine geom_First_c h1 ?_
    (repeat (first | with_reducible refine T_chk0 ?_ | ((with_reducible apply T_chk); (focus rfl); (focus exact hasA); (focus rfl))))
    refine class_Words_c ?_
    (repeat (first | with_reducible refine T_chk0 ?_ | ((with_reducible apply T_chk); (focus rfl); (focus exact hasA); (focus rfl))))
    have hm : x.2 * clsW c ≤ cls c * clsW c := Int.mul_le_mul_of_nonneg_right (by omega) (by omega)
    have hm0 : 0 ≤ x.2 * clsW c := Int.mul_nonneg (by omega) (by omega)
    have hf : first g x.1 = x.1 * 512 := by unfold first; rw [if_neg (by omega)]
    rw [hf, w64 (n := x.2 * clsW c) (by omega) (by omega), w64 (by omega) (by omega)]
    (refine T_end hk (by intro t h; repeat (first | exact h | refine T.weak ?_)) ?_)
    exact if_neg (by omega)
def cellOf (g k a : Int) : (Int × Int) × Bool :=
  if ¬ (0 ≤ k ∧ k < 32) ∨ ¬ 1 ≤ blockOf g a then ((0, 0), false) else ((blockOf g a, a % 512 / clsW k), decide (cellAt g k (blockOf g a, a % 512 / clsW k) = a))
theorem cells_At_c {g c a : Int} (h0 : 0 ≤ g) (h1 : g ≤ 2 ^ 40) {k : (Int × Int) × Bool → K} (hk : T B R (k (cellOf g c a))) : T B R (c_cells_At g c a k) := by
  refine T_of (cells_At_ok g c a k) ?_
  unfold cellOf at hk
  (repeat ((with_reducible refine T_al ?_; intro _)))
  (dsimp only [cells_At, Zaj0, Zaj1, Zaj2, Zaj3, Zaj4, Zaj5, Zaj6])
  refine class_Right_c ?_
  (repeat' (first | with_reducible refine T_brT ?_ | ((with_reducible apply T_ldI); (focus rfl); (focus exact hasA); (focus rfl)) | ((with_reducible apply T_st); (focus rfl); (focus exact updA); (focus simp); simp only [List.set, Nat.zero_add, Nat.reduceAdd]) | with_reducible refine T_brD (fun _ => ?_) (fun _ => ?_) | with_reducible refine T_brN ?_))
  all_goals try ((refine T_end hk (by intro t h; repeat (first | exact h | refine T.weak ?_)) ?_); exact if_pos (by omega))
  refine geom_Data_c h0 h1 ?_
  (repeat' (first | ((with_reducible apply T_ldI); (focus rfl); (focus exact hasA); (focus rfl)) | ((with_reducible apply T_st); (focus rfl); (focus exact updA); (focus simp); simp only [List.set, Nat.zero_add, Nat.reduceAdd]) | with_reducible refine T_brD (fun _ => ?_) (fun _ => ?_) | with_reducible refine T_brN ?_))
  · rename_i hd
    refine geom_BlockOf_c h0 h1 ?_
    refine class_Words_c ?_
    have hp := clsW_pos (c := c) (by assumption)
    refine T_nz (by omega) ?_
    (repeat (first | with_reducible refine T_tick ?_ | ((with_reducible apply T_ldI); (focus rfl); (focus exact hasA); (focus rfl)) | (with_reducible refine T_al ?_; intro _) | ((with_reducible apply T_st); (focus rfl); (focus exact updA); (focus simp); simp only [List.set, Nat.zero_add, Nat.reduceAdd])))
    have ha : 0 ≤ a := by unfold blockOf at hd; split at hd <;> omega
    have e1 : Int.tmod a 512 = a % 512 := Int.tmod_eq_emod_of_nonneg ha
    have e2 : Int.tdiv (a % 512) (clsW c) = a % 512 / clsW c := Int.tdiv_eq_ediv_of_nonneg (by omega)
    have e3 : 0 ≤ a % 512 / clsW c ∧ a % 512 / clsW c ≤ a % 512 := ⟨Int.ediv_nonneg (by omega) (by omega), Int.ediv_le_self _ (by omega)⟩
    have e4 : IntKind.wrap .i64 (Int.tdiv (Int.tmod a 512) (clsW c)) = a % 512 / clsW c := by rw [e1, e2, w64 (by omega) (by omega)]
    rw [e4]
    refine cells_Address_c h1 ?_
    (repeat (first | with_reducible refine T_chk0 ?_ | ((with_reducible apply T_ldI); (focus rfl); (focus exact hasA); (focus rfl)) | ((with_reducible apply T_st); (focus rfl); (focus exact updA); (focus simp); simp only [List.set, Nat.zero_add, Nat.reduceAdd]) | ((with_reducible apply T_chk); (focus rfl); (focus exact hasA); (focus rfl))))
    (refine T_end hk (by intro t h; repeat (first | exact h | refine T.weak ?_)) ?_)
    rw [if_neg (by omega)]
    rfl
  · (refine T_end hk (by intro t h; repeat (first | exact h | refine T.weak ?_)) ?_); exact if_pos (by omega)
end
section
set_option maxRecDepth 100000
abbrev Zcj0 (k : (Sl → K)) (x2 : Sl) : K :=
  k x2
abbrev Zcj1 (s : Sl) (k : (Sl → K)) : K :=
  alK (.cells #[] 3) fun b =>
  semT Tryz.prog (Builtin.append_ #[27, 27] 27 #[.slice (some ⟨b, 0, none⟩) 0 0, s.v]) (.one (.sc (.slice))) fun x7 =>
  Zcj0 k x7
abbrev Zcj2 (k : (Sl → K)) (x2_1 : Sl) : K :=
  k x2_1
abbrev Zcj3 (s : Sl) (k : (Sl → K)) (x4 : Bool) : K :=
  brK x4
  (Zcj2 k ⟨none, 0, 0⟩)
  (Zcj1 s k)
abbrev slices_Clone_Sint_int (s : Sl) : M Sl := fun k =>
  Zcj3 s k (Option.isNone s.p)
theorem slices_Clone_Sint_int_ok (s : Sl) (k : Sl → K) (w : World) (hyp_ : slices_Clone_Sint_int s k w) : c_slices_Clone_Sint_int s k w :=
  cl_of (P := Tryz.prog) Tryz.func146 rfl (by kernel_rfl)
  (Qs [] [0] (fun z_ => Zcj3 s k (Option.isNone s.p))
  Qz
  (fun _ => Qs [] [0] (fun z_ => Zcj1 s k)
  (Qs [(4, .bool)] [0] (fun z_ => Zcj3 s k z_.1)
  Qz
  (fun ⟨x4, _⟩ => Qc (x4) (Zcj2 k ⟨none, 0, 0⟩) (Zcj1 s k) (Qs [(2, .slice)] [] (fun z_ => Zcj2 k z_.1)
  Qz
  (fun ⟨x2_1, _⟩ => Qr)) Qk))
  (fun _ => Qs [(2, .slice)] [] (fun z_ => Zcj0 k z_.1)
  Qz
  (fun ⟨x2, _⟩ => Qr)))) hyp_
abbrev Zck0 (k : (Bool → K)) (x4 : Bool) : K :=
  k x4
abbrev Zck1 (s : Sl) (v : Int) (k : (Bool → K)) : K :=
  c_slices_Index_Sint_int s v fun x7 =>
  Zck0 k (decide (x7 ≥ 0))
abbrev slices_Contains_Sint_int (s : Sl) (v : Int) : M Bool := fun k =>
  Zck1 s v k
theorem slices_Contains_Sint_int_ok (s : Sl) (v : Int) (k : Bool → K) (w : World) (hyp_ : slices_Contains_Sint_int s v k w) : c_slices_Contains_Sint_int s v k w :=
  cl_of (P := Tryz.prog) Tryz.func199 rfl (by kernel_rfl)
  (Qs [] [0, 1] (fun z_ => Zck1 s v k)
  Qz
  (fun _ => Qs [(4, .bool)] [] (fun z_ => Zck0 k z_.1)
  Qz
  (fun ⟨x4, _⟩ => Qr))) hyp_
abbrev Zcl0 (k : (Sl → K)) (x4 : Sl) : K :=
  k x4
abbrev Zcl1 (s : Sl) (k : (Sl → K)) (i_1 : Int) : K :=
  loB (some (.int .i64 i_1)) s.n s.c fun h =>
  Zcl0 k ⟨(cutP s.p 0 s.c 1), (h - 0), (s.c - 0)⟩
abbrev Zcl2 (s : Sl) (k : (Sl → K)) (i_1 : Int) : K :=
  loB (some (.int .i64 i_1)) 0 s.n fun l =>
  semT Tryz.prog (Builtin.clear_ #[27] 0 #[.slice (cutP s.p l s.c 1) (s.n - l) (s.c - l)]) (.tup []) fun r =>
  Zcl1 s k i_1
abbrev Zcl3 (j_1 : Int) (c : ((Int × Int × Unit) → K)) (i_3 : Int) : K :=
  c (i_3, (IntKind.wrap .i64 (j_1 + 1)), ())
abbrev Zcl4 (s : Sl) (i_2 : Int) (j_1 : Int) (c : ((Int × Int × Unit) → K)) (v : Int) : K :=
  ixS s.p s.n i_2 1 fun x33 =>
  stK (x33.add 0) (.int .i64 v) <|
  Zcl3 j_1 c (IntKind.wrap .i64 (i_2 + 1))
abbrev Zcl5 (s : Sl) (i_2 : Int) (j_1 : Int) (c : ((Int × Int × Unit) → K)) (v : Int) (x29 : Bool) : K :=
  brK x29
  (Zcl4 s i_2 j_1 c v)
  (Zcl3 j_1 c i_2)
abbrev Zcl6 (s : Sl) (del : Fv) (i_2 : Int) (j_1 : Int) (c : ((Int × Int × Unit) → K)) (v : Int) : K :=
  dyn Tryz.prog (del.v) #[.int .i64 v] (.one (.sc (.bool))) fun x28 =>
  Zcl5 s i_2 j_1 c v (!x28)
abbrev Zcl7 (s : Sl) (del : Fv) (i_2 : Int) (j_1 : Int) (c : ((Int × Int × Unit) → K)) : K :=
  ixS s.p s.n j_1 1 fun x24 =>
  ldI .i64 x24 fun x25 =>
  Zcl6 s del i_2 j_1 c x25
abbrev Zcl8 (s : Sl) (del : Fv) (k : (Sl → K)) (i_2 : Int) (j_1 : Int) (c : ((Int × Int × Unit) → K)) (x19 : Bool) : K :=
  brK x19
  (Zcl7 s del i_2 j_1 c)
  (Zcl2 s k i_2)
abbrev Zcl9 (s : Sl) (del : Fv) (k : (Sl → K)) (i_2 : Int) (j_1 : Int) (c : ((Int × Int × Unit) → K)) : K :=
  Zcl8 s del k i_2 j_1 c (decide (j_1 < ((s.n : Nat) : Int)))
abbrev Zcl10 (s : Sl) (del : Fv) (k : (Sl → K)) (i : Int) (j : Int) : K :=
  lp (fun (z_ : (Int × Int × Unit)) c_ => Zcl9 s del k z_.1 z_.2.1 c_) (i, j, ())
abbrev Zcl11 (k : (Sl → K)) (x4_1 : Sl) : K :=
  k x4_1
abbrev Zcl12 (s : Sl) (del : Fv) (k : (Sl → K)) (i : Int) (x12 : Bool) : K :=
  brK x12
  (Zcl11 k s)
  (Zcl10 s del k i (IntKind.wrap .i64 (i + 1)))
abbrev Zcl13 (s : Sl) (del : Fv) (k : (Sl → K)) (i : Int) : K :=
  Zcl12 s del k i (i == (-1))
abbrev Zcl14 (s : Sl) (del : Fv) (k : (Sl → K)) : K :=
  c_slices_IndexFunc_Sint_int s del fun x10 =>
  Zcl13 s del k x10
abbrev slices_DeleteFunc_Sint_int (s : Sl) (del : Fv) : M Sl := fun k =>
  Zcl14 s del k
theorem slices_DeleteFunc_Sint_int_ok (s : Sl) (del : Fv) (k : Sl → K) (w : World) (hyp_ : slices_DeleteFunc_Sint_int s del k w) : c_slices_DeleteFunc_Sint_int s del k w :=
  cl_of (P := Tryz.prog) Tryz.func211 rfl (by kernel_rfl)
  (Qs [] [0, 1] (fun z_ => Zcl14 s del k)
  Qz
  (fun _ => Qs [(5, .int .i64)] [0, 1] (fun z_ => Zcl13 s del k z_.1)
  Qz
  (fun ⟨i, _⟩ => Qs [] [0, 1, 5] (fun z_ => Zcl10 s del k i (IntKind.wrap .i64 (i + 1)))
  (Qs [(12, .bool)] [0, 1, 5] (fun z_ => Zcl12 s del k i z_.1)
  Qz
  (fun ⟨x12, _⟩ => Qc (x12) (Zcl11 k s) (Zcl10 s del k i (IntKind.wrap .i64 (i + 1))) (Qs [(4, .slice)] [] (fun z_ => Zcl11 k z_.1)
  Qz
  (fun ⟨x4_1, _⟩ => Qr)) Qk))
  (fun _ => Qs [(5, .int .i64)] [0] (fun z_ => Zcl2 s k z_.1)
  (Qs [(6, .int .i64)] [0, 1, 5] (fun z_ => Zcl10 s del k i z_.1)
  Qz
  (fun ⟨j, _⟩ => Qb (Ql [(5, .int .i64), (6, .int .i64)] [0, 1] (fun (z_ : (Int × Int × Unit)) c_ => Zcl9 s del k z_.1 z_.2.1 c_) (i, j, ())
  (fun ⟨i_2, j_1, _⟩ c => Qs [] [0, 1, 5, 6] (fun z_ => Zcl7 s del i_2 j_1 c)
  (Qs [(19, .bool)] [0, 1, 5, 6] (fun z_ => Zcl8 s del k i_2 j_1 c z_.1)
  Qz
  (fun ⟨x19, _⟩ => Qc (x19) (Zcl7 s del i_2 j_1 c) (Zcl2 s k i_2) Qk Qx))
  (fun _ => Qs [(5, .int .i64)] [0, 1, 6] (fun z_ => Zcl3 j_1 c z_.1)
  (Qb (Qs [(7, .int .i64)] [0, 1, 5, 6] (fun z_ => Zcl6 s del i_2 j_1 c z_.1)
  Qz
  (fun ⟨v, _⟩ => Qs [(29, .bool)] [0, 1, 5, 6, 7] (fun z_ => Zcl5 s i_2 j_1 c v z_.1)
  Qz
  (fun ⟨x29, _⟩ => Qc (x29) (Zcl4 s i_2 j_1 c v) (Zcl3 j_1 c i_2) (Qs [] [0, 1, 5, 6] (fun z_ => Zcl3 j_1 c (IntKind.wrap .i64 (i_2 + 1)))
  Qz
  (fun _ => Qz)) Qk))))
  (fun ⟨i_3, _⟩ => Qz))))))
  (fun ⟨i_1, _⟩ => Qs [] [0, 5] (fun z_ => Zcl1 s k i_1)
  Qz
  (fun _ => Qs [(4, .slice)] [] (fun z_ => Zcl0 k z_.1)
  Qz
  (fun ⟨x4, _⟩ => Qr))))))) hyp_
abbrev Zcm0 (k : (Sl → K)) (x2 : Sl) : K :=
  k x2
abbrev Zcm1 (s : Sl) (k : (Sl → K)) : K :=
  alK (.cells #[] 109) fun b =>
  semT Tryz.prog (Builtin.append_ #[162, 162] 162 #[.slice (some ⟨b, 0, none⟩) 0 0, s.v]) (.one (.sc (.slice))) fun x7 =>
  Zcm0 k x7
abbrev Zcm2 (k : (Sl → K)) (x2_1 : Sl) : K :=
  k x2_1
abbrev Zcm3 (s : Sl) (k : (Sl → K)) (x4 : Bool) : K :=
  brK x4
  (Zcm2 k ⟨none, 0, 0⟩)
  (Zcm1 s k)
abbrev slices_Clone_Suint64_uint64 (s : Sl) : M Sl := fun k =>
  Zcm3 s k (Option.isNone s.p)
theorem slices_Clone_Suint64_uint64_ok (s : Sl) (k : Sl → K) (w : World) (hyp_ : slices_Clone_Suint64_uint64 s k w) : c_slices_Clone_Suint64_uint64 s k w :=
  cl_of (P := Tryz.prog) Tryz.func217 rfl (by kernel_rfl)
  (Qs [] [0] (fun z_ => Zcm3 s k (Option.isNone s.p))
  Qz
  (fun _ => Qs [] [0] (fun z_ => Zcm1 s k)
  (Qs [(4, .bool)] [0] (fun z_ => Zcm3 s k z_.1)
  Qz
  (fun ⟨x4, _⟩ => Qc (x4) (Zcm2 k ⟨none, 0, 0⟩) (Zcm1 s k) (Qs [(2, .slice)] [] (fun z_ => Zcm2 k z_.1)
  Qz
  (fun ⟨x2_1, _⟩ => Qr)) Qk))
  (fun _ => Qs [(2, .slice)] [] (fun z_ => Zcm0 k z_.1)
  Qz
  (fun ⟨x2, _⟩ => Qr)))) hyp_
abbrev Zcn0 (k : (Int → K)) (x4 : Int) : K :=
  k x4
abbrev Zcn1 (k : (Int → K)) (x4_1 : Int) : K :=
  k x4_1
abbrev Zcn2 (k : (Int → K)) (x8_1 : Int) (c : ((Int × Unit) → K)) (i : Int) (x16 : Bool) : K :=
  brK x16
  (Zcn1 k i)
  (c ((IntKind.wrap .i64 (x8_1 + 1)), ()))
abbrev Zcn3 (s : Sl) (v : Int) (k : (Int → K)) (x8_1 : Int) (c : ((Int × Unit) → K)) (i : Int) : K :=
  ixS s.p s.n i 1 fun x14 =>
  ldI .i64 x14 fun x15 =>
  Zcn2 k x8_1 c i (v == x15)
abbrev Zcn4 (s : Sl) (v : Int) (k : (Int → K)) (x8_1 : Int) (c : ((Int × Unit) → K)) (x9 : Bool) : K :=
  brK x9
  (Zcn3 s v k x8_1 c x8_1)
  (Zcn0 k (-1))
abbrev Zcn5 (s : Sl) (v : Int) (k : (Int → K)) (x7 : Int) (x8_1 : Int) (c : ((Int × Unit) → K)) : K :=
  Zcn4 s v k x8_1 c (decide (x8_1 < x7))
abbrev Zcn6 (s : Sl) (v : Int) (k : (Int → K)) (x7 : Int) (x8 : Int) : K :=
  lp (fun (z_ : (Int × Unit)) c_ => Zcn5 s v k x7 z_.1 c_) (x8, ())
abbrev slices_Index_Sint_int (s : Sl) (v : Int) : M Int := fun k =>
  Zcn6 s v k ((s.n : Nat) : Int) 0
theorem slices_Index_Sint_int_ok (s : Sl) (v : Int) (k : Int → K) (w : World) (hyp_ : slices_Index_Sint_int s v k w) : c_slices_Index_Sint_int s v k w :=
  cl_of (P := Tryz.prog) Tryz.func225 rfl (by kernel_rfl)
  (Qs [] [0, 1] (fun z_ => Zcn6 s v k ((s.n : Nat) : Int) 0)
  Qz
  (fun _ => Qs [] [] (fun z_ => Zcn0 k (-1))
  (Qs [(7, .int .i64), (8, .int .i64)] [0, 1] (fun z_ => Zcn6 s v k z_.1 z_.2.1)
  Qz
  (fun ⟨x7, x8, _⟩ => Qb (Ql [(8, .int .i64)] [0, 1, 7] (fun (z_ : (Int × Unit)) c_ => Zcn5 s v k x7 z_.1 c_) (x8, ())
  (fun ⟨x8_1, _⟩ c => Qs [(9, .bool)] [0, 1, 7, 8] (fun z_ => Zcn4 s v k x8_1 c z_.1)
  Qz
  (fun ⟨x9, _⟩ => Qs [] [0, 1, 7, 8] (fun z_ => Zcn3 s v k x8_1 c x8_1)
  (Qc (x9) (Zcn3 s v k x8_1 c x8_1) (Zcn0 k (-1)) Qk Qx)
  (fun _ => Qs [] [0, 1, 7, 8] (fun z_ => c ((IntKind.wrap .i64 (x8_1 + 1)), ()))
  (Qb (Qs [(5, .int .i64)] [0, 1, 7, 8] (fun z_ => Zcn3 s v k x8_1 c z_.1)
  Qz
  (fun ⟨i, _⟩ => Qs [(16, .bool)] [0, 1, 5, 7, 8] (fun z_ => Zcn2 k x8_1 c i z_.1)
  Qz
  (fun ⟨x16, _⟩ => Qc (x16) (Zcn1 k i) (c ((IntKind.wrap .i64 (x8_1 + 1)), ())) (Qs [(4, .int .i64)] [] (fun z_ => Zcn1 k z_.1)
  Qz
  (fun ⟨x4_1, _⟩ => Qr)) Qk))))
  (fun _ => Qz)))))))
  (fun _ => Qs [(4, .int .i64)] [] (fun z_ => Zcn0 k z_.1)
  Qz
  (fun ⟨x4, _⟩ => Qr)))) hyp_
abbrev Zco0 (k : (Int → K)) (x4 : Int) : K :=
  k x4
abbrev Zco1 (k : (Int → K)) (x4_1 : Int) : K :=
  k x4_1
abbrev Zco2 (k : (Int → K)) (x8_1 : Int) (c : ((Int × Unit) → K)) (i : Int) (x16 : Bool) : K :=
  brK x16
  (Zco1 k i)
  (c ((IntKind.wrap .i64 (x8_1 + 1)), ()))
abbrev Zco3 (s : Sl) (f : Fv) (k : (Int → K)) (x8_1 : Int) (c : ((Int × Unit) → K)) (i : Int) : K :=
  ixS s.p s.n i 1 fun x14 =>
  ldI .i64 x14 fun x15 =>
  dyn Tryz.prog (f.v) #[.int .i64 x15] (.one (.sc (.bool))) fun x16_1 =>
  Zco2 k x8_1 c i x16_1
abbrev Zco4 (s : Sl) (f : Fv) (k : (Int → K)) (x8_1 : Int) (c : ((Int × Unit) → K)) (x9 : Bool) : K :=
  brK x9
  (Zco3 s f k x8_1 c x8_1)
  (Zco0 k (-1))
abbrev Zco5 (s : Sl) (f : Fv) (k : (Int → K)) (x7 : Int) (x8_1 : Int) (c : ((Int × Unit) → K)) : K :=
  Zco4 s f k x8_1 c (decide (x8_1 < x7))
abbrev Zco6 (s : Sl) (f : Fv) (k : (Int → K)) (x7 : Int) (x8 : Int) : K :=
  lp (fun (z_ : (Int × Unit)) c_ => Zco5 s f k x7 z_.1 c_) (x8, ())
abbrev slices_IndexFunc_Sint_int (s : Sl) (f : Fv) : M Int := fun k =>
  Zco6 s f k ((s.n : Nat) : Int) 0
theorem slices_IndexFunc_Sint_int_ok (s : Sl) (f : Fv) (k : Int → K) (w : World) (hyp_ : slices_IndexFunc_Sint_int s f k w) : c_slices_IndexFunc_Sint_int s f k w :=
  cl_of (P := Tryz.prog) Tryz.func230 rfl (by kernel_rfl)
  (Qs [] [0, 1] (fun z_ => Zco6 s f k ((s.n : Nat) : Int) 0)
  Qz
  (fun _ => Qs [] [] (fun z_ => Zco0 k (-1))
  (Qs [(7, .int .i64), (8, .int .i64)] [0, 1] (fun z_ => Zco6 s f k z_.1 z_.2.1)
  Qz
  (fun ⟨x7, x8, _⟩ => Qb (Ql [(8, .int .i64)] [0, 1, 7] (fun (z_ : (Int × Unit)) c_ => Zco5 s f k x7 z_.1 c_) (x8, ())
  (fun ⟨x8_1, _⟩ c => Qs [(9, .bool)] [0, 1, 7, 8] (fun z_ => Zco4 s f k x8_1 c z_.1)
  Qz
  (fun ⟨x9, _⟩ => Qs [] [0, 1, 7, 8] (fun z_ => Zco3 s f k x8_1 c x8_1)
  (Qc (x9) (Zco3 s f k x8_1 c x8_1) (Zco0 k (-1)) Qk Qx)
  (fun _ => Qs [] [0, 1, 7, 8] (fun z_ => c ((IntKind.wrap .i64 (x8_1 + 1)), ()))
  (Qb (Qs [(5, .int .i64)] [0, 1, 7, 8] (fun z_ => Zco3 s f k x8_1 c z_.1)
  Qz
  (fun ⟨i, _⟩ => Qs [(16, .bool)] [0, 1, 5, 7, 8] (fun z_ => Zco2 k x8_1 c i z_.1)
  Qz
  (fun ⟨x16, _⟩ => Qc (x16) (Zco1 k i) (c ((IntKind.wrap .i64 (x8_1 + 1)), ())) (Qs [(4, .int .i64)] [] (fun z_ => Zco1 k z_.1)
  Qz
  (fun ⟨x4_1, _⟩ => Qr)) Qk))))
  (fun _ => Qz)))))))
  (fun _ => Qs [(4, .int .i64)] [] (fun z_ => Zco0 k z_.1)
  Qz
  (fun ⟨x4, _⟩ => Qr)))) hyp_
abbrev Zcp0 (k : (Bool → K)) (x4 : Bool) : K :=
  k x4
abbrev Zcp1 (k : (Bool → K)) (x4_1 : Bool) : K :=
  k x4_1
abbrev Zcp2 (k : (Bool → K)) (x13_1 : Int) (c : ((Int × Unit) → K)) (x24 : Bool) : K :=
  brK x24
  (Zcp1 k false)
  (c ((IntKind.wrap .i64 (x13_1 + 1)), ()))
abbrev Zcp3 (s1 : Sl) (s2 : Sl) (k : (Bool → K)) (x13_1 : Int) (c : ((Int × Unit) → K)) (i : Int) : K :=
  tick fun _ =>
  ixS s1.p s1.n i 1 fun x18 =>
  ldI .u64 x18 fun x19 =>
  ixS s2.p s2.n i 1 fun x22 =>
  ldI .u64 x22 fun x23 =>
  Zcp2 k x13_1 c (x19 != x23)
abbrev Zcp4 (s1 : Sl) (s2 : Sl) (k : (Bool → K)) (x13_1 : Int) (c : ((Int × Unit) → K)) (x14 : Bool) : K :=
  brK x14
  (Zcp3 s1 s2 k x13_1 c x13_1)
  (Zcp0 k true)
abbrev Zcp5 (s1 : Sl) (s2 : Sl) (k : (Bool → K)) (x12 : Int) (x13_1 : Int) (c : ((Int × Unit) → K)) : K :=
  Zcp4 s1 s2 k x13_1 c (decide (x13_1 < x12))
abbrev Zcp6 (s1 : Sl) (s2 : Sl) (k : (Bool → K)) (x12 : Int) (x13 : Int) : K :=
  lp (fun (z_ : (Int × Unit)) c_ => Zcp5 s1 s2 k x12 z_.1 c_) (x13, ())
abbrev Zcp7 (k : (Bool → K)) (x4_2 : Bool) : K :=
  k x4_2
abbrev Zcp8 (s1 : Sl) (s2 : Sl) (k : (Bool → K)) (x10 : Bool) : K :=
  brK x10
  (Zcp7 k false)
  (Zcp6 s1 s2 k ((s1.n : Nat) : Int) 0)
abbrev slices_Equal_Suint64_uint64 (s1 : Sl) (s2 : Sl) : M Bool := fun k =>
  Zcp8 s1 s2 k (((s1.n : Nat) : Int) != ((s2.n : Nat) : Int))
theorem slices_Equal_Suint64_uint64_ok (s1 : Sl) (s2 : Sl) (k : Bool → K) (w : World) (hyp_ : slices_Equal_Suint64_uint64 s1 s2 k w) : c_slices_Equal_Suint64_uint64 s1 s2 k w :=
  cl_of (P := Tryz.prog) Tryz.func234 rfl (by kernel_rfl)
  (Qs [] [0, 1] (fun z_ => Zcp8 s1 s2 k (((s1.n : Nat) : Int) != ((s2.n : Nat) : Int)))
  Qz
  (fun _ => Qs [] [0, 1] (fun z_ => Zcp6 s1 s2 k ((s1.n : Nat) : Int) 0)
  (Qs [(10, .bool)] [0, 1] (fun z_ => Zcp8 s1 s2 k z_.1)
  Qz
  (fun ⟨x10, _⟩ => Qc (x10) (Zcp7 k false) (Zcp6 s1 s2 k ((s1.n : Nat) : Int) 0) (Qs [(4, .bool)] [] (fun z_ => Zcp7 k z_.1)
  Qz
  (fun ⟨x4_2, _⟩ => Qr)) Qk))
  (fun _ => Qs [] [] (fun z_ => Zcp0 k true)
  (Qs [(12, .int .i64), (13, .int .i64)] [0, 1] (fun z_ => Zcp6 s1 s2 k z_.1 z_.2.1)
  Qz
  (fun ⟨x12, x13, _⟩ => Qb (Ql [(13, .int .i64)] [0, 1, 12] (fun (z_ : (Int × Unit)) c_ => Zcp5 s1 s2 k x12 z_.1 c_) (x13, ())
  (fun ⟨x13_1, _⟩ c => Qs [(14, .bool)] [0, 1, 12, 13] (fun z_ => Zcp4 s1 s2 k x13_1 c z_.1)
  Qz
  (fun ⟨x14, _⟩ => Qs [] [0, 1, 12, 13] (fun z_ => Zcp3 s1 s2 k x13_1 c x13_1)
  (Qc (x14) (Zcp3 s1 s2 k x13_1 c x13_1) (Zcp0 k true) Qk Qx)
  (fun _ => Qs [] [0, 1, 12, 13] (fun z_ => c ((IntKind.wrap .i64 (x13_1 + 1)), ()))
  (Qb (Qs [(5, .int .i64)] [0, 1, 12, 13] (fun z_ => Zcp3 s1 s2 k x13_1 c z_.1)
  Qz
  (fun ⟨i, _⟩ => Qs [(24, .bool)] [0, 1, 12, 13] (fun z_ => Zcp2 k x13_1 c z_.1)
  (RefK.draw [] [0, 0, 3, 7, 0, 0, 48, 112, 255] [0, 1, 2, 3, 4, 5, 6, 7, 8] [0, 1, 2, 3, 4, 5, 6, 7, 8] (by kernel_rfl) (by kernel_rfl))
  (fun ⟨x24, _⟩ => Qc (x24) (Zcp1 k false) (c ((IntKind.wrap .i64 (x13_1 + 1)), ())) (Qs [(4, .bool)] [] (fun z_ => Zcp1 k z_.1)
  Qz
  (fun ⟨x4_1, _⟩ => Qr)) Qk))))
  (fun _ => Qz)))))))
  (fun _ => Qs [(4, .bool)] [] (fun z_ => Zcp0 k z_.1)
  Qz
  (fun ⟨x4, _⟩ => Qr))))) hyp_
end
def ints (l : List Int) : List Value := l.map (.int .i64)
def wds (l : List Int) : List Value := l.map (.int .u64)
def bls (l : List Bool) : List Value := l.map .bool
theorem kd_u64 : Kd Tryz.prog 162 109 1 := ⟨by kernel_rfl, by kernel_rfl, by kernel_rfl, by kernel_rfl, by kernel_rfl, by decide +kernel, by decide +kernel⟩
theorem kd_int : Kd Tryz.prog 27 3 1 := ⟨by kernel_rfl, by kernel_rfl, by kernel_rfl, by kernel_rfl, by kernel_rfl, by decide +kernel, by decide +kernel⟩
theorem kd_bool : Kd Tryz.prog 101 4 1 := ⟨by kernel_rfl, by kernel_rfl, by kernel_rfl, by kernel_rfl, by kernel_rfl, by decide +kernel, by decide +kernel⟩
theorem ints_len (l : List Int) : (ints l).length = l.length := List.length_map _
theorem wds_len (l : List Int) : (wds l).length = l.length := List.length_map _
theorem bls_len (l : List Bool) : (bls l).length = l.length := List.length_map _
theorem ints_scal (l : List Int) : (ints l).all scal = true := by simp [ints, List.all_eq_true, scal]
theorem wds_scal (l : List Int) : (wds l).all scal = true := by simp [wds, List.all_eq_true, scal]
theorem ints_at {l : List Int} {i : Nat} (h : i < l.length) : (ints l)[i]? = some (.int .i64 l[i]) := by simp [ints, h]
theorem wds_at {l : List Int} {i : Nat} (h : i < l.length) : (wds l)[i]? = some (.int .u64 l[i]) := by simp [wds, h]
theorem bls_at {l : List Bool} {i : Nat} (h : i < l.length) : (bls l)[i]? = some (.bool l[i]) := by simp [bls, h]
theorem ints_set (l : List Int) (i : Nat) (n : Int) : (ints l).set i (.int .i64 n) = ints (l.set i n) := by simp [ints, List.map_set]
theorem wds_set (l : List Int) (i : Nat) (n : Int) : (wds l).set i (.int .u64 n) = wds (l.set i n) := by simp [wds, List.map_set]
theorem bls_set (l : List Bool) (i : Nat) (n : Bool) : (bls l).set i (.bool n) = bls (l.set i n) := by simp [bls, List.map_set]
theorem repZ_wds (n : Nat) : repZ (zerosP Tryz.prog 109) n = wds (List.replicate n 0) := by
  have : zerosP Tryz.prog 109 = [.int .u64 0] := by kernel_rfl
  rw [this]; simp [repZ, wds]
theorem repZ_bls (n : Nat) : repZ (zerosP Tryz.prog 4) n = bls (List.replicate n false) := by
  have : zerosP Tryz.prog 4 = [.bool false] := by kernel_rfl
  rw [this]; simp [repZ, bls]
section
variable {B : World} {R : SL}
theorem clone_u64_c {s : Sl} {l : List Int} (hl : l.length ≤ 2 ^ 39) (h : Rd R s 1 (wds l)) {k : Sl → K} (hk : ∀ s', T B (R * vec 109 1 s' (wds l)) (k s')) : T B R (c_slices_Clone_Suint64_uint64 s k) := by
  refine T_of (slices_Clone_Suint64_uint64_ok s k) ?_
  refine T_rdlen h fun hn => ?_
  rw [wds_len, Nat.mul_one] at hn
  refine T_rdp h fun hp => ?_
  refine T_br (fun e => ?_) (fun e => ?_)
  · have hl0 : wds l = [] := hp (by simpa using e)
    rw [hl0] at hk
    exact T_vecN rfl rfl (hk ⟨none, 0, 0⟩)
  · (repeat ((with_reducible refine T_al ?_; intro _)))
    rename_i b
    refine T_vecN (E := 109) (sz := 1) (s := ⟨some ⟨b, 0, none⟩, 0, 0⟩) rfl rfl ?_
    refine T_append (s := ⟨some ⟨b, 0, none⟩, 0, 0⟩) kd_u64 h.init (wds_scal l) (by simp; omega) fun s' => ?_
    exact T_dropM (hk s')
theorem index_int_c {s : Sl} {l : List Int} {v : Int} (hl : l.length ≤ 2 ^ 40) (h : Rd R s 1 (ints l)) {k : Int → K} (h0 : v ∉ l → T B R (k (-1))) (h1 : ∀ i : Nat, i < l.length → v ∈ l → T B R (k i)) : T B R (c_slices_Index_Sint_int s v k) := by
  refine T_of (slices_Index_Sint_int_ok s v k) ?_
  refine T_rdlen h fun hn => ?_
  rw [ints_len, Nat.mul_one] at hn
  refine T_lpX (fun _ _ => R) (fun n (s : Int × Unit) => ∃ i : Nat, i ≤ l.length ∧ s.1 = i ∧ n = l.length - i ∧ v ∉ l.take i) l.length rfl ⟨0, by omega, rfl, by omega, by simp⟩ ?_
  rintro n ⟨s1, u⟩ c ⟨i, hi, e1, e2, hv⟩ hc
  simp only at e1
  subst e1 e2
  (repeat' (with_reducible refine T_brD (fun _ => ?_) (fun _ => ?_)))
  · rename_i hlt
    have hlt' : i < l.length := by omega
    refine T_ixV h (by omega) (n := l[i]) (by rw [Int.toNat_natCast]; exact ints_at hlt') ?_
    (repeat' (with_reducible refine T_brE (fun _ => ?_) (fun _ => ?_)))
    · rename_i he
      exact h1 i hlt' (by rw [he]; exact List.getElem_mem hlt')
    · rename_i he
      refine hc (l.length - (i + 1)) _ (by omega) ⟨i + 1, by omega, w64 (by omega) (by omega), rfl, ?_⟩
      rw [List.take_succ_eq_append_getElem hlt']
      simp only [List.mem_append, List.mem_singleton, not_or]
      exact ⟨hv, he⟩
  · rename_i hge
    have : i = l.length := by omega
    subst this
    rw [List.take_length] at hv
    exact h0 hv
theorem contains_int_c {s : Sl} {l : List Int} {v : Int} (hl : l.length ≤ 2 ^ 40) (h : Rd R s 1 (ints l)) {k : Bool → K} (hk : T B R (k (decide (v ∈ l)))) : T B R (c_slices_Contains_Sint_int s v k) := by
  refine T_of (slices_Contains_Sint_int_ok s v k) ?_
  refine index_int_c hl h (fun hv => ?_) (fun i hi hv => ?_)
  · (refine T_end hk (by intro t h; repeat (first | exact h | refine T.weak ?_)) ?_); simp [hv]
  · (refine T_end hk (by intro t h; repeat (first | exact h | refine T.weak ?_)) ?_); simp [hv]
theorem equal_u64_c {s1 s2 : Sl} {l1 l2 : List Int} (hl : l1.length ≤ 2 ^ 40) (h1 : Rd R s1 1 (wds l1)) (h2 : Rd R s2 1 (wds l2)) {k : Bool → K} (hk : T B R (k (decide (l1 = l2)))) : T B R (c_slices_Equal_Suint64_uint64 s1 s2 k) := by
  refine T_of (slices_Equal_Suint64_uint64_ok s1 s2 k) ?_
  refine T_rdlen h1 fun hn1 => ?_
  refine T_rdlen h2 fun hn2 => ?_
  rw [wds_len, Nat.mul_one] at hn1 hn2
  (repeat' (with_reducible refine T_brNE (fun _ => ?_) (fun _ => ?_)))
  · rename_i hne
    (refine T_end hk (by intro t h; repeat (first | exact h | refine T.weak ?_)) ?_)
    simp only [decide_eq_false_iff_not]
    intro e; subst e; omega
  · rename_i heq
    have hll : l1.length = l2.length := by omega
    refine T_lpX (fun _ _ => R) (fun n (s : Int × Unit) => ∃ i : Nat, i ≤ l1.length ∧ s.1 = i ∧ n = l1.length - i ∧ l1.take i = l2.take i) l1.length rfl ⟨0, by omega, rfl, by omega, by simp⟩ ?_
    rintro n ⟨s1', u⟩ c ⟨i, hi, e1, e2, hv⟩ hc
    simp only at e1
    subst e1 e2
    (repeat' (first | with_reducible refine T_tick ?_ | with_reducible refine T_brD (fun _ => ?_) (fun _ => ?_)))
    · rename_i hlt
      have hlt1 : i < l1.length := by omega
      have hlt2 : i < l2.length := by omega
      refine T_ixV h1 (by omega) (n := l1[i]) (by rw [Int.toNat_natCast]; exact wds_at hlt1) ?_
      refine T_ixV h2 (by omega) (n := l2[i]) (by rw [Int.toNat_natCast]; exact wds_at hlt2) ?_
      (repeat' (with_reducible refine T_brNE (fun _ => ?_) (fun _ => ?_)))
      · rename_i he
        (refine T_end hk (by intro t h; repeat (first | exact h | refine T.weak ?_)) ?_)
        simp only [decide_eq_false_iff_not]
        intro e; subst e; exact he rfl
      · rename_i he
        refine hc (l1.length - (i + 1)) _ (by omega) ⟨i + 1, by omega, w64 (by omega) (by omega), rfl, ?_⟩
        rw [List.take_succ_eq_append_getElem hlt1, List.take_succ_eq_append_getElem hlt2, hv, he]
    · rename_i hge
      have : i = l1.length := by omega
      (refine T_end hk (by intro t h; repeat (first | exact h | refine T.weak ?_)) ?_)
      simp only [decide_eq_true_eq]
      rw [List.take_of_length_le (by omega), List.take_of_length_le (by omega)] at hv
      exact hv
end
section
set_option maxRecDepth 100000
abbrev Zcq0 (k : (Int → K)) (x4 : Int) : K :=
  k x4
abbrev Zcq1 (d : OA) (at_1 : Int) (k : (Int → K)) : K :=
  nn d fun x17 =>
  ldS (x17.add 1) fun x19 =>
  ixS x19.p x19.n at_1 1 fun x21 =>
  ldI .u64 x21 fun x22 =>
  Zcq0 k x22
abbrev Zcq2 (k : (Int → K)) (x4_1 : Int) : K :=
  k x4_1
abbrev Zcq3 (d : OA) (at_1 : Int) (k : (Int → K)) (x15 : Bool) : K :=
  brK x15
  (Zcq2 k 0)
  (Zcq1 d at_1 k)
abbrev Zcq4 (d : OA) (at_1 : Int) (k : (Int → K)) : K :=
  brK (decide (at_1 < 0))
  (Zcq3 d at_1 k true)
  (nn d fun x10 =>
  ldS (x10.add 1) fun x12 =>
  Zcq3 d at_1 k (decide (at_1 ≥ ((x12.n : Nat) : Int))))
abbrev nvm_Device_Get (d : OA) (at_1 : Int) : M Int := fun k =>
  Zcq4 d at_1 k
theorem nvm_Device_Get_ok (d : OA) (at_1 : Int) (k : Int → K) (w : World) (hyp_ : nvm_Device_Get d at_1 k w) : c_nvm_Device_Get d at_1 k w :=
  cl_of (P := Tryz.prog) Tryz.func53 rfl (by kernel_rfl)
  (Qs [] [0, 1] (fun z_ => Zcq4 d at_1 k)
  Qz
  (fun _ => Qs [] [0, 1] (fun z_ => Zcq1 d at_1 k)
  (Qs [(15, .bool)] [0, 1] (fun z_ => Zcq3 d at_1 k z_.1)
  (Qp [2])
  (fun ⟨x15, _⟩ => Qc (x15) (Zcq2 k 0) (Zcq1 d at_1 k) (Qs [(4, .int .u64)] [] (fun z_ => Zcq2 k z_.1)
  Qz
  (fun ⟨x4_1, _⟩ => Qr)) Qk))
  (fun _ => Qs [(4, .int .u64)] [] (fun z_ => Zcq0 k z_.1)
  Qz
  (fun ⟨x4, _⟩ => Qr)))) hyp_
abbrev Zcr0 (k : (Int → K)) (x6 : Int) : K :=
  k x6
abbrev Zcr1 (d : OA) (at_1 : Int) (k : (Int → K)) : K :=
  nn d fun x31 =>
  ldS (x31.add 3) fun x33 =>
  ixS x33.p x33.n (IntKind.wrap .i64 (Int.tdiv at_1 8)) 1 fun x36 =>
  stK (x36.add 0) (.bool true) <|
  Zcr0 k 0
abbrev Zcr2 (d : OA) (at_1 : Int) (w_1 : Int) (k : (Int → K)) : K :=
  nn d fun x24 =>
  ldS (x24.add 1) fun x26 =>
  ixS x26.p x26.n at_1 1 fun x29 =>
  stK (x29.add 0) (.int .u64 w_1) <|
  Zcr1 d at_1 k
abbrev Zcr3 (k : (Int → K)) (x6_1 : Int) : K :=
  k x6_1
abbrev Zcr4 (k : (Int → K)) (x6_2 : Int) : K :=
  k x6_2
abbrev Zcr5 (d : OA) (at_1 : Int) (w_1 : Int) (k : (Int → K)) (x19 : Bool) : K :=
  brK x19
  (Zcr4 k 3)
  (Zcr2 d at_1 w_1 k)
abbrev Zcr6 (d : OA) (at_1 : Int) (w_1 : Int) (k : (Int → K)) : K :=
  c_nvm_Device_step d fun x21 =>
  Zcr5 d at_1 w_1 k (!x21)
abbrev Zcr7 (d : OA) (at_1 : Int) (w_1 : Int) (k : (Int → K)) (x7 : Bool) : K :=
  brK x7
  (Zcr3 k 2)
  (Zcr6 d at_1 w_1 k)
abbrev Zcr8 (d : OA) (at_1 : Int) (w_1 : Int) (k : (Int → K)) : K :=
  brK (decide (at_1 < 0))
  (Zcr7 d at_1 w_1 k true)
  (nn d fun x13 =>
  ldS (x13.add 1) fun x15 =>
  Zcr7 d at_1 w_1 k (decide (at_1 ≥ ((x15.n : Nat) : Int))))
abbrev nvm_Device_Store (d : OA) (at_1 : Int) (w_1 : Int) : M Int := fun k =>
  Zcr8 d at_1 w_1 k
theorem nvm_Device_Store_ok (d : OA) (at_1 : Int) (w_1 : Int) (k : Int → K) (w : World) (hyp_ : nvm_Device_Store d at_1 w_1 k w) : c_nvm_Device_Store d at_1 w_1 k w :=
  cl_of (P := Tryz.prog) Tryz.func54 rfl (by kernel_rfl)
  (Qs [] [0, 1, 2] (fun z_ => Zcr8 d at_1 w_1 k)
  Qz
  (fun _ => Qs [] [0, 1, 2] (fun z_ => Zcr2 d at_1 w_1 k)
  (Qb (Qs [(7, .bool)] [0, 1, 2] (fun z_ => Zcr7 d at_1 w_1 k z_.1)
  (Qp [2])
  (fun ⟨x7, _⟩ => Qc (x7) (Zcr3 k 2) (Zcr6 d at_1 w_1 k) (Qs [(6, .int .i64)] [] (fun z_ => Zcr3 k z_.1)
  Qz
  (fun ⟨x6_1, _⟩ => Qr)) (Qs [(19, .bool)] [0, 1, 2] (fun z_ => Zcr5 d at_1 w_1 k z_.1)
  Qz
  (fun ⟨x19, _⟩ => Qc (x19) (Zcr4 k 3) (Zcr2 d at_1 w_1 k) (Qs [(6, .int .i64)] [] (fun z_ => Zcr4 k z_.1)
  Qz
  (fun ⟨x6_2, _⟩ => Qr)) Qk)))))
  (fun _ => Qs [] [0, 1] (fun z_ => Zcr1 d at_1 k)
  Qz
  (fun _ => Qs [] [] (fun z_ => Zcr0 k 0)
  Qz
  (fun _ => Qs [(6, .int .i64)] [] (fun z_ => Zcr0 k z_.1)
  Qz
  (fun ⟨x6, _⟩ => Qr)))))) hyp_
abbrev Zcs0 (k : (Int → K)) (x2 : Int) : K :=
  k x2
abbrev Zcs1 (d : OA) (k : (Int → K)) : K :=
  nn d fun x4 =>
  ldS (x4.add 1) fun x6 =>
  Zcs0 k ((x6.n : Nat) : Int)
abbrev nvm_Device_Len (d : OA) : M Int := fun k =>
  Zcs1 d k
theorem nvm_Device_Len_ok (d : OA) (k : Int → K) (w : World) (hyp_ : nvm_Device_Len d k w) : c_nvm_Device_Len d k w :=
  cl_of (P := Tryz.prog) Tryz.func112 rfl (by kernel_rfl)
  (Qs [] [0] (fun z_ => Zcs1 d k)
  Qz
  (fun _ => Qs [(2, .int .i64)] [] (fun z_ => Zcs0 k z_.1)
  Qz
  (fun ⟨x2, _⟩ => Qr))) hyp_
abbrev Zct0 (k : (Bool → K)) (x2 : Bool) : K :=
  k x2
abbrev Zct1 (d : OA) (k : (Bool → K)) : K :=
  nn d fun x31 =>
  ldI .i64 (x31.add 5) fun x33 =>
  nn d fun x35 =>
  stK (Addr.add (x35.add 5) 0) (.int .i64 (IntKind.wrap .i64 (x33 + 1))) <|
  Zct0 k true
abbrev Zct2 (d : OA) (k : (Bool → K)) : K :=
  nn d fun x24 =>
  ldI .i64 (x24.add 6) fun x26 =>
  nn d fun x28 =>
  stK (Addr.add (x28.add 6) 0) (.int .i64 (IntKind.wrap .i64 (x26 - 1))) <|
  Zct1 d k
abbrev Zct3 (k : (Bool → K)) (x2_1 : Bool) : K :=
  k x2_1
abbrev Zct4 (d : OA) (k : (Bool → K)) : K :=
  nn d fun x21 =>
  stK (Addr.add (x21.add 8) 0) (.bool true) <|
  Zct3 k false
abbrev Zct5 (d : OA) (k : (Bool → K)) (x19 : Bool) : K :=
  brK x19
  (Zct4 d k)
  (Zct2 d k)
abbrev Zct6 (d : OA) (k : (Bool → K)) : K :=
  nn d fun x4 =>
  ldB (x4.add 8) fun x6 =>
  brK x6
  (Zct5 d k true)
  (nn d fun x9 =>
  ldB (x9.add 7) fun x11 =>
  brK x11
  (nn d fun x14 =>
  ldI .i64 (x14.add 6) fun x16 =>
  Zct5 d k (x16 == 0))
  (Zct5 d k false))
abbrev nvm_Device_step (d : OA) : M Bool := fun k =>
  Zct6 d k
theorem nvm_Device_step_ok (d : OA) (k : Bool → K) (w : World) (hyp_ : nvm_Device_step d k w) : c_nvm_Device_step d k w :=
  cl_of (P := Tryz.prog) Tryz.func115 rfl (by kernel_rfl)
  (Qs [] [0] (fun z_ => Zct6 d k)
  Qz
  (fun _ => Qs [] [0] (fun z_ => Zct2 d k)
  (Qs [(19, .bool)] [0] (fun z_ => Zct5 d k z_.1)
  (Qp [4, 9])
  (fun ⟨x19, _⟩ => Qc (x19) (Zct4 d k) (Zct2 d k) (Qs [] [] (fun z_ => Zct3 k false)
  Qz
  (fun _ => Qs [(2, .bool)] [] (fun z_ => Zct3 k z_.1)
  Qz
  (fun ⟨x2_1, _⟩ => Qr))) Qk))
  (fun _ => Qs [] [0] (fun z_ => Zct1 d k)
  Qz
  (fun _ => Qs [] [] (fun z_ => Zct0 k true)
  Qz
  (fun _ => Qs [(2, .bool)] [] (fun z_ => Zct0 k z_.1)
  Qz
  (fun ⟨x2, _⟩ => Qr)))))) hyp_
abbrev Zcu0 (k : (OA → K)) (x2 : OA) : K :=
  k x2
abbrev Zcu1 (k : (OA → K)) (n : Int) : K :=
  mkS Tryz.prog 109 (IntKind.wrap .i64 (n * 8)) (IntKind.wrap .i64 (n * 8)) fun b =>
  c_nvm_load ⟨(some ⟨b, 0, none⟩), (Int.toNat (IntKind.wrap .i64 (n * 8))), (Int.toNat (IntKind.wrap .i64 (n * 8)))⟩ fun x9 =>
  Zcu0 k x9
abbrev Zcu2 (words : Int) (k : (OA → K)) : K :=
  c_bits_Up words 8 fun x5 =>
  Zcu1 k x5
abbrev nvm_New (words : Int) : M OA := fun k =>
  Zcu2 words k
theorem nvm_New_ok (words : Int) (k : OA → K) (w : World) (hyp_ : nvm_New words k w) : c_nvm_New words k w :=
  cl_of (P := Tryz.prog) Tryz.func120 rfl (by kernel_rfl)
  (Qs [] [0] (fun z_ => Zcu2 words k)
  Qz
  (fun _ => Qs [(3, .int .i64)] [] (fun z_ => Zcu1 k z_.1)
  Qz
  (fun ⟨n, _⟩ => Qs [(2, .ptr)] [] (fun z_ => Zcu0 k z_.1)
  Qz
  (fun ⟨x2, _⟩ => Qr)))) hyp_
abbrev Zcv0 (k : (Int → K)) (x4 : Int) : K :=
  k x4
abbrev Zcv1 (d : OA) (at_1 : Int) (k : (Int → K)) : K :=
  nn d fun x17 =>
  ldS (x17.add 0) fun x19 =>
  ixS x19.p x19.n at_1 1 fun x21 =>
  ldI .u64 x21 fun x22 =>
  Zcv0 k x22
abbrev Zcv2 (k : (Int → K)) (x4_1 : Int) : K :=
  k x4_1
abbrev Zcv3 (d : OA) (at_1 : Int) (k : (Int → K)) (x15 : Bool) : K :=
  brK x15
  (Zcv2 k 0)
  (Zcv1 d at_1 k)
abbrev Zcv4 (d : OA) (at_1 : Int) (k : (Int → K)) : K :=
  brK (decide (at_1 < 0))
  (Zcv3 d at_1 k true)
  (nn d fun x10 =>
  ldS (x10.add 0) fun x12 =>
  Zcv3 d at_1 k (decide (at_1 ≥ ((x12.n : Nat) : Int))))
abbrev nvm_Device_Lasting (d : OA) (at_1 : Int) : M Int := fun k =>
  Zcv4 d at_1 k
theorem nvm_Device_Lasting_ok (d : OA) (at_1 : Int) (k : Int → K) (w : World) (hyp_ : nvm_Device_Lasting d at_1 k w) : c_nvm_Device_Lasting d at_1 k w :=
  cl_of (P := Tryz.prog) Tryz.func166 rfl (by kernel_rfl)
  (Qs [] [0, 1] (fun z_ => Zcv4 d at_1 k)
  Qz
  (fun _ => Qs [] [0, 1] (fun z_ => Zcv1 d at_1 k)
  (Qs [(15, .bool)] [0, 1] (fun z_ => Zcv3 d at_1 k z_.1)
  (Qp [2])
  (fun ⟨x15, _⟩ => Qc (x15) (Zcv2 k 0) (Zcv1 d at_1 k) (Qs [(4, .int .u64)] [] (fun z_ => Zcv2 k z_.1)
  Qz
  (fun ⟨x4_1, _⟩ => Qr)) Qk))
  (fun _ => Qs [(4, .int .u64)] [] (fun z_ => Zcv0 k z_.1)
  Qz
  (fun ⟨x4, _⟩ => Qr)))) hyp_
abbrev Zcw0 (k : (Int → K)) (x6 : Int) : K :=
  k x6
abbrev Zcw1 (d : OA) (k : (Int → K)) : K :=
  c_nvm_Device_Fence d fun x49 =>
  Zcw0 k x49
abbrev Zcw2 (k : (Int → K)) (x6_1 : Int) : K :=
  k x6_1
abbrev Zcw3 (k : (Int → K)) (line_1 : Int) (c : ((Int × Unit) → K)) (e : Int) (x46 : Bool) : K :=
  brK x46
  (Zcw2 k e)
  (c ((IntKind.wrap .i64 (line_1 + 1)), ()))
abbrev Zcw4 (k : (Int → K)) (line_1 : Int) (c : ((Int × Unit) → K)) (e : Int) : K :=
  Zcw3 k line_1 c e (e != 0)
abbrev Zcw5 (d : OA) (k : (Int → K)) (line_1 : Int) (c : ((Int × Unit) → K)) : K :=
  c_nvm_Device_Flush d line_1 fun x44 =>
  Zcw4 k line_1 c x44
abbrev Zcw6 (d : OA) (k : (Int → K)) (line_1 : Int) (c : ((Int × Unit) → K)) (x39 : Bool) : K :=
  brK x39
  (Zcw5 d k line_1 c)
  (Zcw1 d k)
abbrev Zcw7 (d : OA) (at_1 : Int) (words : Int) (k : (Int → K)) (line_1 : Int) (c : ((Int × Unit) → K)) : K :=
  Zcw6 d k line_1 c (decide (line_1 ≤ (IntKind.wrap .i64 (Int.tdiv (IntKind.wrap .i64 ((IntKind.wrap .i64 (at_1 + words)) - 1)) 8))))
abbrev Zcw8 (d : OA) (at_1 : Int) (words : Int) (k : (Int → K)) (line : Int) : K :=
  lp (fun (z_ : (Int × Unit)) c_ => Zcw7 d at_1 words k z_.1 c_) (line, ())
abbrev Zcw9 (d : OA) (at_1 : Int) (words : Int) (k : (Int → K)) (x30 : Bool) : K :=
  brK x30
  (Zcw8 d at_1 words k (IntKind.wrap .i64 (Int.tdiv at_1 8)))
  (Zcw1 d k)
abbrev Zcw10 (k : (Int → K)) (x6_2 : Int) : K :=
  k x6_2
abbrev Zcw11 (d : OA) (at_1 : Int) (words : Int) (k : (Int → K)) (x28 : Bool) : K :=
  brK x28
  (Zcw10 k 2)
  (Zcw9 d at_1 words k (decide (words > 0)))
abbrev Zcw12 (d : OA) (at_1 : Int) (words : Int) (k : (Int → K)) : K :=
  brK (decide (at_1 < 0))
  (Zcw11 d at_1 words k true)
  (brK (decide (words < 0))
  (Zcw11 d at_1 words k true)
  (c_nvm_Device_Len d fun x18 =>
  brK (decide (at_1 > x18))
  (Zcw11 d at_1 words k true)
  (c_nvm_Device_Len d fun x24 =>
  Zcw11 d at_1 words k (decide (words > (IntKind.wrap .i64 (x24 - at_1)))))))
abbrev nvm_Device_Persist (d : OA) (at_1 : Int) (words : Int) : M Int := fun k =>
  Zcw12 d at_1 words k
theorem nvm_Device_Persist_ok (d : OA) (at_1 : Int) (words : Int) (k : Int → K) (w : World) (hyp_ : nvm_Device_Persist d at_1 words k w) : c_nvm_Device_Persist d at_1 words k w :=
  cl_of (P := Tryz.prog) Tryz.func178 rfl (by kernel_rfl)
  (Qs [] [0, 1, 2] (fun z_ => Zcw12 d at_1 words k)
  Qz
  (fun _ => Qs [] [0, 1, 2] (fun z_ => Zcw9 d at_1 words k (decide (words > 0)))
  (Qs [(28, .bool)] [0, 1, 2] (fun z_ => Zcw11 d at_1 words k z_.1)
  (Qp [2, 6, 12])
  (fun ⟨x28, _⟩ => Qc (x28) (Zcw10 k 2) (Zcw9 d at_1 words k (decide (words > 0))) (Qs [(6, .int .i64)] [] (fun z_ => Zcw10 k z_.1)
  Qz
  (fun ⟨x6_2, _⟩ => Qr)) Qk))
  (fun _ => Qs [] [0] (fun z_ => Zcw1 d k)
  (Qs [(30, .bool)] [0, 1, 2] (fun z_ => Zcw9 d at_1 words k z_.1)
  Qz
  (fun ⟨x30, _⟩ => Qc (x30) (Zcw8 d at_1 words k (IntKind.wrap .i64 (Int.tdiv at_1 8))) (Zcw1 d k) (Qs [(7, .int .i64)] [0, 1, 2] (fun z_ => Zcw8 d at_1 words k z_.1)
  Qz
  (fun ⟨line, _⟩ => Qb (Ql [(7, .int .i64)] [0, 1, 2] (fun (z_ : (Int × Unit)) c_ => Zcw7 d at_1 words k z_.1 c_) (line, ())
  (fun ⟨line_1, _⟩ c => Qs [] [0, 1, 2, 7] (fun z_ => Zcw5 d k line_1 c)
  (Qs [(39, .bool)] [0, 1, 2, 7] (fun z_ => Zcw6 d k line_1 c z_.1)
  Qz
  (fun ⟨x39, _⟩ => Qc (x39) (Zcw5 d k line_1 c) (Zcw1 d k) Qk Qx))
  (fun _ => Qs [] [0, 1, 2, 7] (fun z_ => c ((IntKind.wrap .i64 (line_1 + 1)), ()))
  (Qb (Qs [(8, .int .i64)] [0, 1, 2, 7] (fun z_ => Zcw4 k line_1 c z_.1)
  Qz
  (fun ⟨e, _⟩ => Qs [(46, .bool)] [0, 1, 2, 7, 8] (fun z_ => Zcw3 k line_1 c e z_.1)
  Qz
  (fun ⟨x46, _⟩ => Qc (x46) (Zcw2 k e) (c ((IntKind.wrap .i64 (line_1 + 1)), ())) (Qs [(6, .int .i64)] [] (fun z_ => Zcw2 k z_.1)
  Qz
  (fun ⟨x6_1, _⟩ => Qr)) Qk))))
  (fun _ => Qz)))))) Qk))
  (fun _ => Qs [(6, .int .i64)] [] (fun z_ => Zcw0 k z_.1)
  Qz
  (fun ⟨x6, _⟩ => Qr))))) hyp_
abbrev Zcx0 (k : (Int → K)) (x4 : Int) : K :=
  k x4
abbrev Zcx1 (d : OA) (line : Int) (k : (Int → K)) : K :=
  tick fun _ =>
  nn d fun x36 =>
  ldS (x36.add 2) fun x38 =>
  nn d fun x43 =>
  ldS (x43.add 1) fun x45 =>
  c_nvm_Device_part d x38 line fun x40 =>
  chk [.cell (x43.add 1) (x45.v)] fun _ =>
  c_nvm_Device_part d x45 line fun x47 =>
  semT Tryz.prog (Builtin.copy_ #[162, 162] 3 #[x40.v, x47.v]) (.one (.sc (.int .i64))) fun x48 =>
  Zcx0 k 0
abbrev Zcx2 (d : OA) (line : Int) (k : (Int → K)) : K :=
  nn d fun x29 =>
  ldS (x29.add 4) fun x31 =>
  ixS x31.p x31.n line 1 fun x33 =>
  stK (x33.add 0) (.bool true) <|
  Zcx1 d line k
abbrev Zcx3 (d : OA) (line : Int) (k : (Int → K)) (x27 : Bool) : K :=
  brK x27
  (Zcx2 d line k)
  (Zcx0 k 0)
abbrev Zcx4 (d : OA) (line : Int) (k : (Int → K)) : K :=
  nn d fun x22 =>
  ldS (x22.add 3) fun x24 =>
  ixS x24.p x24.n line 1 fun x26 =>
  ldB x26 fun x27_1 =>
  Zcx3 d line k x27_1
abbrev Zcx5 (k : (Int → K)) (x4_1 : Int) : K :=
  k x4_1
abbrev Zcx6 (k : (Int → K)) (x4_2 : Int) : K :=
  k x4_2
abbrev Zcx7 (d : OA) (line : Int) (k : (Int → K)) (x17 : Bool) : K :=
  brK x17
  (Zcx6 k 3)
  (Zcx4 d line k)
abbrev Zcx8 (d : OA) (line : Int) (k : (Int → K)) : K :=
  c_nvm_Device_step d fun x19 =>
  Zcx7 d line k (!x19)
abbrev Zcx9 (d : OA) (line : Int) (k : (Int → K)) (x5 : Bool) : K :=
  brK x5
  (Zcx5 k 2)
  (Zcx8 d line k)
abbrev Zcx10 (d : OA) (line : Int) (k : (Int → K)) : K :=
  brK (decide (line < 0))
  (Zcx9 d line k true)
  (nn d fun x11 =>
  ldS (x11.add 3) fun x13 =>
  Zcx9 d line k (decide (line ≥ ((x13.n : Nat) : Int))))
abbrev nvm_Device_Flush (d : OA) (line : Int) : M Int := fun k =>
  Zcx10 d line k
theorem nvm_Device_Flush_ok (d : OA) (line : Int) (k : Int → K) (w : World) (hyp_ : nvm_Device_Flush d line k w) : c_nvm_Device_Flush d line k w :=
  cl_of (P := Tryz.prog) Tryz.func218 rfl (by kernel_rfl)
  (Qs [] [0, 1] (fun z_ => Zcx10 d line k)
  Qz
  (fun _ => Qs [] [0, 1] (fun z_ => Zcx4 d line k)
  (Qb (Qs [(5, .bool)] [0, 1] (fun z_ => Zcx9 d line k z_.1)
  (Qp [2])
  (fun ⟨x5, _⟩ => Qc (x5) (Zcx5 k 2) (Zcx8 d line k) (Qs [(4, .int .i64)] [] (fun z_ => Zcx5 k z_.1)
  Qz
  (fun ⟨x4_1, _⟩ => Qr)) (Qs [(17, .bool)] [0, 1] (fun z_ => Zcx7 d line k z_.1)
  Qz
  (fun ⟨x17, _⟩ => Qc (x17) (Zcx6 k 3) (Zcx4 d line k) (Qs [(4, .int .i64)] [] (fun z_ => Zcx6 k z_.1)
  Qz
  (fun ⟨x4_2, _⟩ => Qr)) Qk)))))
  (fun _ => Qs [] [] (fun z_ => Zcx0 k 0)
  (Qs [(27, .bool)] [0, 1] (fun z_ => Zcx3 d line k z_.1)
  Qz
  (fun ⟨x27, _⟩ => Qc (x27) (Zcx2 d line k) (Zcx0 k 0) (Qs [] [0, 1] (fun z_ => Zcx1 d line k)
  Qz
  (fun _ => RefK.draw [] [0, 0, 2, 6, 14, 0, 63, 0, 0, 256, 768, 1792, 0, 8191, 16383] [0, 1, 2, 3, 4, 5, 7, 8, 9, 10, 11, 12, 6, 13, 14] [0, 1, 2, 3, 4, 5, 6, 7, 8, 9, 10, 11, 12, 13, 14] (by kernel_rfl) (by kernel_rfl))) Qk))
  (fun _ => Qs [(4, .int .i64)] [] (fun z_ => Zcx0 k z_.1)
  Qz
  (fun ⟨x4, _⟩ => Qr))))) hyp_
abbrev Zcy0 (k : (Int → K)) (x2 : Int) : K :=
  k x2
abbrev Zcy1 (d : OA) (x13_1 : Int) (c : ((Int × Unit) → K)) (line : Int) : K :=
  tick fun _ =>
  nn d fun x41 =>
  ldS (x41.add 3) fun x43 =>
  nn d fun x47 =>
  ldS (x47.add 0) fun x49 =>
  nn d fun x54 =>
  ldS (x54.add 1) fun x56 =>
  c_nvm_Device_part d x49 line fun x51 =>
  chk [.cell (x54.add 1) (x56.v), .cell (x41.add 3) (x43.v)] fun _ =>
  c_nvm_Device_part d x56 line fun x58 =>
  chk [.cell (x41.add 3) (x43.v)] fun _ =>
  c_slices_Equal_Suint64_uint64 x51 x58 fun x59 =>
  chk [.cell (x41.add 3) (x43.v)] fun _ =>
  ixS x43.p x43.n line 1 fun x61 =>
  stK (x61.add 0) (.bool (!x59)) <|
  c ((IntKind.wrap .i64 (x13_1 + 1)), ())
abbrev Zcy2 (d : OA) (x13_1 : Int) (c : ((Int × Unit) → K)) (line : Int) : K :=
  nn d fun x35 =>
  ldS (x35.add 4) fun x37 =>
  ixS x37.p x37.n line 1 fun x39 =>
  stK (x39.add 0) (.bool false) <|
  Zcy1 d x13_1 c line
abbrev Zcy3 (d : OA) (x13_1 : Int) (c : ((Int × Unit) → K)) (line : Int) : K :=
  tick fun _ =>
  nn d fun x21 =>
  ldS (x21.add 0) fun x23 =>
  nn d fun x28 =>
  ldS (x28.add 2) fun x30 =>
  c_nvm_Device_part d x23 line fun x25 =>
  chk [.cell (x28.add 2) (x30.v)] fun _ =>
  c_nvm_Device_part d x30 line fun x32 =>
  semT Tryz.prog (Builtin.copy_ #[162, 162] 3 #[x25.v, x32.v]) (.one (.sc (.int .i64))) fun x33 =>
  Zcy2 d x13_1 c line
abbrev Zcy4 (d : OA) (x13_1 : Int) (c : ((Int × Unit) → K)) (line : Int) (x18 : Bool) : K :=
  brK x18
  (Zcy3 d x13_1 c line)
  (c ((IntKind.wrap .i64 (x13_1 + 1)), ()))
abbrev Zcy5 (d : OA) (x13_1 : Int) (c : ((Int × Unit) → K)) (line : Int) (is : Bool) : K :=
  Zcy4 d x13_1 c line is
abbrev Zcy6 (d : OA) (x11 : Sl) (x13_1 : Int) (c : ((Int × Unit) → K)) : K :=
  ixS x11.p x11.n x13_1 1 fun x16 =>
  ldB x16 fun x17 =>
  Zcy5 d x13_1 c x13_1 x17
abbrev Zcy7 (d : OA) (k : (Int → K)) (x11 : Sl) (x13_1 : Int) (c : ((Int × Unit) → K)) (x14 : Bool) : K :=
  brK x14
  (Zcy6 d x11 x13_1 c)
  (Zcy0 k 0)
abbrev Zcy8 (d : OA) (k : (Int → K)) (x11 : Sl) (x12 : Int) (x13_1 : Int) (c : ((Int × Unit) → K)) : K :=
  Zcy7 d k x11 x13_1 c (decide (x13_1 < x12))
abbrev Zcy9 (d : OA) (k : (Int → K)) (x11 : Sl) (x12 : Int) (x13 : Int) : K :=
  lp (fun (z_ : (Int × Unit)) c_ => Zcy8 d k x11 x12 z_.1 c_) (x13, ())
abbrev Zcy10 (d : OA) (k : (Int → K)) : K :=
  nn d fun x9 =>
  ldS (x9.add 4) fun x11_1 =>
  Zcy9 d k x11_1 ((x11_1.n : Nat) : Int) 0
abbrev Zcy11 (k : (Int → K)) (x2_1 : Int) : K :=
  k x2_1
abbrev Zcy12 (d : OA) (k : (Int → K)) (x7 : Bool) : K :=
  brK x7
  (Zcy11 k 3)
  (Zcy10 d k)
abbrev Zcy13 (d : OA) (k : (Int → K)) : K :=
  c_nvm_Device_step d fun x6 =>
  Zcy12 d k (!x6)
abbrev nvm_Device_Fence (d : OA) : M Int := fun k =>
  Zcy13 d k
theorem nvm_Device_Fence_ok (d : OA) (k : Int → K) (w : World) (hyp_ : nvm_Device_Fence d k w) : c_nvm_Device_Fence d k w :=
  cl_of (P := Tryz.prog) Tryz.func219 rfl (by kernel_rfl)
  (Qs [] [0] (fun z_ => Zcy13 d k)
  Qz
  (fun _ => Qs [] [0] (fun z_ => Zcy10 d k)
  (Qs [(7, .bool)] [0] (fun z_ => Zcy12 d k z_.1)
  Qz
  (fun ⟨x7, _⟩ => Qc (x7) (Zcy11 k 3) (Zcy10 d k) (Qs [(2, .int .i64)] [] (fun z_ => Zcy11 k z_.1)
  Qz
  (fun ⟨x2_1, _⟩ => Qr)) Qk))
  (fun _ => Qs [] [] (fun z_ => Zcy0 k 0)
  (Qs [(11, .slice), (12, .int .i64), (13, .int .i64)] [0] (fun z_ => Zcy9 d k z_.1 z_.2.1 z_.2.2.1)
  Qz
  (fun ⟨x11, x12, x13, _⟩ => Qb (Ql [(13, .int .i64)] [0, 11, 12] (fun (z_ : (Int × Unit)) c_ => Zcy8 d k x11 x12 z_.1 c_) (x13, ())
  (fun ⟨x13_1, _⟩ c => Qs [(14, .bool)] [0, 11, 12, 13] (fun z_ => Zcy7 d k x11 x13_1 c z_.1)
  Qz
  (fun ⟨x14, _⟩ => Qs [] [0, 11, 12, 13] (fun z_ => Zcy6 d x11 x13_1 c)
  (Qc (x14) (Zcy6 d x11 x13_1 c) (Zcy0 k 0) Qk Qx)
  (fun _ => Qs [] [0, 11, 12, 13] (fun z_ => c ((IntKind.wrap .i64 (x13_1 + 1)), ()))
  (Qb (Qs [(3, .int .i64), (4, .bool)] [0, 11, 12, 13] (fun z_ => Zcy5 d x13_1 c z_.1 z_.2.1)
  Qz
  (fun ⟨line, is, _⟩ => Qs [(18, .bool)] [0, 3, 11, 12, 13] (fun z_ => Zcy4 d x13_1 c line z_.1)
  Qz
  (fun ⟨x18, _⟩ => Qc (x18) (Zcy3 d x13_1 c line) (c ((IntKind.wrap .i64 (x13_1 + 1)), ())) (Qs [] [0, 3, 11, 12, 13] (fun z_ => Zcy2 d x13_1 c line)
  (RefK.draw [] [0, 0, 2, 6, 14, 0, 63, 0, 0, 256, 768, 1792, 0, 8191, 16383] [0, 1, 2, 3, 4, 5, 7, 8, 9, 10, 11, 12, 6, 13, 14] [0, 1, 2, 3, 4, 5, 6, 7, 8, 9, 10, 11, 12, 13, 14] (by kernel_rfl) (by kernel_rfl))
  (fun _ => Qs [] [0, 3, 11, 12, 13] (fun z_ => Zcy1 d x13_1 c line)
  Qz
  (fun _ => RefK.draw [] [0, 1, 3, 7, 0, 0, 0, 64, 192, 448, 0, 2016, 0, 0, 8192, 24576, 57344, 0, 262112, 524256, 1048544, 2097151, 4194303] [0, 1, 2, 3, 4, 5, 6, 7, 8, 9, 10, 12, 13, 14, 15, 16, 17, 11, 18, 19, 20, 21, 22] [0, 1, 2, 3, 4, 5, 6, 7, 8, 9, 10, 11, 12, 13, 14, 15, 16, 17, 18, 19, 20, 21, 22] (by kernel_rfl) (by kernel_rfl)))) Qk))))
  (fun _ => Qz)))))))
  (fun _ => Qs [(2, .int .i64)] [] (fun z_ => Zcy0 k z_.1)
  Qz
  (fun ⟨x2, _⟩ => Qr))))) hyp_
abbrev Zcz0 (k : (Sl → K)) (x6 : Sl) : K :=
  k x6
abbrev Zcz1 (words : Sl) (line : Int) (k : (Sl → K)) : K :=
  loB (some (.int .i64 (IntKind.wrap .i64 ((IntKind.wrap .i64 (line + 1)) * 8)))) words.n words.c fun h =>
  loB (some (.int .i64 (IntKind.wrap .i64 (line * 8)))) 0 h fun l =>
  Zcz0 k ⟨(cutP words.p l words.c 1), (h - l), (words.c - l)⟩
abbrev nvm_Device_part (d : OA) (words : Sl) (line : Int) : M Sl := fun k =>
  Zcz1 words line k
theorem nvm_Device_part_ok (d : OA) (words : Sl) (line : Int) (k : Sl → K) (w : World) (hyp_ : nvm_Device_part d words line k w) : c_nvm_Device_part d words line k w :=
  cl_of (P := Tryz.prog) Tryz.func233 rfl (by kernel_rfl)
  (Qs [] [1, 2] (fun z_ => Zcz1 words line k)
  Qz
  (fun _ => Qs [(6, .slice)] [] (fun z_ => Zcz0 k z_.1)
  Qz
  (fun ⟨x6, _⟩ => Qr))) hyp_
end
variable {D : List Deferred}
inductive Tr where
  | nil
  | step (i : Nat) (t : Tr)
  | alt (i : Nat) (t r : Tr)
  | no
section
variable (P : Program) (ops : Array Oper) (B : Nat → Nat → Bool)
def EVT (Q : Act → World → Prop) : Tr → Pend → Act → World → Prop
  | .nil, _, a, w => Q a w
  | .step i t, p, a, w => st1 P ops B p i (EVT Q t) a w
  | .alt i t r, p, a, w => st1 P ops B p i (EVT Q t) a w ∧ EVT Q r p a w
  | .no, _, _, _ => True
end
mutual
def okTr (ops : Array Oper) (B : Nat → Nat → Bool) : Tr → List Nat → Bool
  | .nil, rem => rem.isEmpty
  | .step i t, rem => rem.contains i && (rem.all fun j => j == i || B j i || indep ops i j) && okTr ops B t (rem.erase i)
  | .alt i t r, rem => rem.contains i && okTr ops B t (rem.erase i) && okAl ops B r rem [i]
  | .no, _ => false
def okAl (ops : Array Oper) (B : Nat → Nat → Bool) : Tr → List Nat → List Nat → Bool
  | .alt i t r, rem, seen => rem.contains i && okTr ops B t (rem.erase i) && okAl ops B r rem (i :: seen)
  | .no, rem, seen => rem.all fun j => seen.contains j || rem.any fun k => B j k
  | .nil, _, _ => false
  | .step _ _, _, _ => false
end
section
variable {P : Program} {ops : Array Oper} {B : Nat → Nat → Bool}
theorem EVT.anti {Q : Act → World → Prop} : ∀ {t : Tr} {p p' : Pend} {a : Act} {w : World}, (∀ x ∈ p', x ∈ p) → EVT P ops B Q t p a w → EVT P ops B Q t p' a w
  | .nil, _, _, _, _, _, h => h
  | .step i t, _, _, _, _, hp, h => st1.anti hp (fun _ _ _ _ hp h => EVT.anti hp h) h
  | .alt i t r, _, _, _, _, hp, h => ⟨st1.anti hp (fun _ _ _ _ hp h => EVT.anti hp h) h.1, EVT.anti hp h.2⟩
  | .no, _, _, _, _, _, _ => trivial
theorem EVT.front {Q : Act → World → Prop} {i : Nat} : ∀ (t : Tr) (rem : List Nat), rem.Nodup → i ∈ rem → (∀ j ∈ rem, B i j = false) →
    (okTr ops B t rem = true → ∃ t', okTr ops B t' (rem.erase i) = true ∧ ∀ p a w, EVT P ops B Q t p a w → st1 P ops B p i (EVT P ops B Q t') a w) ∧
    (∀ seen, okAl ops B t rem seen = true → i ∉ seen → ∃ t', okTr ops B t' (rem.erase i) = true ∧ ∀ p a w, EVT P ops B Q t p a w → st1 P ops B p i (EVT P ops B Q t') a w) := by
  intro t
  induction t with
  | nil =>
    intro rem hn hi hm
    refine ⟨fun h => ?_, fun seen h => by simp [okAl] at h⟩
    simp only [okTr, List.isEmpty_iff] at h; subst h; cases hi
  | no =>
    intro rem hn hi hm
    refine ⟨fun h => by simp [okTr] at h, fun seen h hs => ?_⟩
    simp only [okAl, List.all_eq_true, Bool.or_eq_true, List.any_eq_true] at h
    rcases h i hi with h1 | ⟨k, hk, hb⟩
    · exact absurd (by simpa using h1) hs
    · rw [hm k hk] at hb; cases hb
  | step j t ih =>
    intro rem hn hi hm
    refine ⟨fun h => ?_, fun seen h => by simp [okAl] at h⟩
    simp only [okTr, Bool.and_eq_true, List.all_eq_true, Bool.or_eq_true, beq_iff_eq] at h
    obtain ⟨⟨h1, h2⟩, h3⟩ := h
    by_cases hji : j = i
    · subst hji; exact ⟨t, h3, fun p a w h => h⟩
    · obtain ⟨t', h4, h5⟩ := (ih (rem.erase j) (hn.erase j) ((List.mem_erase_of_ne (Ne.symm hji)).2 hi) (fun k hk => hm k (List.mem_of_mem_erase hk))).1 h3
      have hjr : j ∈ rem := by simpa using h1
      have hBij := hm j hjr
      have hind : indep ops j i = true := by
        rcases h2 i hi with (h | h) | h
        · exact absurd h.symm hji
        · rw [hBij] at h; cases h
        · exact h
      refine ⟨.step j t', ?_, fun p a w h => ?_⟩
      · simp only [okTr, Bool.and_eq_true, List.all_eq_true, Bool.or_eq_true, beq_iff_eq]
        refine ⟨⟨by simpa using (List.mem_erase_of_ne hji).2 hjr, fun k hk => h2 k (List.mem_of_mem_erase hk)⟩, ?_⟩
        rw [List.erase_comm]; exact h4
      · have hh : st1 P ops B p j (fun p a w => st1 P ops B p i (EVT P ops B Q t') a w) a w := st1.anti (fun _ h => h) (fun p1 p2 a1 w1 hp h => st1.anti hp (fun _ _ _ _ hp h => EVT.anti hp h) (h5 _ _ _ h)) h
        exact st1.swap hind hBij (fun _ _ _ _ hp h => EVT.anti hp h) hh
  | alt j t r iht ihr =>
    intro rem hn hi hm
    have key : ∀ seen, (rem.contains j && okTr ops B t (rem.erase j) && okAl ops B r rem seen) = true → (i ≠ j → i ∉ seen) → ∃ t', okTr ops B t' (rem.erase i) = true ∧ ∀ p a w, EVT P ops B Q (.alt j t r) p a w → st1 P ops B p i (EVT P ops B Q t') a w := by
      intro seen h hs
      simp only [Bool.and_eq_true] at h
      by_cases hji : j = i
      · subst hji; exact ⟨t, h.1.2, fun p a w h => h.1⟩
      · obtain ⟨t', h1, h2⟩ := (ihr rem hn hi hm).2 seen h.2 (hs (Ne.symm hji))
        exact ⟨t', h1, fun p a w h => h2 _ _ _ h.2⟩
    refine ⟨fun h => ?_, fun seen h hs => ?_⟩
    · exact key [j] (by simpa only [okTr] using h) (fun h => by simpa using h)
    · exact key (j :: seen) (by simpa only [okAl] using h) (fun h => by simp [h, hs])

theorem EVT.wpAny {ro : Option Nat} {fm : Nat} {md : Region.Mode} {Q : Exit → Act → World → Prop} {T : List Nat} (hmd : ∀ e, Region.binds .any e = true → Region.binds md e = true)
    (he : edgesOk ops B = true) (hT : topoOk md ops T [] = true) (hTn : ∀ i, i < ops.size → i ∈ T) (hTs : ∀ i ∈ T, i < ops.size) :
    ∀ (fuel : Nat) (rem : List Nat) (t : Tr) (listed : Array Bool) (p : Pend) (a : Act) (w : World), rem.length = fuel → rem.Nodup → okTr ops B t rem = true → EVT P ops B (Q .normal) t p a w →
      listed.size = ops.size → (∀ i, i < ops.size → (i ∈ rem ↔ listed.getD i false = false)) → (∀ i ∈ rem, i < ops.size) →
      (∀ i j, i < ops.size → listed.getD i false = true → B i j = true → j < ops.size → listed.getD j false = true) →
      wpAnyIn (wd ro) fm P md ops Q fuel listed a w := by
  intro fuel
  induction fuel with
  | zero =>
    intro rem t listed p a w hl hn hok h hsz hC hrs hd
    obtain rfl : rem = [] := List.eq_nil_of_length_eq_zero hl
    refine ⟨?_, ?_⟩
    · apply List.eq_nil_iff_forall_not_mem.2
      intro i hi
      obtain ⟨h0, o, ho, _⟩ := mem_ready.1 hi
      have hlt : i < ops.size := (Array.getElem?_eq_some_iff.1 ho).1
      have := (hC i hlt).2 (by simpa [hsz, hlt] using h0)
      cases this
    · cases t with
      | nil => exact h
      | step => simp [okTr] at hok
      | alt => simp [okTr] at hok
      | no => simp [okTr] at hok
  | succ fuel ih =>
    intro rem t listed p a w hl hn hok h hsz hC hrs hd
    refine ⟨fun hr => ?_, fun i hi => ?_⟩
    · have hall := topoOk_spec hT listed (fun _ h => by cases h) (fun j hj => by rw [hsz]; exact hTs j hj) hr
      cases rem with
      | nil => simp at hl
      | cons j C =>
        have hj := hrs j List.mem_cons_self
        have h1 := (hC j hj).1 List.mem_cons_self
        rw [hall j (hTn j hj)] at h1
        cases h1
    · obtain ⟨h0, o, ho, hall⟩ := mem_ready.1 hi
      have hlt : i < ops.size := (Array.getElem?_eq_some_iff.1 ho).1
      have hif : listed.getD i false = false := by simpa [hsz, hlt] using h0
      have hiC : i ∈ rem := (hC i hlt).2 hif
      have hbefore : ∀ j, B i j = true → j < ops.size → listed.getD j false = true := by
        intro j hb hj
        unfold edgesOk at he
        simp only [List.all_eq_true, List.mem_range] at he
        have h1 := he i hlt
        simp only [ho, Bool.and_eq_true, List.all_eq_true, List.mem_range] at h1
        have h2 := h1.2 j hj
        simp only [hb, Bool.not_true, Bool.false_or] at h2
        obtain ⟨e, hem, h3⟩ := Array.any_eq_true'.1 h2
        simp only [Bool.and_eq_true, Bool.or_eq_true, beq_iff_eq] at h3
        have hon := hall e hem (hmd e h3.1)
        have honlt : e.on < ops.size := by
          rw [← hsz]
          rcases Nat.lt_or_ge e.on listed.size with h' | h'
          · exact h'
          · simp [Array.getElem?_eq_none h'] at hon
        rcases h3.2 with rfl | h4
        · exact hon
        · exact hd e.on j honlt hon h4 hj
      have hfree : ∀ j ∈ rem, B i j = false := by
        intro j hj
        cases hb : B i j with
        | false => rfl
        | true => have := (hC j (hrs j hj)).1 hj; rw [hbefore j hb (hrs j hj)] at this; cases this
      obtain ⟨t', hok', hf⟩ := (EVT.front (P := P) (Q := Q .normal) t rem hn hiC hfree).1 hok
      refine wpOpIn_mono ?_ (st1.wpOp (hf _ _ _ h))
      rintro a' w' ⟨p', h'⟩
      refine ih (rem.erase i) t' _ p' a' w' ?_ (hn.erase i) hok' h' ?_ ?_ ?_ ?_
      · rw [List.length_erase_of_mem hiC]; omega
      · simpa using hsz
      · intro k hk
        by_cases hik : i = k
        · subst hik
          have hnot : i ∉ rem.erase i := fun h => (hn.mem_erase_iff.1 h).1 rfl
          simp [hnot, hsz, hk]
        · rw [getD_set_ne false hik, ← hC k hk]
          exact List.mem_erase_of_ne (Ne.symm hik)
      · exact fun k hk => hrs k (List.mem_of_mem_erase hk)
      · intro k j hk hkl hb hj
        by_cases hik : i = k
        · subst hik; exact getD_set_true (hbefore j hb hj)
        · rw [getD_set_ne false hik] at hkl
          exact getD_set_true (hd k j hk hkl hb hj)

def regionOkM (ops : Array Oper) (B : Nat → Nat → Bool) (t : Tr) (gc : List Nat) : Bool :=
  okTr ops B t (List.range ops.size) && allIn ops.size gc && edgesOk ops B && topoOk .any ops gc [] && topoOk .text ops (List.range ops.size) [] && topoOk .gc ops gc []
theorem region_drawM {ro : Option Nat} {fm : Nat} {Q : Exit → Act → World → Prop} {id : Nat} {t : Tr} {gc : List Nat} {a : Act} {w : World} (hok : regionOkM ops B t gc = true) (h : EVT P ops B (Q .normal) t [] a { w with drawn := w.drawn + 1 }) : (Code.region id ops true).wpIn (wd ro) fm P Q a w := by
  unfold regionOkM at hok
  simp only [Bool.and_eq_true] at hok
  obtain ⟨⟨⟨⟨⟨h1, h2⟩, h3⟩, h5⟩, h6⟩, h7⟩ := hok
  obtain ⟨g1, g2, g3, g4⟩ := allIn_spec h2
  have main : ∀ (md : Region.Mode) (T : List Nat), (∀ e, Region.binds .any e = true → Region.binds md e = true) → topoOk md ops T [] = true → (∀ i, i < ops.size → i ∈ T) → (∀ i ∈ T, i < ops.size) →
      wpAnyIn (wd ro) fm P md ops Q ops.size (Array.replicate ops.size false) a { w with drawn := w.drawn + 1 } := fun md T hmd hT hT1 hT2 =>
    EVT.wpAny hmd h3 hT hT1 hT2 ops.size (List.range ops.size) t _ [] a _ (by simp) List.nodup_range h1 h (by simp)
      (fun i hi => by simp [hi]) (fun i hi => List.mem_range.1 hi) (fun i j hi hl => by simp [hi] at hl)
  refine wpIn_region_draw fun t => ?_
  unfold Region.schedule
  split
  · exact wpAnyIn_sound ops.size t _ a _ (main .any gc (fun _ h => h) h5 g2 g4)
  · split
    · exact wpAnyIn_sound ops.size _ _ a _ (main .text (List.range ops.size) (fun e h => by revert h; unfold Region.binds; cases e.ground <;> simp) h6 (fun i hi => List.mem_range.2 hi) (fun i hi => List.mem_range.1 hi))
    · exact wpAnyIn_sound ops.size _ _ a _ (main .gc gc (fun e h => by revert h; unfold Region.binds; cases e.ground <;> simp) h7 g2 g4)
end
def stepE (P : Program) (n : Nat) (ops : Array Oper) (B : Nat → Nat → Bool) (sp : List Nat) (i : Nat) (pd : List (Nat × List Ft)) (E : Env) (K' : List (Nat × List Ft) → Env → K) : K :=
  onSome ops[i]? fun o => gd (okOper n E o) (onSome (wantE E ops o) fun wa => match wa with
    | false => K' pd (E.put o.dst undef)
    | true => match clsOf o with
      | .pure => pureK P o E.rho fun v => splitK (sp.contains i) v fun v => K' pd (E.put o.dst v)
      | .read => readK P o E.rho fun fs v => K' ((i, fs) :: pd) (E.put o.dst v)
      | .alloc => allocK P o E.rho fun v => K' pd (E.put o.dst v)
      | .eff => effK P o E.rho fun v => chk (pends B i pd) fun _ => K' pd (E.put o.dst v))
def andK (a b : K) : K := fun w => a w ∧ b w
def rgnT (P : Program) (n : Nat) (ops : Array Oper) (B : Nat → Nat → Bool) (sp : List Nat) : Tr → List (Nat × List Ft) → Env → (Env → K) → K
  | .nil, _, E, k => k E
  | .step i t, pd, E, k => stepE P n ops B sp i pd E fun pd E => rgnT P n ops B sp t pd E k
  | .alt i t r, pd, E, k => andK (stepE P n ops B sp i pd E fun pd E => rgnT P n ops B sp t pd E k) (rgnT P n ops B sp r pd E k)
  | .no, _, _, _ => fun _ => True
section
variable {P : Program} {n : Nat} {ops : Array Oper} {B : Nat → Nat → Bool} {sp : List Nat}
theorem stepE_st1 {a0 : Act} {K' : List (Nat × List Ft) → Env → K} {KK : Pend → Act → World → Prop} {i : Nat} {pd : List (Nat × List Ft)} {E : Env} {p : Pend} {a : Act} {w : World}
    (ih : ∀ (pd : List (Nat × List Ft)) (E : Env) (p : Pend) (a : Act) (w : World), K' pd E w → Agree D n E a → Fr (dstsL ops.toList) a0 a → PdOk P p pd → KK p a w)
    (h : stepE P n ops B sp i pd E K' w) (ha : Agree D n E a) (hfr : Fr (dstsL ops.toList) a0 a) (hp : PdOk P p pd) : st1 P ops B p i KK a w := by
  unfold stepE at h
  obtain ⟨o, ho, h⟩ := optK h
  obtain ⟨hok, h⟩ := gd_spec h
  obtain ⟨wa, hwa, h⟩ := optK h
  have hw := ha.want hwa
  have hd := okOper.dst hok
  have hfp : ∀ v, Fr (dstsL ops.toList) a0 (a.put o.dst v) := fun v => hfr.put fun d hd => dstsL_mem (by simpa using Array.mem_of_getElem? ho) hd
  refine ⟨o, ho, ?_⟩
  cases wa with
  | false => exact .inl ⟨hw, ih _ _ _ _ _ h (ha.put hd) (hfp _) hp⟩
  | true =>
    refine .inr ⟨hw, ?_⟩
    cases hc : clsOf o with
    | pure =>
      simp only [hc] at h
      have he := ha.exec hok (notsel (by rw [hc]; simp))
      obtain ⟨v, hv, h⟩ := pureK_run hc h
      exact .inl ⟨rfl, v, by rw [he]; exact hv, ih _ _ _ _ _ (splitK_spec h) (ha.put hd) (hfp _) hp⟩
    | read =>
      simp only [hc] at h
      have he := ha.exec hok (notsel (by rw [hc]; simp))
      obtain ⟨v, fs, h, hf, hr⟩ := readK_run h
      refine .inr (.inl ⟨rfl, v, ?_, ih _ _ _ _ _ h (ha.put hd) (hfp _) ?_⟩)
      · rw [he]; exact fun w' hx => hr w' fun f hm => Ft.holds_ext hx (hf f hm)
      · intro x hx
        rcases List.mem_cons.1 hx with rfl | hx
        · exact ⟨fs, List.mem_cons_self, by simp only; rw [he]; exact hr⟩
        · obtain ⟨gs, hm, hg⟩ := hp x hx
          exact ⟨gs, List.mem_cons_of_mem _ hm, hg⟩
    | alloc =>
      simp only [hc] at h
      have he := ha.exec hok (notsel (by rw [hc]; simp))
      obtain ⟨f, ob, hr, h⟩ := allocK_run h
      exact .inr (.inr (.inl ⟨rfl, f, ob, by rw [he]; exact hr, ih _ _ _ _ _ h (ha.put hd) (hfp _) hp⟩))
    | eff =>
      simp only [hc] at h
      have he : execOp a.eval o = execOp E.rho o := by
        by_cases hs : ∀ cs b, o.op ≠ .select cs b
        · exact ha.exec hok hs
        · exfalso
          have : ∃ cs b, o.op = .select cs b := Classical.byContradiction fun hn => hs fun cs b e => hn ⟨cs, b, e⟩
          obtain ⟨cs, b, e⟩ := this
          unfold effK at h
          simp only [e] at h
          exact h.elim
      refine .inr (.inr (.inr ⟨rfl, ?_⟩))
      rw [he]
      refine (effK_run (fun f => rfl) h).mono fun v w' h' => ?_
      obtain ⟨h1, h2⟩ := chk_spec h'
      refine ⟨fun x hx hb => ?_, ih _ _ _ _ _ h2 (ha.put hd) (hfp _) hp⟩
      obtain ⟨fs, hm, hg⟩ := hp x hx
      exact fun w'' hx' => hg w'' fun f hf => Ft.holds_ext hx' (h1 f (pends_mem hm hb f hf))

theorem rgnT_EVT {Q : Act → World → Prop} {k : Env → K} {a0 : Act} (hk : ∀ E' a' w', Agree D n E' a' → Fr (dstsL ops.toList) a0 a' → k E' w' → Q a' w') :
    ∀ (t : Tr) (pd : List (Nat × List Ft)) (E : Env) (p : Pend) (a : Act) (w : World), rgnT P n ops B sp t pd E k w → Agree D n E a → Fr (dstsL ops.toList) a0 a → PdOk P p pd → EVT P ops B Q t p a w := by
  intro t
  induction t with
  | nil => intro pd E p a w h ha hfr _; exact hk _ _ _ ha hfr h
  | step i t ih => intro pd E p a w h ha hfr hp; exact stepE_st1 ih h ha hfr hp
  | alt i t r iht ihr => intro pd E p a w h ha hfr hp; exact ⟨stepE_st1 iht h.1 ha hfr hp, ihr _ _ _ _ _ h.2 ha hfr hp⟩
  | no => intros; trivial
theorem region_drawM_E {ro : Option Nat} {fm : Nat} {Q : Exit → Act → World → Prop} {k : Env → K} {id : Nat} {t : Tr} {gc : List Nat} {E : Env} {a : Act} {w : World} (ha : Agree D n E a)
    (hk : ∀ E' a' w', Agree D n E' a' → Fr (dstsL ops.toList) a a' → k E' w' → Q .normal a' w') (hok : regionOkM ops B t gc = true) (h : rgnT P n ops B sp t [] E k { w with drawn := w.drawn + 1 }) : (Code.region id ops true).wpIn (wd ro) fm P Q a w :=
  region_drawM hok (rgnT_EVT hk _ _ _ _ _ _ h ha (Fr.refl _ _) fun _ hx => (List.not_mem_nil hx).elim)
theorem RefK.drawM (sp bits : List Nat) (tr : Tr) (gc : List Nat) {id : Nat} {ops : Array Oper} {E : Env} {t : K} {Q : Exit → Env → K} (hok : regionOkM ops (bB bits) tr gc = true)
    (h : t = tick fun _ => rgnT P n ops (bB bits) sp tr [] E (Q .normal)) : RefK P n (.region id ops true) E t Q :=
  fun _ _ _ _ _ _ ha ht hq => region_drawM_E ha (fun _ _ _ ha' hf hk => hq _ _ _ _ ha' hf hk) hok (by subst h; exact ht)
end
end Go.Proofs.YtdgcbapclnnkkaaGreat.X
