/- Part 4 of the proof that the law holds for every input: the theorems of this part. Conditions: each theorem bears its own; the last has none. -/
import Derived.Test.YtdgcbapclnnkkaaGreatKc
import Derived.Maps.RangeRun
import Derived.Shelf.Sort.Plain
import Derived.Shelf.SlSortCmp.WholeK
import Derived.Shelf.SlSortCmp.NoneTotal
import Derived.Shelf.Slices.In.SortNone
import Derived.Ground.SlsfProg
import Derived.Test.YtdgcbapclnnkkaaGreatProg
set_option linter.all false
set_option maxRecDepth 4000
namespace Go.Proofs.YtdgcbapclnnkkaaGreat.X
open Go
section
set_option maxRecDepth 100000
abbrev Zee0 (k : (Sl → K)) (x2 : Sl) : K :=
  k x2
abbrev Zee1 (a : OA) (k : (Sl → K)) : K :=
  nn a fun x4 =>
  ldP (x4.add 3) fun x6 =>
  c_bitmap_Set_List x6 fun x7 =>
  Zee0 k x7
abbrev alloc_Allocator_Objects (a : OA) : M Sl := fun k =>
  Zee1 a k
theorem alloc_Allocator_Objects_ok (a : OA) (k : Sl → K) (w : World) (hyp_ : alloc_Allocator_Objects a k w) : c_alloc_Allocator_Objects a k w :=
  cl_of (P := Tryz.prog) Tryz.func12 rfl (by kernel_rfl)
  (Qs [] [0] (fun z_ => Zee1 a k)
  Qz
  (fun _ => Qs [(2, .slice)] [] (fun z_ => Zee0 k z_.1)
  Qz
  (fun ⟨x2, _⟩ => Qr))) hyp_
abbrev Zef0 (k : (Int → K)) (x6 : Int) : K :=
  k x6
abbrev Zef1 (x0 : OA) (x1 : Int) (x2 : Int) (k : (Int → K)) (x9 : Int) : K :=
  nn x0 fun x76 =>
  ldP (x76.add 4) fun x78 =>
  c_free_Lists_Put x78 x1 x9 x2 fun x82 =>
  Zef0 k x82
abbrev Zef2 (k : (Int → K)) (x6_1 : Int) : K :=
  k x6_1
abbrev Zef3 (x0 : OA) (x2 : Int) (k : (Int → K)) (x9 : Int) : K :=
  nn x0 fun x69 =>
  ldP (x69.add 4) fun x71 =>
  c_free_Lists_Push x71 x9 x2 fun x74 =>
  Zef2 k x74
abbrev Zef4 (x0 : OA) (x1 : Int) (x2 : Int) (k : (Int → K)) (x9 : Int) (x67 : Bool) : K :=
  brK x67
  (Zef3 x0 x2 k x9)
  (Zef1 x0 x1 x2 k x9)
abbrev Zef5 (x0 : OA) (x1 : Int) (x2 : Int) (k : (Int → K)) (x9 : Int) : K :=
  brK (decide (x1 < 0))
  (Zef4 x0 x1 x2 k x9 true)
  (Zef4 x0 x1 x2 k x9 (decide (x1 ≥ 4)))
abbrev Zef6 (x0 : OA) (x1 : Int) (x2 : Int) (k : (Int → K)) (x9 : Int) : K :=
  nn x0 fun x57 =>
  ldP (x57.add 3) fun x59 =>
  c_bitmap_Set_Drop x59 x2 fun x61 =>
  Zef5 x0 x1 x2 k x9
abbrev Zef7 (k : (Int → K)) (x6_2 : Int) : K :=
  k x6_2
abbrev Zef8 (x0 : OA) (x2 : Int) (k : (Int → K)) : K :=
  nn x0 fun x51 =>
  ldP (x51.add 3) fun x53 =>
  c_bitmap_Set_Drop x53 x2 fun x55 =>
  Zef7 k 0
abbrev Zef9 (k : (Int → K)) (x6_3 : Int) : K :=
  k x6_3
abbrev Zef10 (x0 : OA) (x2 : Int) (k : (Int → K)) (x11 : Int) (x48 : Bool) : K :=
  brK x48
  (Zef9 k x11)
  (Zef8 x0 x2 k)
abbrev Zef11 (x0 : OA) (x2 : Int) (k : (Int → K)) (x11 : Int) : K :=
  Zef10 x0 x2 k x11 (x11 != 0)
abbrev Zef12 (x0 : OA) (x2 : Int) (k : (Int → K)) : K :=
  tick fun _ =>
  nn x0 fun x37 =>
  ldP (x37.add 0) fun x39 =>
  nn x0 fun x41 =>
  ldI .i64 (Addr.add (x41.add 2) 0) fun x43_0 =>
  c_geom_Geometry_BlockOf x43_0 x2 fun x45 =>
  chk [.cell (x37.add 0) (.pointer x39)] fun _ =>
  c_bman_Manager_Release x39 x45 fun x46 =>
  Zef11 x0 x2 k x46
abbrev Zef13 (x0 : OA) (x1 : Int) (x2 : Int) (k : (Int → K)) (x9 : Int) (x35 : Bool) : K :=
  brK x35
  (Zef12 x0 x2 k)
  (Zef6 x0 x1 x2 k x9)
abbrev Zef14 (x0 : OA) (x1 : Int) (x2 : Int) (k : (Int → K)) (x9 : Int) (x10 : Bool) : K :=
  Zef13 x0 x1 x2 k x9 (!x10)
abbrev Zef15 (x0 : OA) (x1 : Int) (x2 : Int) (k : (Int → K)) (x7 : Addr) : K :=
  ldI .i64 (x7.add 0) fun x30_0 =>
  ldI .i64 (x7.add 1) fun x30_1 =>
  c_ohead_Object_Small (x30_0, x30_1) fun x31 =>
  Zef14 x0 x1 x2 k x31.1 x31.2
abbrev Zef16 (k : (Int → K)) (x6_4 : Int) : K :=
  k x6_4
abbrev Zef17 (x0 : OA) (x1 : Int) (x2 : Int) (k : (Int → K)) (x7 : Addr) (x28 : Bool) : K :=
  brK x28
  (Zef16 k 42)
  (Zef15 x0 x1 x2 k x7)
abbrev Zef18 (x0 : OA) (x1 : Int) (x2 : Int) (k : (Int → K)) (x7 : Addr) (x8 : Bool) : K :=
  brK (!x8)
  (Zef17 x0 x1 x2 k x7 true)
  (nn x0 fun x22 =>
  ldP (x22.add 3) fun x24 =>
  c_bitmap_Set_Has x24 x2 fun x26 =>
  Zef17 x0 x1 x2 k x7 (!x26))
abbrev Zef19 (x0 : OA) (x1 : Int) (x2 : Int) (k : (Int → K)) : K :=
  c_alloc_Allocator_Place x0 x2 fun x15 =>
  alK (.cells #[.int .i64 0, .int .i64 0] 68) fun b =>
  stK (Addr.add ⟨b, 0, none⟩ 0) (.int .i64 x15.1.1) <|
  stK (Addr.add ⟨b, 0, none⟩ 1) (.int .i64 x15.1.2) <|
  Zef18 x0 x1 x2 k ⟨b, 0, none⟩ x15.2
abbrev alloc_Allocator_Free (x0 : OA) (x1 : Int) (x2 : Int) : M Int := fun k =>
  Zef19 x0 x1 x2 k
theorem alloc_Allocator_Free_ok (x0 : OA) (x1 : Int) (x2 : Int) (k : Int → K) (w : World) (hyp_ : alloc_Allocator_Free x0 x1 x2 k w) : c_alloc_Allocator_Free x0 x1 x2 k w :=
  cl_of (P := Tryz.prog) Tryz.func24 rfl (by kernel_rfl)
  (Qs [] [0, 1, 2] (fun z_ => Zef19 x0 x1 x2 k)
  Qz
  (fun _ => Qs [(7, .addr), (8, .bool)] [0, 1, 2] (fun z_ => Zef18 x0 x1 x2 k z_.1 z_.2.1)
  Qz
  (fun ⟨x7, x8, _⟩ => Qs [] [0, 1, 2, 7] (fun z_ => Zef15 x0 x1 x2 k x7)
  (Qs [(28, .bool)] [0, 1, 2, 7] (fun z_ => Zef17 x0 x1 x2 k x7 z_.1)
  (Qp [2])
  (fun ⟨x28, _⟩ => Qc (x28) (Zef16 k 42) (Zef15 x0 x1 x2 k x7) (Qs [(6, .int .i64)] [] (fun z_ => Zef16 k z_.1)
  Qz
  (fun ⟨x6_4, _⟩ => Qr)) Qk))
  (fun _ => Qs [(9, .int .i64), (10, .bool)] [0, 1, 2] (fun z_ => Zef14 x0 x1 x2 k z_.1 z_.2.1)
  Qz
  (fun ⟨x9, x10, _⟩ => Qs [] [0, 1, 2, 9] (fun z_ => Zef6 x0 x1 x2 k x9)
  (Qs [(35, .bool)] [0, 1, 2, 9] (fun z_ => Zef13 x0 x1 x2 k x9 z_.1)
  Qz
  (fun ⟨x35, _⟩ => Qc (x35) (Zef12 x0 x2 k) (Zef6 x0 x1 x2 k x9) (Qs [] [0, 2] (fun z_ => Zef8 x0 x2 k)
  (Qs [(11, .int .i64)] [0, 2] (fun z_ => Zef11 x0 x2 k z_.1)
  (RefK.draw [] [0, 1, 3, 7, 0, 16, 48, 112, 0, 496, 1023, 2047] [0, 1, 2, 3, 4, 5, 6, 7, 8, 9, 10, 11] [0, 1, 2, 3, 4, 5, 6, 7, 8, 9, 10, 11] (by kernel_rfl) (by kernel_rfl))
  (fun ⟨x11, _⟩ => Qs [(48, .bool)] [0, 2, 11] (fun z_ => Zef10 x0 x2 k x11 z_.1)
  Qz
  (fun ⟨x48, _⟩ => Qc (x48) (Zef9 k x11) (Zef8 x0 x2 k) (Qs [(6, .int .i64)] [] (fun z_ => Zef9 k z_.1)
  Qz
  (fun ⟨x6_3, _⟩ => Qr)) Qk)))
  (fun _ => Qs [] [] (fun z_ => Zef7 k 0)
  Qz
  (fun _ => Qs [(6, .int .i64)] [] (fun z_ => Zef7 k z_.1)
  Qz
  (fun ⟨x6_2, _⟩ => Qr)))) Qk))
  (fun _ => Qs [] [0, 1, 2, 9] (fun z_ => Zef5 x0 x1 x2 k x9)
  Qz
  (fun _ => Qs [] [0, 1, 2, 9] (fun z_ => Zef1 x0 x1 x2 k x9)
  (Qs [(67, .bool)] [0, 1, 2, 9] (fun z_ => Zef4 x0 x1 x2 k x9 z_.1)
  (Qp [2])
  (fun ⟨x67, _⟩ => Qc (x67) (Zef3 x0 x2 k x9) (Zef1 x0 x1 x2 k x9) (Qs [(6, .int .i64)] [] (fun z_ => Zef2 k z_.1)
  Qz
  (fun ⟨x6_1, _⟩ => Qr)) Qk))
  (fun _ => Qs [(6, .int .i64)] [] (fun z_ => Zef0 k z_.1)
  Qz
  (fun ⟨x6, _⟩ => Qr))))))))) hyp_
abbrev Zeg0 (k : (Bool → K)) (x4 : Bool) : K :=
  k x4
abbrev Zeg1 (a : OA) (at_1 : Int) (k : (Bool → K)) : K :=
  nn a fun x6 =>
  ldP (x6.add 3) fun x8 =>
  c_bitmap_Set_Has x8 at_1 fun x10 =>
  Zeg0 k x10
abbrev alloc_Allocator_Used (a : OA) (at_1 : Int) : M Bool := fun k =>
  Zeg1 a at_1 k
theorem alloc_Allocator_Used_ok (a : OA) (at_1 : Int) (k : Bool → K) (w : World) (hyp_ : alloc_Allocator_Used a at_1 k w) : c_alloc_Allocator_Used a at_1 k w :=
  cl_of (P := Tryz.prog) Tryz.func27 rfl (by kernel_rfl)
  (Qs [] [0, 1] (fun z_ => Zeg1 a at_1 k)
  Qz
  (fun _ => Qs [(4, .bool)] [] (fun z_ => Zeg0 k z_.1)
  Qz
  (fun ⟨x4, _⟩ => Qr))) hyp_
abbrev Zeh0 (k : ((Int × Int) → K)) (x8 : Int) (x9 : Int) : K :=
  k (x8, x9)
abbrev Zeh1 (x0 : OA) (k : ((Int × Int) → K)) (x11 : Int) : K :=
  nn x0 fun x59 =>
  ldP (x59.add 3) fun x61 =>
  c_bitmap_Set_Add x61 x11 fun x63 =>
  Zeh0 k x11 0
abbrev Zeh2 (k : ((Int × Int) → K)) (x8_1 : Int) (x9_1 : Int) : K :=
  k (x8_1, x9_1)
abbrev Zeh3 (x0 : OA) (k : ((Int × Int) → K)) (x11 : Int) (x13 : Int) (x56 : Bool) : K :=
  brK x56
  (Zeh2 k 0 x13)
  (Zeh1 x0 k x11)
abbrev Zeh4 (x0 : OA) (k : ((Int × Int) → K)) (x11 : Int) (x13 : Int) : K :=
  Zeh3 x0 k x11 x13 (x13 != 0)
abbrev Zeh5 (x0 : OA) (k : ((Int × Int) → K)) (x10 : Addr) (x11 : Int) : K :=
  tick fun _ =>
  nn x0 fun x49 =>
  ldP (x49.add 1) fun x51 =>
  ldI .i64 (x10.add 0) fun x53_0 =>
  ldI .i64 (x10.add 1) fun x53_1 =>
  c_object_Init x51 x11 (x53_0, x53_1) fun x54 =>
  Zeh4 x0 k x11 x54
abbrev Zeh6 (k : ((Int × Int) → K)) (x8_2 : Int) (x9_2 : Int) : K :=
  k (x8_2, x9_2)
abbrev Zeh7 (x0 : OA) (k : ((Int × Int) → K)) (x10 : Addr) (x11 : Int) (x12 : Int) (x46 : Bool) : K :=
  brK x46
  (Zeh6 k 0 x12)
  (Zeh5 x0 k x10 x11)
abbrev Zeh8 (x0 : OA) (k : ((Int × Int) → K)) (x10 : Addr) (x11 : Int) (x12 : Int) : K :=
  Zeh7 x0 k x10 x11 x12 (x12 != 0)
abbrev Zeh9 (x0 : OA) (x1 : Int) (k : ((Int × Int) → K)) (x10 : Addr) : K :=
  ldI .i64 (x10.add 0) fun x41_0 =>
  ldI .i64 (x10.add 1) fun x41_1 =>
  c_alloc_Allocator_room x0 x1 (x41_0, x41_1) fun x42 =>
  Zeh8 x0 k x10 x42.1 x42.2
abbrev Zeh10 (k : ((Int × Int) → K)) (x8_3 : Int) (x9_3 : Int) : K :=
  k (x8_3, x9_3)
abbrev Zeh11 (k : ((Int × Int) → K)) (x8_4 : Int) (x9_4 : Int) : K :=
  k (x8_4, x9_4)
abbrev Zeh12 (x0 : OA) (x1 : Int) (k : ((Int × Int) → K)) (x10 : Addr) (x24 : Bool) : K :=
  brK x24
  (Zeh11 k 0 5)
  (Zeh9 x0 x1 k x10)
abbrev Zeh13 (x0 : OA) (x1 : Int) (k : ((Int × Int) → K)) (x10 : Addr) : K :=
  tick fun _ =>
  ldI .i64 (x10.add 0) fun x25_0 =>
  ldI .i64 (x10.add 1) fun x25_1 =>
  c_ohead_Object_Size (x25_0, x25_1) fun x26 =>
  brK (x26 == 0)
  (Zeh12 x0 x1 k x10 true)
  (ldI .i64 (x10.add 0) fun x29_0 =>
  ldI .i64 (x10.add 1) fun x29_1 =>
  nn x0 fun x32 =>
  ldI .i64 (Addr.add (x32.add 2) 0) fun x34_0 =>
  c_ohead_Object_Size (x29_0, x29_1) fun x30 =>
  chk [.cell (Addr.add (x32.add 2) 0) (.int .i64 x34_0)] fun _ =>
  c_geom_Geometry_Most x34_0 fun x35 =>
  Zeh12 x0 x1 k x10 (decide (x30 > x35)))
abbrev Zeh14 (x0 : OA) (x1 : Int) (k : ((Int × Int) → K)) (x10 : Addr) (x17 : Bool) : K :=
  brK x17
  (Zeh10 k 0 1)
  (Zeh13 x0 x1 k x10)
abbrev Zeh15 (x0 : OA) (x1 : Int) (k : ((Int × Int) → K)) (x10 : Addr) : K :=
  brK (decide (x1 < 0))
  (Zeh14 x0 x1 k x10 true)
  (Zeh14 x0 x1 k x10 (decide (x1 ≥ 4)))
abbrev Zeh16 (x0 : OA) (x1 : Int) (x2 : Int) (x3 : Int) (k : ((Int × Int) → K)) : K :=
  alK (.cells #[.int .i64 0, .int .i64 0] 68) fun b =>
  stK (Addr.add ⟨b, 0, none⟩ 0) (.int .i64 x2) <|
  stK (Addr.add ⟨b, 0, none⟩ 1) (.int .i64 x3) <|
  Zeh15 x0 x1 k ⟨b, 0, none⟩
abbrev alloc_Allocator_Alloc (x0 : OA) (x1 : Int) (x2 : Int) (x3 : Int) : M (Int × Int) := fun k =>
  Zeh16 x0 x1 x2 x3 k
theorem alloc_Allocator_Alloc_ok (x0 : OA) (x1 : Int) (x2 : Int) (x3 : Int) (k : (Int × Int) → K) (w : World) (hyp_ : alloc_Allocator_Alloc x0 x1 x2 x3 k w) : c_alloc_Allocator_Alloc x0 x1 x2 x3 k w :=
  cl_of (P := Tryz.prog) Tryz.func32 rfl (by kernel_rfl)
  (Qs [] [0, 1, 2, 3] (fun z_ => Zeh16 x0 x1 x2 x3 k)
  Qz
  (fun _ => Qs [(10, .addr)] [0, 1] (fun z_ => Zeh15 x0 x1 k z_.1)
  Qz
  (fun ⟨x10, _⟩ => Qs [] [0, 1, 10] (fun z_ => Zeh9 x0 x1 k x10)
  (Qb (Qs [(17, .bool)] [0, 1, 10] (fun z_ => Zeh14 x0 x1 k x10 z_.1)
  (Qp [2])
  (fun ⟨x17, _⟩ => Qc (x17) (Zeh10 k 0 1) (Zeh13 x0 x1 k x10) (Qs [(8, .int .i64), (9, .int .i64)] [] (fun z_ => Zeh10 k z_.1 z_.2.1)
  Qz
  (fun ⟨x8_3, x9_3, _⟩ => Qr)) (Qs [(24, .bool)] [0, 1, 10] (fun z_ => Zeh12 x0 x1 k x10 z_.1)
  (RefK.draw [3] [0, 1, 3, 7, 15, 31, 15, 79, 207, 463, 1023, 2047, 4095, 8191] [0, 1, 2, 3, 4, 6, 7, 8, 9, 5, 10, 11, 12, 13] [0, 1, 2, 3, 4, 5, 6, 7, 8, 9, 10, 11, 12, 13] (by kernel_rfl) (by kernel_rfl))
  (fun ⟨x24, _⟩ => Qc (x24) (Zeh11 k 0 5) (Zeh9 x0 x1 k x10) (Qs [(8, .int .i64), (9, .int .i64)] [] (fun z_ => Zeh11 k z_.1 z_.2.1)
  Qz
  (fun ⟨x8_4, x9_4, _⟩ => Qr)) Qk)))))
  (fun _ => Qs [(11, .int .i64), (12, .int .i64)] [0, 10] (fun z_ => Zeh8 x0 k x10 z_.1 z_.2.1)
  Qz
  (fun ⟨x11, x12, _⟩ => Qs [] [0, 10, 11] (fun z_ => Zeh5 x0 k x10 x11)
  (Qs [(46, .bool)] [0, 10, 11, 12] (fun z_ => Zeh7 x0 k x10 x11 x12 z_.1)
  Qz
  (fun ⟨x46, _⟩ => Qc (x46) (Zeh6 k 0 x12) (Zeh5 x0 k x10 x11) (Qs [(8, .int .i64), (9, .int .i64)] [] (fun z_ => Zeh6 k z_.1 z_.2.1)
  Qz
  (fun ⟨x8_2, x9_2, _⟩ => Qr)) Qk))
  (fun _ => Qs [] [0, 11] (fun z_ => Zeh1 x0 k x11)
  (Qs [(13, .int .i64)] [0, 11] (fun z_ => Zeh4 x0 k x11 z_.1)
  (RefK.draw [] [0, 1, 3, 7, 0, 0, 63, 127] [0, 1, 2, 3, 4, 5, 6, 7] [0, 1, 2, 3, 4, 5, 6, 7] (by kernel_rfl) (by kernel_rfl))
  (fun ⟨x13, _⟩ => Qs [(56, .bool)] [0, 11, 13] (fun z_ => Zeh3 x0 k x11 x13 z_.1)
  Qz
  (fun ⟨x56, _⟩ => Qc (x56) (Zeh2 k 0 x13) (Zeh1 x0 k x11) (Qs [(8, .int .i64), (9, .int .i64)] [] (fun z_ => Zeh2 k z_.1 z_.2.1)
  Qz
  (fun ⟨x8_1, x9_1, _⟩ => Qr)) Qk)))
  (fun _ => Qs [] [11] (fun z_ => Zeh0 k x11 0)
  Qz
  (fun _ => Qs [(8, .int .i64), (9, .int .i64)] [] (fun z_ => Zeh0 k z_.1 z_.2.1)
  Qz
  (fun ⟨x8, x9, _⟩ => Qr))))))))) hyp_
abbrev Zei0 (k : (((Int × Int) × Int) → K)) (x4 : Addr) (x5 : Int) : K :=
  ldI .i64 (x4.add 0) fun x4_0 =>
  ldI .i64 (x4.add 1) fun x4_1 =>
  k ((x4_0, x4_1), x5)
abbrev Zei1 (k : (((Int × Int) × Int) → K)) (x4 : Addr) (o : Addr) : K :=
  ldI .i64 (o.add 0) fun x37_0 =>
  ldI .i64 (o.add 1) fun x37_1 =>
  stK (x4.add 0) (.int .i64 x37_0) <|
  stK (x4.add 1) (.int .i64 x37_1) <|
  Zei0 k x4 0
abbrev Zei2 (k : (((Int × Int) × Int) → K)) (x4 : Addr) (x5_1 : Int) : K :=
  ldI .i64 (x4.add 0) fun x4_0_1 =>
  ldI .i64 (x4.add 1) fun x4_1_1 =>
  k ((x4_0_1, x4_1_1), x5_1)
abbrev Zei3 (k : (((Int × Int) × Int) → K)) (x4 : Addr) : K :=
  stK (x4.add 0) (.int .i64 0) <|
  stK (x4.add 1) (.int .i64 0) <|
  Zei2 k x4 22
abbrev Zei4 (k : (((Int × Int) × Int) → K)) (x4 : Addr) (o : Addr) (x35 : Bool) : K :=
  brK x35
  (Zei3 k x4)
  (Zei1 k x4 o)
abbrev Zei5 (d : OA) (at_1 : Int) (k : (((Int × Int) × Int) → K)) (x4 : Addr) (o : Addr) (e : Int) : K :=
  brK (e != 0)
  (Zei4 k x4 o true)
  (ldI .i64 (o.add 0) fun x28_0 =>
  ldI .i64 (o.add 1) fun x28_1 =>
  c_ohead_Object_Size (x28_0, x28_1) fun x29 =>
  c_nvm_Device_Len d fun x31 =>
  Zei4 k x4 o (decide (x29 > (IntKind.wrap .i64 (x31 - at_1)))))
abbrev Zei6 (d : OA) (at_1 : Int) (k : (((Int × Int) × Int) → K)) (x4 : Addr) : K :=
  c_nvm_Device_Get d at_1 fun x21 =>
  c_ohead_Decode at_1 x21 fun x22 =>
  alK (.cells #[.int .i64 0, .int .i64 0] 68) fun b =>
  stK (Addr.add ⟨b, 0, none⟩ 0) (.int .i64 x22.1.1) <|
  stK (Addr.add ⟨b, 0, none⟩ 1) (.int .i64 x22.1.2) <|
  Zei5 d at_1 k x4 ⟨b, 0, none⟩ x22.2
abbrev Zei7 (k : (((Int × Int) × Int) → K)) (x4 : Addr) (x5_2 : Int) : K :=
  ldI .i64 (x4.add 0) fun x4_0_2 =>
  ldI .i64 (x4.add 1) fun x4_1_2 =>
  k ((x4_0_2, x4_1_2), x5_2)
abbrev Zei8 (k : (((Int × Int) × Int) → K)) (x4 : Addr) : K :=
  stK (x4.add 0) (.int .i64 0) <|
  stK (x4.add 1) (.int .i64 0) <|
  Zei7 k x4 22
abbrev Zei9 (d : OA) (at_1 : Int) (k : (((Int × Int) × Int) → K)) (x4 : Addr) (x15 : Bool) : K :=
  brK x15
  (Zei8 k x4)
  (Zei6 d at_1 k x4)
abbrev Zei10 (d : OA) (at_1 : Int) (k : (((Int × Int) × Int) → K)) (x4 : Addr) : K :=
  brK (decide (at_1 < 0))
  (Zei9 d at_1 k x4 true)
  (c_nvm_Device_Len d fun x13 =>
  Zei9 d at_1 k x4 (decide (at_1 ≥ x13)))
abbrev object_Head (d : OA) (at_1 : Int) : M ((Int × Int) × Int) := fun k =>
  alK (.cells #[.int .i64 0, .int .i64 0] 68) fun b_1 =>
  Zei10 d at_1 k ⟨b_1, 0, none⟩
theorem object_Head_ok (d : OA) (at_1 : Int) (k : ((Int × Int) × Int) → K) (w : World) (hyp_ : object_Head d at_1 k w) : c_object_Head d at_1 k w :=
  cl_of (P := Tryz.prog) Tryz.func55 rfl (by kernel_rfl)
  (Qs [(4, .addr)] [0, 1] (fun z_ => Zei10 d at_1 k z_.1)
  Qz
  (fun ⟨x4, _⟩ => Qs [] [0, 1, 4] (fun z_ => Zei6 d at_1 k x4)
  (Qs [(15, .bool)] [0, 1, 4] (fun z_ => Zei9 d at_1 k x4 z_.1)
  (Qp [2])
  (fun ⟨x15, _⟩ => Qc (x15) (Zei8 k x4) (Zei6 d at_1 k x4) (Qs [(5, .int .i64)] [4] (fun z_ => Zei7 k x4 z_.1)
  Qz
  (fun ⟨x5_2, _⟩ => Qr)) Qk))
  (fun _ => Qs [(6, .addr), (7, .int .i64)] [0, 1, 4] (fun z_ => Zei5 d at_1 k x4 z_.1 z_.2.1)
  Qz
  (fun ⟨o, e, _⟩ => Qs [] [4, 6] (fun z_ => Zei1 k x4 o)
  (Qs [(35, .bool)] [4, 6] (fun z_ => Zei4 k x4 o z_.1)
  (Qp [2])
  (fun ⟨x35, _⟩ => Qc (x35) (Zei3 k x4) (Zei1 k x4 o) (Qs [(5, .int .i64)] [4] (fun z_ => Zei2 k x4 z_.1)
  Qz
  (fun ⟨x5_1, _⟩ => Qr)) Qk))
  (fun _ => Qs [(5, .int .i64)] [4] (fun z_ => Zei0 k x4 z_.1)
  Qz
  (fun ⟨x5, _⟩ => Qr)))))) hyp_
abbrev Zej0 (k : (((Int × Int) × Bool) → K)) (x8 : Addr) (x9 : Bool) : K :=
  ldI .i64 (x8.add 0) fun x8_0 =>
  ldI .i64 (x8.add 1) fun x8_1 =>
  k ((x8_0, x8_1), x9)
abbrev Zej1 (x3 : Int) (k : (((Int × Int) × Bool) → K)) (x5 : Addr) (x8 : Addr) (x10 : Int) (x11 : Addr) (x18 : Int) (x19 : Bool) : K :=
  tick fun _ =>
  ldI .i64 (x11.add 0) fun x72_0 =>
  ldI .i64 (x11.add 1) fun x72_1 =>
  brK x19
  (ldI .i64 (x5.add 0) fun x76_0 =>
  c_geom_Geometry_First x76_0 x10 fun x78 =>
  chk [.cell (x11.add 0) (.int .i64 x72_0), .cell (x11.add 1) (.int .i64 x72_1)] fun _ =>
  brK (x3 == x78)
  (ldI .i64 (x11.add 0) fun x83_0 =>
  ldI .i64 (x11.add 1) fun x83_1 =>
  c_ohead_Object_Blocks (x83_0, x83_1) fun x84 =>
  chk [.cell (x11.add 0) (.int .i64 x72_0), .cell (x11.add 1) (.int .i64 x72_1)] fun _ =>
  stK (x8.add 0) (.int .i64 x72_0) <|
  stK (x8.add 1) (.int .i64 x72_1) <|
  Zej0 k x8 (x18 == x84))
  (stK (x8.add 0) (.int .i64 x72_0) <|
  stK (x8.add 1) (.int .i64 x72_1) <|
  Zej0 k x8 false))
  (stK (x8.add 0) (.int .i64 x72_0) <|
  stK (x8.add 1) (.int .i64 x72_1) <|
  Zej0 k x8 false)
abbrev Zej2 (x2 : Sl) (x3 : Int) (k : (((Int × Int) × Bool) → K)) (x5 : Addr) (x8 : Addr) (x10 : Int) (x11 : Addr) : K :=
  c_bhead_Whole x2 x10 fun x69 =>
  Zej1 x3 k x5 x8 x10 x11 x69.1 x69.2
abbrev Zej3 (k : (((Int × Int) × Bool) → K)) (x8 : Addr) (x9_1 : Bool) : K :=
  ldI .i64 (x8.add 0) fun x8_0_1 =>
  ldI .i64 (x8.add 1) fun x8_1_1 =>
  k ((x8_0_1, x8_1_1), x9_1)
abbrev Zej4 (k : (((Int × Int) × Bool) → K)) (x8 : Addr) (x11 : Addr) (x13 : Addr) (x14 : Int) (x17 : Bool) : K :=
  tick fun _ =>
  ldI .i64 (x11.add 0) fun x58_0 =>
  ldI .i64 (x11.add 1) fun x58_1 =>
  brK x17
  (ldI .i64 (x13.add 0) fun x61_0 =>
  ldI .i64 (x13.add 1) fun x61_1 =>
  ldI .i64 (x13.add 2) fun x61_2 =>
  stK (x8.add 0) (.int .i64 x58_0) <|
  stK (x8.add 1) (.int .i64 x58_1) <|
  chk [.cell (x13.add 0) (.int .i64 x61_0), .cell (x13.add 1) (.int .i64 x61_1), .cell (x13.add 2) (.int .i64 x61_2)] fun _ =>
  Zej3 k x8 ((x61_0 == 1) && ((x61_1 == x14) && ((x61_2 == 0) && true))))
  (stK (x8.add 0) (.int .i64 x58_0) <|
  stK (x8.add 1) (.int .i64 x58_1) <|
  Zej3 k x8 false)
abbrev Zej5 (x3 : Int) (k : (((Int × Int) × Bool) → K)) (x5 : Addr) (x8 : Addr) (x11 : Addr) (x13 : Addr) (x14 : Int) : K :=
  ldI .i64 (x5.add 0) fun x52_0 =>
  c_cells_At x52_0 x14 x3 fun x55 =>
  alK (.cells #[.int .i64 0, .int .i64 0] 168) fun b =>
  stK (Addr.add ⟨b, 0, none⟩ 0) (.int .i64 x55.1.1) <|
  stK (Addr.add ⟨b, 0, none⟩ 1) (.int .i64 x55.1.2) <|
  Zej4 k x8 x11 x13 x14 x55.2
abbrev Zej6 (x2 : Sl) (x3 : Int) (k : (((Int × Int) × Bool) → K)) (x5 : Addr) (x8 : Addr) (x10 : Int) (x11 : Addr) (x13 : Addr) (x14 : Int) (x50 : Bool) : K :=
  brK x50
  (Zej5 x3 k x5 x8 x11 x13 x14)
  (Zej2 x2 x3 k x5 x8 x10 x11)
abbrev Zej7 (x2 : Sl) (x3 : Int) (k : (((Int × Int) × Bool) → K)) (x5 : Addr) (x8 : Addr) (x10 : Int) (x11 : Addr) (x13 : Addr) (x14 : Int) (x15 : Bool) : K :=
  Zej6 x2 x3 k x5 x8 x10 x11 x13 x14 x15
abbrev Zej8 (x2 : Sl) (x3 : Int) (k : (((Int × Int) × Bool) → K)) (x5 : Addr) (x8 : Addr) (x10 : Int) (x11 : Addr) (x13 : Addr) : K :=
  ldI .i64 (x11.add 0) fun x46_0 =>
  ldI .i64 (x11.add 1) fun x46_1 =>
  c_ohead_Object_Small (x46_0, x46_1) fun x47 =>
  Zej7 x2 x3 k x5 x8 x10 x11 x13 x47.1 x47.2
abbrev Zej9 (x2 : Sl) (x3 : Int) (k : (((Int × Int) × Bool) → K)) (x5 : Addr) (x8 : Addr) (x10 : Int) (x11 : Addr) : K :=
  ixS x2.p x2.n x10 3 fun x43 =>
  ldI .i64 (x43.add 0) fun x44_0 =>
  ldI .i64 (x43.add 1) fun x44_1 =>
  ldI .i64 (x43.add 2) fun x44_2 =>
  alK (.cells #[.int .i64 0, .int .i64 0, .int .i64 0] 143) fun b_1 =>
  stK (Addr.add ⟨b_1, 0, none⟩ 0) (.int .i64 x44_0) <|
  stK (Addr.add ⟨b_1, 0, none⟩ 1) (.int .i64 x44_1) <|
  stK (Addr.add ⟨b_1, 0, none⟩ 2) (.int .i64 x44_2) <|
  Zej8 x2 x3 k x5 x8 x10 x11 ⟨b_1, 0, none⟩
abbrev Zej10 (k : (((Int × Int) × Bool) → K)) (x8 : Addr) (x9_2 : Bool) : K :=
  ldI .i64 (x8.add 0) fun x8_0_2 =>
  ldI .i64 (x8.add 1) fun x8_1_2 =>
  k ((x8_0_2, x8_1_2), x9_2)
abbrev Zej11 (k : (((Int × Int) × Bool) → K)) (x8 : Addr) : K :=
  stK (x8.add 0) (.int .i64 0) <|
  stK (x8.add 1) (.int .i64 0) <|
  Zej10 k x8 false
abbrev Zej12 (x2 : Sl) (x3 : Int) (k : (((Int × Int) × Bool) → K)) (x5 : Addr) (x8 : Addr) (x10 : Int) (x11 : Addr) (x39 : Bool) : K :=
  brK x39
  (Zej11 k x8)
  (Zej9 x2 x3 k x5 x8 x10 x11)
abbrev Zej13 (x2 : Sl) (x3 : Int) (k : (((Int × Int) × Bool) → K)) (x5 : Addr) (x8 : Addr) (x10 : Int) (x11 : Addr) (x12 : Int) : K :=
  Zej12 x2 x3 k x5 x8 x10 x11 (x12 != 0)
abbrev Zej14 (x0 : OA) (x2 : Sl) (x3 : Int) (k : (((Int × Int) × Bool) → K)) (x5 : Addr) (x8 : Addr) (x10 : Int) : K :=
  c_object_Head x0 x3 fun x35 =>
  alK (.cells #[.int .i64 0, .int .i64 0] 68) fun b_2 =>
  stK (Addr.add ⟨b_2, 0, none⟩ 0) (.int .i64 x35.1.1) <|
  stK (Addr.add ⟨b_2, 0, none⟩ 1) (.int .i64 x35.1.2) <|
  Zej13 x2 x3 k x5 x8 x10 ⟨b_2, 0, none⟩ x35.2
abbrev Zej15 (k : (((Int × Int) × Bool) → K)) (x8 : Addr) (x9_3 : Bool) : K :=
  ldI .i64 (x8.add 0) fun x8_0_3 =>
  ldI .i64 (x8.add 1) fun x8_1_3 =>
  k ((x8_0_3, x8_1_3), x9_3)
abbrev Zej16 (k : (((Int × Int) × Bool) → K)) (x8 : Addr) : K :=
  stK (x8.add 0) (.int .i64 0) <|
  stK (x8.add 1) (.int .i64 0) <|
  Zej15 k x8 false
abbrev Zej17 (x0 : OA) (x2 : Sl) (x3 : Int) (k : (((Int × Int) × Bool) → K)) (x5 : Addr) (x8 : Addr) (x10 : Int) (x30 : Bool) : K :=
  brK x30
  (Zej16 k x8)
  (Zej14 x0 x2 x3 k x5 x8 x10)
abbrev Zej18 (x0 : OA) (x2 : Sl) (x3 : Int) (k : (((Int × Int) × Bool) → K)) (x5 : Addr) (x8 : Addr) (x10 : Int) : K :=
  brK (decide (x10 < 1))
  (Zej17 x0 x2 x3 k x5 x8 x10 true)
  (Zej17 x0 x2 x3 k x5 x8 x10 (decide (x10 ≥ ((x2.n : Nat) : Int))))
abbrev Zej19 (x0 : OA) (x2 : Sl) (x3 : Int) (k : (((Int × Int) × Bool) → K)) (x5 : Addr) (x8 : Addr) : K :=
  ldI .i64 (x5.add 0) fun x20_0 =>
  c_geom_Geometry_BlockOf x20_0 x3 fun x22 =>
  Zej18 x0 x2 x3 k x5 x8 x22
abbrev alloc_Placed (x0 : OA) (x1 : Int) (x2 : Sl) (x3 : Int) : M ((Int × Int) × Bool) := fun k =>
  alK (.cells #[.int .i64 x1] 43) fun b_3 =>
  alK (.cells #[.int .i64 0, .int .i64 0] 68) fun b_4 =>
  Zej19 x0 x2 x3 k ⟨b_3, 0, none⟩ ⟨b_4, 0, none⟩
theorem alloc_Placed_ok (x0 : OA) (x1 : Int) (x2 : Sl) (x3 : Int) (k : ((Int × Int) × Bool) → K) (w : World) (hyp_ : alloc_Placed x0 x1 x2 x3 k w) : c_alloc_Placed x0 x1 x2 x3 k w :=
  cl_of (P := Tryz.prog) Tryz.func56 rfl (by kernel_rfl)
  (Qs [(5, .addr), (8, .addr)] [0, 2, 3] (fun z_ => Zej19 x0 x2 x3 k z_.1 z_.2.1)
  Qz
  (fun ⟨x5, x8, _⟩ => Qs [(10, .int .i64)] [0, 2, 3, 5, 8] (fun z_ => Zej18 x0 x2 x3 k x5 x8 z_.1)
  Qz
  (fun ⟨x10, _⟩ => Qs [] [0, 2, 3, 5, 8, 10] (fun z_ => Zej14 x0 x2 x3 k x5 x8 x10)
  (Qs [(30, .bool)] [0, 2, 3, 5, 8, 10] (fun z_ => Zej17 x0 x2 x3 k x5 x8 x10 z_.1)
  (Qp [2])
  (fun ⟨x30, _⟩ => Qc (x30) (Zej16 k x8) (Zej14 x0 x2 x3 k x5 x8 x10) (Qs [(9, .bool)] [8] (fun z_ => Zej15 k x8 z_.1)
  Qz
  (fun ⟨x9_3, _⟩ => Qr)) Qk))
  (fun _ => Qs [(11, .addr), (12, .int .i64)] [2, 3, 5, 8, 10] (fun z_ => Zej13 x2 x3 k x5 x8 x10 z_.1 z_.2.1)
  Qz
  (fun ⟨x11, x12, _⟩ => Qs [] [2, 3, 5, 8, 10, 11] (fun z_ => Zej9 x2 x3 k x5 x8 x10 x11)
  (Qs [(39, .bool)] [2, 3, 5, 8, 10, 11] (fun z_ => Zej12 x2 x3 k x5 x8 x10 x11 z_.1)
  Qz
  (fun ⟨x39, _⟩ => Qc (x39) (Zej11 k x8) (Zej9 x2 x3 k x5 x8 x10 x11) (Qs [(9, .bool)] [8] (fun z_ => Zej10 k x8 z_.1)
  Qz
  (fun ⟨x9_2, _⟩ => Qr)) Qk))
  (fun _ => Qs [(13, .addr)] [2, 3, 5, 8, 10, 11] (fun z_ => Zej8 x2 x3 k x5 x8 x10 x11 z_.1)
  Qz
  (fun ⟨x13, _⟩ => Qs [(14, .int .i64), (15, .bool)] [2, 3, 5, 8, 10, 11, 13] (fun z_ => Zej7 x2 x3 k x5 x8 x10 x11 x13 z_.1 z_.2.1)
  Qz
  (fun ⟨x14, x15, _⟩ => Qs [] [2, 3, 5, 8, 10, 11] (fun z_ => Zej2 x2 x3 k x5 x8 x10 x11)
  (Qs [(50, .bool)] [2, 3, 5, 8, 10, 11, 13, 14] (fun z_ => Zej6 x2 x3 k x5 x8 x10 x11 x13 x14 z_.1)
  Qz
  (fun ⟨x50, _⟩ => Qc (x50) (Zej5 x3 k x5 x8 x11 x13 x14) (Zej2 x2 x3 k x5 x8 x10 x11) (Qs [(17, .bool)] [8, 11, 13, 14] (fun z_ => Zej4 k x8 x11 x13 x14 z_.1)
  Qz
  (fun ⟨x17, _⟩ => Qs [(9, .bool)] [8] (fun z_ => Zej3 k x8 z_.1)
  (RefK.draw [2] [0, 0, 2, 6, 6, 22, 62, 126, 7, 511] [0, 1, 2, 3, 4, 5, 6, 7, 8, 9] [0, 1, 2, 8, 3, 4, 5, 6, 7, 9] (by kernel_rfl) (by kernel_rfl))
  (fun ⟨x9_1, _⟩ => Qr))) Qk))
  (fun _ => Qs [(18, .int .i64), (19, .bool)] [3, 5, 8, 10, 11] (fun z_ => Zej1 x3 k x5 x8 x10 x11 z_.1 z_.2.1)
  Qz
  (fun ⟨x18, x19, _⟩ => Qs [(9, .bool)] [8] (fun z_ => Zej0 k x8 z_.1)
  (RefK.draw [2, 9] [0, 0, 2, 6, 6, 6, 54, 126, 254, 510, 1022, 1022, 3070, 8190, 16382, 7167, 65535] [0, 1, 2, 3, 4, 5, 6, 7, 8, 9, 10, 11, 12, 13, 14, 15, 16] [0, 1, 2, 3, 4, 5, 6, 7, 8, 9, 11, 12, 15, 10, 13, 14, 16] (by kernel_rfl) (by kernel_rfl))
  (fun ⟨x9, _⟩ => Qr))))))))))) hyp_
abbrev Zek0 (k : (((Int × Int) × Bool) → K)) (x4 : Addr) (x5 : Bool) : K :=
  ldI .i64 (x4.add 0) fun x4_0 =>
  ldI .i64 (x4.add 1) fun x4_1 =>
  k ((x4_0, x4_1), x5)
abbrev Zek1 (a : OA) (at_1 : Int) (k : (((Int × Int) × Bool) → K)) (x4 : Addr) : K :=
  tick fun _ =>
  nn a fun x7 =>
  ldP (x7.add 1) fun x9 =>
  nn a fun x11 =>
  ldI .i64 (Addr.add (x11.add 2) 0) fun x13_0 =>
  nn a fun x15 =>
  ldP (x15.add 0) fun x17 =>
  nn x17 fun x18 =>
  ldP (x18.add 0) fun x20 =>
  c_blocks_Table_All x20 fun x21 =>
  chk [.cell (Addr.add (x11.add 2) 0) (.int .i64 x13_0), .cell (x7.add 1) (.pointer x9)] fun _ =>
  c_alloc_Placed x9 x13_0 x21 at_1 fun x23 =>
  stK (x4.add 0) (.int .i64 x23.1.1) <|
  stK (x4.add 1) (.int .i64 x23.1.2) <|
  Zek0 k x4 x23.2
abbrev alloc_Allocator_Place (a : OA) (at_1 : Int) : M ((Int × Int) × Bool) := fun k =>
  alK (.cells #[.int .i64 0, .int .i64 0] 68) fun b =>
  Zek1 a at_1 k ⟨b, 0, none⟩
theorem alloc_Allocator_Place_ok (a : OA) (at_1 : Int) (k : ((Int × Int) × Bool) → K) (w : World) (hyp_ : alloc_Allocator_Place a at_1 k w) : c_alloc_Allocator_Place a at_1 k w :=
  cl_of (P := Tryz.prog) Tryz.func76 rfl (by kernel_rfl)
  (Qs [(4, .addr)] [0, 1] (fun z_ => Zek1 a at_1 k z_.1)
  Qz
  (fun ⟨x4, _⟩ => Qs [(5, .bool)] [4] (fun z_ => Zek0 k x4 z_.1)
  (RefK.draw [] [0, 1, 3, 7, 0, 16, 48, 112, 0, 256, 768, 1792, 3840, 7936, 16128, 32512, 0, 131071, 262143, 262143, 1048575, 2097151] [0, 1, 2, 3, 4, 5, 6, 7, 8, 9, 10, 11, 12, 13, 14, 16, 15, 17, 18, 19, 20, 21] [0, 1, 2, 3, 4, 5, 6, 7, 8, 9, 10, 11, 12, 13, 14, 15, 16, 17, 18, 19, 20, 21] (by kernel_rfl) (by kernel_rfl))
  (fun ⟨x5, _⟩ => Qr))) hyp_
abbrev Zel0 (k : ((Int × Int) → K)) (x6 : Int) (x7 : Int) : K :=
  k (x6, x7)
abbrev Zel1 (x0 : OA) (x1 : Int) (k : ((Int × Int) → K)) (x8 : Int) : K :=
  c_alloc_Allocator_steal x0 x1 x8 fun x86 =>
  Zel0 k x86.1 x86.2
abbrev Zel2 (k : ((Int × Int) → K)) (x6_1 : Int) (x7_1 : Int) : K :=
  k (x6_1, x7_1)
abbrev Zel3 (x0 : OA) (x1 : Int) (k : ((Int × Int) → K)) (x8 : Int) : K :=
  nn x0 fun x72 =>
  ldP (x72.add 4) fun x74 =>
  c_free_Lists_Take x74 x1 x8 fun x77 =>
  Zel2 k x77.1 x77.2
abbrev Zel4 (k : ((Int × Int) → K)) (x6_2 : Int) (x7_2 : Int) : K :=
  k (x6_2, x7_2)
abbrev Zel5 (x0 : OA) (x1 : Int) (k : ((Int × Int) → K)) (x8 : Int) (x15 : Int) (x81 : Bool) : K :=
  brK x81
  (Zel4 k 0 x15)
  (Zel1 x0 x1 k x8)
abbrev Zel6 (x0 : OA) (x1 : Int) (k : ((Int × Int) → K)) (x8 : Int) (x14 : Int) : K :=
  c_alloc_Allocator_carve x0 x14 x8 fun x70 =>
  Zel3 x0 x1 k x8
abbrev Zel7 (x0 : OA) (x1 : Int) (k : ((Int × Int) → K)) (x8 : Int) (x14 : Int) (x15 : Int) (x66 : Bool) : K :=
  brK x66
  (Zel6 x0 x1 k x8 x14)
  (Zel5 x0 x1 k x8 x15 (x15 != 4))
abbrev Zel8 (x0 : OA) (x1 : Int) (k : ((Int × Int) → K)) (x8 : Int) (x14 : Int) (x15 : Int) : K :=
  Zel7 x0 x1 k x8 x14 x15 (x15 == 0)
abbrev Zel9 (x0 : OA) (x1 : Int) (k : ((Int × Int) → K)) (x8 : Int) : K :=
  nn x0 fun x58 =>
  ldP (x58.add 0) fun x60 =>
  c_bman_Manager_Small x60 x8 fun x62 =>
  Zel8 x0 x1 k x8 x62.1 x62.2
abbrev Zel10 (k : ((Int × Int) → K)) (x6_3 : Int) (x7_3 : Int) : K :=
  k (x6_3, x7_3)
abbrev Zel11 (x0 : OA) (x1 : Int) (k : ((Int × Int) → K)) (x8 : Int) (x12 : Int) (x13 : Int) (x53 : Bool) : K :=
  brK x53
  (Zel10 k x12 x13)
  (Zel9 x0 x1 k x8)
abbrev Zel12 (x0 : OA) (x1 : Int) (k : ((Int × Int) → K)) (x8 : Int) (x12 : Int) (x13 : Int) : K :=
  Zel11 x0 x1 k x8 x12 x13 (x13 == 0)
abbrev Zel13 (x0 : OA) (x1 : Int) (k : ((Int × Int) → K)) (x8 : Int) : K :=
  nn x0 fun x44 =>
  ldP (x44.add 4) fun x46 =>
  c_free_Lists_Take x46 x1 x8 fun x49 =>
  Zel12 x0 x1 k x8 x49.1 x49.2
abbrev Zel14 (k : ((Int × Int) → K)) (x6_4 : Int) (x7_4 : Int) : K :=
  k (x6_4, x7_4)
abbrev Zel15 (x0 : OA) (k : ((Int × Int) → K)) (x10 : Int) : K :=
  nn x0 fun x37 =>
  ldI .i64 (Addr.add (x37.add 2) 0) fun x39_0 =>
  c_geom_Geometry_First x39_0 x10 fun x41 =>
  Zel14 k x41 0
abbrev Zel16 (k : ((Int × Int) → K)) (x6_5 : Int) (x7_5 : Int) : K :=
  k (x6_5, x7_5)
abbrev Zel17 (x0 : OA) (k : ((Int × Int) → K)) (x10 : Int) (x11 : Int) (x34 : Bool) : K :=
  brK x34
  (Zel16 k 0 x11)
  (Zel15 x0 k x10)
abbrev Zel18 (x0 : OA) (k : ((Int × Int) → K)) (x10 : Int) (x11 : Int) : K :=
  Zel17 x0 k x10 x11 (x11 != 0)
abbrev Zel19 (x0 : OA) (k : ((Int × Int) → K)) (x5 : Addr) : K :=
  tick fun _ =>
  nn x0 fun x25 =>
  ldP (x25.add 0) fun x27 =>
  ldI .i64 (x5.add 0) fun x28_0 =>
  ldI .i64 (x5.add 1) fun x28_1 =>
  c_ohead_Object_Blocks (x28_0, x28_1) fun x29 =>
  chk [.cell (x25.add 0) (.pointer x27)] fun _ =>
  c_bman_Manager_Large x27 x29 fun x30 =>
  Zel18 x0 k x30.1 x30.2
abbrev Zel20 (x0 : OA) (x1 : Int) (k : ((Int × Int) → K)) (x5 : Addr) (x8 : Int) (x22 : Bool) : K :=
  brK x22
  (Zel19 x0 k x5)
  (Zel13 x0 x1 k x8)
abbrev Zel21 (x0 : OA) (x1 : Int) (k : ((Int × Int) → K)) (x5 : Addr) (x8 : Int) (x9 : Bool) : K :=
  Zel20 x0 x1 k x5 x8 (!x9)
abbrev Zel22 (x0 : OA) (x1 : Int) (k : ((Int × Int) → K)) (x5 : Addr) : K :=
  ldI .i64 (x5.add 0) fun x17_0 =>
  ldI .i64 (x5.add 1) fun x17_1 =>
  c_ohead_Object_Small (x17_0, x17_1) fun x18 =>
  Zel21 x0 x1 k x5 x18.1 x18.2
abbrev alloc_Allocator_room (x0 : OA) (x1 : Int) (x2 : (Int × Int)) : M (Int × Int) := fun k =>
  alK (.cells #[.int .i64 x2.1, .int .i64 x2.2] 68) fun b =>
  Zel22 x0 x1 k ⟨b, 0, none⟩
theorem alloc_Allocator_room_ok (x0 : OA) (x1 : Int) (x2 : (Int × Int)) (k : (Int × Int) → K) (w : World) (hyp_ : alloc_Allocator_room x0 x1 x2 k w) : c_alloc_Allocator_room x0 x1 x2 k w :=
  cl_of (P := Tryz.prog) Tryz.func89 rfl (by kernel_rfl)
  (Qs [(5, .addr)] [0, 1] (fun z_ => Zel22 x0 x1 k z_.1)
  Qz
  (fun ⟨x5, _⟩ => Qs [(8, .int .i64), (9, .bool)] [0, 1, 5] (fun z_ => Zel21 x0 x1 k x5 z_.1 z_.2.1)
  Qz
  (fun ⟨x8, x9, _⟩ => Qs [] [0, 1, 8] (fun z_ => Zel13 x0 x1 k x8)
  (Qs [(22, .bool)] [0, 1, 5, 8] (fun z_ => Zel20 x0 x1 k x5 x8 z_.1)
  Qz
  (fun ⟨x22, _⟩ => Qc (x22) (Zel19 x0 k x5) (Zel13 x0 x1 k x8) (Qs [(10, .int .i64), (11, .int .i64)] [0] (fun z_ => Zel18 x0 k z_.1 z_.2.1)
  (RefK.draw [] [0, 1, 3, 7, 0, 16, 63, 127, 255, 255, 511, 2047] [0, 1, 2, 3, 4, 5, 6, 7, 8, 9, 10, 11] [0, 1, 2, 3, 4, 5, 6, 7, 8, 10, 9, 11] (by kernel_rfl) (by kernel_rfl))
  (fun ⟨x10, x11, _⟩ => Qs [] [0, 10] (fun z_ => Zel15 x0 k x10)
  (Qs [(34, .bool)] [0, 10, 11] (fun z_ => Zel17 x0 k x10 x11 z_.1)
  Qz
  (fun ⟨x34, _⟩ => Qc (x34) (Zel16 k 0 x11) (Zel15 x0 k x10) (Qs [(6, .int .i64), (7, .int .i64)] [] (fun z_ => Zel16 k z_.1 z_.2.1)
  Qz
  (fun ⟨x6_5, x7_5, _⟩ => Qr)) Qk))
  (fun _ => Qs [(6, .int .i64), (7, .int .i64)] [] (fun z_ => Zel14 k z_.1 z_.2.1)
  Qz
  (fun ⟨x6_4, x7_4, _⟩ => Qr)))) Qk))
  (fun _ => Qs [] [0, 1, 8] (fun z_ => Zel9 x0 x1 k x8)
  (Qs [(12, .int .i64), (13, .int .i64)] [0, 1, 8] (fun z_ => Zel12 x0 x1 k x8 z_.1 z_.2.1)
  Qz
  (fun ⟨x12, x13, _⟩ => Qs [(53, .bool)] [0, 1, 8, 12, 13] (fun z_ => Zel11 x0 x1 k x8 x12 x13 z_.1)
  Qz
  (fun ⟨x53, _⟩ => Qc (x53) (Zel10 k x12 x13) (Zel9 x0 x1 k x8) (Qs [(6, .int .i64), (7, .int .i64)] [] (fun z_ => Zel10 k z_.1 z_.2.1)
  Qz
  (fun ⟨x6_3, x7_3, _⟩ => Qr)) Qk)))
  (fun _ => Qs [] [0, 1, 8] (fun z_ => Zel1 x0 x1 k x8)
  (Qs [(14, .int .i64), (15, .int .i64)] [0, 1, 8] (fun z_ => Zel8 x0 x1 k x8 z_.1 z_.2.1)
  Qz
  (fun ⟨x14, x15, _⟩ => Qs [(66, .bool)] [0, 1, 8, 14, 15] (fun z_ => Zel7 x0 x1 k x8 x14 x15 z_.1)
  Qz
  (fun ⟨x66, _⟩ => Qc (x66) (Zel6 x0 x1 k x8 x14) (Zel5 x0 x1 k x8 x15 (x15 != 4)) (Qs [] [0, 1, 8] (fun z_ => Zel3 x0 x1 k x8)
  Qz
  (fun _ => Qs [(6, .int .i64), (7, .int .i64)] [] (fun z_ => Zel2 k z_.1 z_.2.1)
  Qz
  (fun ⟨x6_1, x7_1, _⟩ => Qr))) (Qs [(81, .bool)] [0, 1, 8, 15] (fun z_ => Zel5 x0 x1 k x8 x15 z_.1)
  Qz
  (fun ⟨x81, _⟩ => Qc (x81) (Zel4 k 0 x15) (Zel1 x0 x1 k x8) (Qs [(6, .int .i64), (7, .int .i64)] [] (fun z_ => Zel4 k z_.1 z_.2.1)
  Qz
  (fun ⟨x6_2, x7_2, _⟩ => Qr)) Qk)))))
  (fun _ => Qs [(6, .int .i64), (7, .int .i64)] [] (fun z_ => Zel0 k z_.1 z_.2.1)
  Qz
  (fun ⟨x6, x7, _⟩ => Qr))))))) hyp_
abbrev Zem0 (k : (Int → K)) (x6 : Int) : K :=
  k x6
abbrev Zem1 (d : OA) (at_1 : Int) (k : (Int → K)) (o_1 : Addr) : K :=
  ldI .i64 (o_1.add 0) fun x47_0 =>
  ldI .i64 (o_1.add 1) fun x47_1 =>
  c_ohead_Object_Encode (x47_0, x47_1) at_1 fun x49 =>
  c_nvm_Device_Store d at_1 x49 fun x50 =>
  Zem0 k x50
abbrev Zem2 (k : (Int → K)) (x6_1 : Int) : K :=
  k x6_1
abbrev Zem3 (k : (Int → K)) (i_1 : Int) (c : ((Int × Unit) → K)) (e : Int) (x43 : Bool) : K :=
  brK x43
  (Zem2 k e)
  (c ((IntKind.wrap .i64 (i_1 + 1)), ()))
abbrev Zem4 (k : (Int → K)) (i_1 : Int) (c : ((Int × Unit) → K)) (e : Int) : K :=
  Zem3 k i_1 c e (e != 0)
abbrev Zem5 (d : OA) (at_1 : Int) (k : (Int → K)) (i_1 : Int) (c : ((Int × Unit) → K)) : K :=
  c_nvm_Device_Store d (IntKind.wrap .i64 (at_1 + i_1)) 0 fun x41 =>
  Zem4 k i_1 c x41
abbrev Zem6 (d : OA) (at_1 : Int) (k : (Int → K)) (o_1 : Addr) (i_1 : Int) (c : ((Int × Unit) → K)) (x34 : Bool) : K :=
  brK x34
  (Zem5 d at_1 k i_1 c)
  (Zem1 d at_1 k o_1)
abbrev Zem7 (d : OA) (at_1 : Int) (k : (Int → K)) (o_1 : Addr) (n : Int) (i_1 : Int) (c : ((Int × Unit) → K)) : K :=
  Zem6 d at_1 k o_1 i_1 c (decide (i_1 < n))
abbrev Zem8 (d : OA) (at_1 : Int) (k : (Int → K)) (o_1 : Addr) (n : Int) (i : Int) : K :=
  lp (fun (z_ : (Int × Unit)) c_ => Zem7 d at_1 k o_1 n z_.1 c_) (i, ())
abbrev Zem9 (k : (Int → K)) (x6_2 : Int) : K :=
  k x6_2
abbrev Zem10 (k : (Int → K)) (x6_3 : Int) : K :=
  k x6_3
abbrev Zem11 (d : OA) (at_1 : Int) (k : (Int → K)) (o_1 : Addr) (n : Int) (x15 : Bool) : K :=
  brK x15
  (Zem10 k 2)
  (Zem8 d at_1 k o_1 n 1)
abbrev Zem12 (d : OA) (at_1 : Int) (k : (Int → K)) (o_1 : Addr) (n : Int) : K :=
  brK (decide (at_1 < 0))
  (Zem11 d at_1 k o_1 n true)
  (c_nvm_Device_Len d fun x21 =>
  brK (decide (at_1 ≥ x21))
  (Zem11 d at_1 k o_1 n true)
  (c_nvm_Device_Len d fun x27 =>
  Zem11 d at_1 k o_1 n (decide (n > (IntKind.wrap .i64 (x27 - at_1))))))
abbrev Zem13 (d : OA) (at_1 : Int) (k : (Int → K)) (o_1 : Addr) (n : Int) (x12 : Bool) : K :=
  brK x12
  (Zem9 k 5)
  (Zem12 d at_1 k o_1 n)
abbrev Zem14 (d : OA) (at_1 : Int) (k : (Int → K)) (o_1 : Addr) (n : Int) : K :=
  Zem13 d at_1 k o_1 n (n == 0)
abbrev Zem15 (d : OA) (at_1 : Int) (k : (Int → K)) (o_1 : Addr) : K :=
  ldI .i64 (o_1.add 0) fun x10_0 =>
  ldI .i64 (o_1.add 1) fun x10_1 =>
  c_ohead_Object_Size (x10_0, x10_1) fun x11 =>
  Zem14 d at_1 k o_1 x11
abbrev object_Init (d : OA) (at_1 : Int) (o : (Int × Int)) : M Int := fun k =>
  alK (.cells #[.int .i64 o.1, .int .i64 o.2] 68) fun b =>
  Zem15 d at_1 k ⟨b, 0, none⟩
theorem object_Init_ok (d : OA) (at_1 : Int) (o : (Int × Int)) (k : Int → K) (w : World) (hyp_ : object_Init d at_1 o k w) : c_object_Init d at_1 o k w :=
  cl_of (P := Tryz.prog) Tryz.func90 rfl (by kernel_rfl)
  (Qs [(5, .addr)] [0, 1] (fun z_ => Zem15 d at_1 k z_.1)
  Qz
  (fun ⟨o_1, _⟩ => Qs [(7, .int .i64)] [0, 1, 5] (fun z_ => Zem14 d at_1 k o_1 z_.1)
  Qz
  (fun ⟨n, _⟩ => Qs [] [0, 1, 5, 7] (fun z_ => Zem8 d at_1 k o_1 n 1)
  (Qb (Qs [(12, .bool)] [0, 1, 5, 7] (fun z_ => Zem13 d at_1 k o_1 n z_.1)
  Qz
  (fun ⟨x12, _⟩ => Qc (x12) (Zem9 k 5) (Zem12 d at_1 k o_1 n) (Qs [(6, .int .i64)] [] (fun z_ => Zem9 k z_.1)
  Qz
  (fun ⟨x6_2, _⟩ => Qr)) (Qs [(15, .bool)] [0, 1, 5, 7] (fun z_ => Zem11 d at_1 k o_1 n z_.1)
  (Qp [2, 8])
  (fun ⟨x15, _⟩ => Qc (x15) (Zem10 k 2) (Zem8 d at_1 k o_1 n 1) (Qs [(6, .int .i64)] [] (fun z_ => Zem10 k z_.1)
  Qz
  (fun ⟨x6_3, _⟩ => Qr)) Qk)))))
  (fun _ => Qs [] [0, 1, 5] (fun z_ => Zem1 d at_1 k o_1)
  (Qs [(8, .int .i64)] [0, 1, 5, 7] (fun z_ => Zem8 d at_1 k o_1 n z_.1)
  Qz
  (fun ⟨i, _⟩ => Qb (Ql [(8, .int .i64)] [0, 1, 5, 7] (fun (z_ : (Int × Unit)) c_ => Zem7 d at_1 k o_1 n z_.1 c_) (i, ())
  (fun ⟨i_1, _⟩ c => Qs [] [0, 1, 5, 7, 8] (fun z_ => Zem5 d at_1 k i_1 c)
  (Qs [(34, .bool)] [0, 1, 5, 7, 8] (fun z_ => Zem6 d at_1 k o_1 i_1 c z_.1)
  Qz
  (fun ⟨x34, _⟩ => Qc (x34) (Zem5 d at_1 k i_1 c) (Zem1 d at_1 k o_1) Qk Qx))
  (fun _ => Qs [] [0, 1, 5, 7, 8] (fun z_ => c ((IntKind.wrap .i64 (i_1 + 1)), ()))
  (Qb (Qs [(9, .int .i64)] [0, 1, 5, 7, 8] (fun z_ => Zem4 k i_1 c z_.1)
  Qz
  (fun ⟨e, _⟩ => Qs [(43, .bool)] [0, 1, 5, 7, 8, 9] (fun z_ => Zem3 k i_1 c e z_.1)
  Qz
  (fun ⟨x43, _⟩ => Qc (x43) (Zem2 k e) (c ((IntKind.wrap .i64 (i_1 + 1)), ())) (Qs [(6, .int .i64)] [] (fun z_ => Zem2 k z_.1)
  Qz
  (fun ⟨x6_1, _⟩ => Qr)) Qk))))
  (fun _ => Qz))))))
  (fun _ => Qs [(6, .int .i64)] [] (fun z_ => Zem0 k z_.1)
  Qz
  (fun ⟨x6, _⟩ => Qr)))))) hyp_
abbrev Zen0 (k : (Sl → K)) (x4 : Sl) : K :=
  k x4
abbrev Zen1 (a : OA) (k_1 : Int) (k : (Sl → K)) : K :=
  nn a fun x6 =>
  ldP (x6.add 4) fun x8 =>
  c_free_Lists_List x8 k_1 fun x10 =>
  Zen0 k x10
abbrev alloc_Allocator_FreeCells (a : OA) (k_1 : Int) : M Sl := fun k =>
  Zen1 a k_1 k
theorem alloc_Allocator_FreeCells_ok (a : OA) (k_1 : Int) (k : Sl → K) (w : World) (hyp_ : alloc_Allocator_FreeCells a k_1 k w) : c_alloc_Allocator_FreeCells a k_1 k w :=
  cl_of (P := Tryz.prog) Tryz.func96 rfl (by kernel_rfl)
  (Qs [] [0, 1] (fun z_ => Zen1 a k_1 k)
  Qz
  (fun _ => Qs [(4, .slice)] [] (fun z_ => Zen0 k z_.1)
  Qz
  (fun ⟨x4, _⟩ => Qr))) hyp_
abbrev Zeo0 (k : ((Bool × Int) → K)) (x4 : Bool) (x5 : Int) : K :=
  k (x4, x5)
abbrev Zeo1 (k : ((Bool × Int) → K)) (x4_1 : Bool) (x5_1 : Int) : K :=
  k (x4_1, x5_1)
abbrev Zeo2 (k : ((Bool × Int) → K)) (e : Int) (x55 : Bool) : K :=
  brK x55
  (Zeo1 k false e)
  (Zeo0 k true 0)
abbrev Zeo3 (k : ((Bool × Int) → K)) (e : Int) : K :=
  Zeo2 k e (e != 0)
abbrev Zeo4 (a : OA) (block : Int) (k : ((Bool × Int) → K)) : K :=
  nn a fun x49 =>
  ldP (x49.add 0) fun x51 =>
  c_bman_Manager_Release x51 block fun x53 =>
  Zeo3 k x53
abbrev Zeo5 (a : OA) (block : Int) (k : ((Bool × Int) → K)) (h : Addr) (from_1 : Int) : K :=
  tick fun _ =>
  nn a fun x39 =>
  ldP (x39.add 4) fun x41 =>
  ldI .i64 (h.add 1) fun x43 =>
  c_free_Lists_Remove x41 x43 from_1 (IntKind.wrap .i64 (from_1 + 512)) fun x47 =>
  Zeo4 a block k
abbrev Zeo6 (k : ((Bool × Int) → K)) (x4_2 : Bool) (x5_2 : Int) : K :=
  k (x4_2, x5_2)
abbrev Zeo7 (a : OA) (block : Int) (k : ((Bool × Int) → K)) (h : Addr) (from_1 : Int) (x37 : Bool) : K :=
  brK x37
  (Zeo6 k false 0)
  (Zeo5 a block k h from_1)
abbrev Zeo8 (a : OA) (block : Int) (k : ((Bool × Int) → K)) (h : Addr) (from_1 : Int) : K :=
  ldI .i64 (h.add 0) fun x25 =>
  brK (x25 != 1)
  (Zeo7 a block k h from_1 true)
  (nn a fun x29 =>
  ldP (x29.add 3) fun x31 =>
  c_bitmap_Set_Between x31 from_1 (IntKind.wrap .i64 (from_1 + 512)) fun x35 =>
  Zeo7 a block k h from_1 (decide (x35 > 0)))
abbrev Zeo9 (a : OA) (block : Int) (k : ((Bool × Int) → K)) (h : Addr) : K :=
  nn a fun x19 =>
  ldI .i64 (Addr.add (x19.add 2) 0) fun x21_0 =>
  c_geom_Geometry_First x21_0 block fun x23 =>
  Zeo8 a block k h x23
abbrev Zeo10 (a : OA) (block : Int) (k : ((Bool × Int) → K)) : K :=
  nn a fun x10 =>
  ldP (x10.add 0) fun x12 =>
  nn x12 fun x13 =>
  ldP (x13.add 0) fun x15 =>
  c_blocks_Table_Get x15 block fun x17 =>
  alK (.cells #[.int .i64 0, .int .i64 0, .int .i64 0] 143) fun b =>
  stK (Addr.add ⟨b, 0, none⟩ 0) (.int .i64 x17.1) <|
  stK (Addr.add ⟨b, 0, none⟩ 1) (.int .i64 x17.2.1) <|
  stK (Addr.add ⟨b, 0, none⟩ 2) (.int .i64 x17.2.2) <|
  Zeo9 a block k ⟨b, 0, none⟩
abbrev alloc_Allocator_Trim (a : OA) (block : Int) : M (Bool × Int) := fun k =>
  Zeo10 a block k
theorem alloc_Allocator_Trim_ok (a : OA) (block : Int) (k : (Bool × Int) → K) (w : World) (hyp_ : alloc_Allocator_Trim a block k w) : c_alloc_Allocator_Trim a block k w :=
  cl_of (P := Tryz.prog) Tryz.func104 rfl (by kernel_rfl)
  (Qs [] [0, 1] (fun z_ => Zeo10 a block k)
  Qz
  (fun _ => Qs [(6, .addr)] [0, 1] (fun z_ => Zeo9 a block k z_.1)
  Qz
  (fun ⟨h, _⟩ => Qs [(7, .int .i64)] [0, 1, 6] (fun z_ => Zeo8 a block k h z_.1)
  Qz
  (fun ⟨from_1, _⟩ => Qs [] [0, 1, 6, 7] (fun z_ => Zeo5 a block k h from_1)
  (Qs [(37, .bool)] [0, 1, 6, 7] (fun z_ => Zeo7 a block k h from_1 z_.1)
  (Qp [3])
  (fun ⟨x37, _⟩ => Qc (x37) (Zeo6 k false 0) (Zeo5 a block k h from_1) (Qs [(4, .bool), (5, .int .i64)] [] (fun z_ => Zeo6 k z_.1 z_.2.1)
  Qz
  (fun ⟨x4_2, x5_2, _⟩ => Qr)) Qk))
  (fun _ => Qs [] [0, 1] (fun z_ => Zeo4 a block k)
  (RefK.draw [] [0, 1, 3, 7, 0, 16, 0, 0, 128, 511] [0, 1, 2, 3, 4, 5, 6, 7, 8, 9] [0, 1, 2, 3, 4, 5, 6, 7, 8, 9] (by kernel_rfl) (by kernel_rfl))
  (fun _ => Qs [] [] (fun z_ => Zeo0 k true 0)
  (Qs [(8, .int .i64)] [] (fun z_ => Zeo3 k z_.1)
  Qz
  (fun ⟨e, _⟩ => Qs [(55, .bool)] [8] (fun z_ => Zeo2 k e z_.1)
  Qz
  (fun ⟨x55, _⟩ => Qc (x55) (Zeo1 k false e) (Zeo0 k true 0) (Qs [(4, .bool), (5, .int .i64)] [] (fun z_ => Zeo1 k z_.1 z_.2.1)
  Qz
  (fun ⟨x4_1, x5_1, _⟩ => Qr)) Qk)))
  (fun _ => Qs [(4, .bool), (5, .int .i64)] [] (fun z_ => Zeo0 k z_.1 z_.2.1)
  Qz
  (fun ⟨x4, x5, _⟩ => Qr)))))))) hyp_
abbrev Zep0 (k : (OA → K)) (x2 : OA) : K :=
  k x2
abbrev Zep1 (a : OA) (k : (OA → K)) : K :=
  nn a fun x4 =>
  ldP (x4.add 1) fun x6 =>
  Zep0 k x6
abbrev alloc_Allocator_Device (a : OA) : M OA := fun k =>
  Zep1 a k
theorem alloc_Allocator_Device_ok (a : OA) (k : OA → K) (w : World) (hyp_ : alloc_Allocator_Device a k w) : c_alloc_Allocator_Device a k w :=
  cl_of (P := Tryz.prog) Tryz.func106 rfl (by kernel_rfl)
  (Qs [] [0] (fun z_ => Zep1 a k)
  Qz
  (fun _ => Qs [(2, .ptr)] [] (fun z_ => Zep0 k z_.1)
  Qz
  (fun ⟨x2, _⟩ => Qr))) hyp_
abbrev Zeq0 (k : ((OA × Int) → K)) (x6 : Addr) (x7 : Int) : K :=
  k ((some x6), x7)
abbrev Zeq1 (x8 : Addr) (x13_1 : Int) (c : ((Int × Unit) → K)) (x14 : Addr) : K :=
  ldI .i64 (x14.add 1) fun x68 =>
  c_alloc_Allocator_carve (some x8) x13_1 x68 fun x69 =>
  c ((IntKind.wrap .i64 (x13_1 + 1)), ())
abbrev Zeq2 (x8 : Addr) (x13_1 : Int) (c : ((Int × Unit) → K)) (x14 : Addr) (x64 : Bool) : K :=
  brK x64
  (Zeq1 x8 x13_1 c x14)
  (c ((IntKind.wrap .i64 (x13_1 + 1)), ()))
abbrev Zeq3 (x8 : Addr) (x13_1 : Int) (c : ((Int × Unit) → K)) (x14 : Addr) : K :=
  ldI .i64 (x14.add 0) fun x63 =>
  Zeq2 x8 x13_1 c x14 (x63 == 1)
abbrev Zeq4 (x1 : OA) (x8 : Addr) (x13_1 : Int) (c : ((Int × Unit) → K)) : K :=
  nn x1 fun x57 =>
  ldP (x57.add 0) fun x59 =>
  c_blocks_Table_Get x59 x13_1 fun x61 =>
  alK (.cells #[.int .i64 0, .int .i64 0, .int .i64 0] 143) fun b =>
  stK (Addr.add ⟨b, 0, none⟩ 0) (.int .i64 x61.1) <|
  stK (Addr.add ⟨b, 0, none⟩ 1) (.int .i64 x61.2.1) <|
  stK (Addr.add ⟨b, 0, none⟩ 2) (.int .i64 x61.2.2) <|
  Zeq3 x8 x13_1 c ⟨b, 0, none⟩
abbrev Zeq5 (x1 : OA) (k : ((OA × Int) → K)) (x8 : Addr) (x13_1 : Int) (c : ((Int × Unit) → K)) (x53 : Bool) : K :=
  brK x53
  (Zeq4 x1 x8 x13_1 c)
  (Zeq0 k x8 0)
abbrev Zeq6 (x1 : OA) (k : ((OA × Int) → K)) (x8 : Addr) (x13_1 : Int) (c : ((Int × Unit) → K)) : K :=
  nn x1 fun x49 =>
  ldP (x49.add 0) fun x51 =>
  c_blocks_Table_Len x51 fun x52 =>
  Zeq5 x1 k x8 x13_1 c (decide (x13_1 < x52))
abbrev Zeq7 (x1 : OA) (k : ((OA × Int) → K)) (x8 : Addr) (x13 : Int) : K :=
  lp (fun (z_ : (Int × Unit)) c_ => Zeq6 x1 k x8 z_.1 c_) (x13, ())
abbrev Zeq8 (k : ((OA × Int) → K)) (x6_1 : OA) (x7_1 : Int) : K :=
  k (x6_1, x7_1)
abbrev Zeq9 (k : ((OA × Int) → K)) (x27_1 : Int) (c_1 : ((Int × Unit) → K)) (x45 : Bool) : K :=
  brK x45
  (Zeq8 k none 41)
  (c_1 ((IntKind.wrap .i64 (x27_1 + 1)), ()))
abbrev Zeq10 (k : ((OA × Int) → K)) (x8 : Addr) (x27_1 : Int) (c_1 : ((Int × Unit) → K)) (x10 : Int) : K :=
  ldP (x8.add 3) fun x42 =>
  c_bitmap_Set_Add x42 x10 fun x44 =>
  Zeq9 k x27_1 c_1 (!x44)
abbrev Zeq11 (k : ((OA × Int) → K)) (x6_2 : OA) (x7_2 : Int) : K :=
  k (x6_2, x7_2)
abbrev Zeq12 (k : ((OA × Int) → K)) (x8 : Addr) (x27_1 : Int) (c_1 : ((Int × Unit) → K)) (x10 : Int) (x38 : Bool) : K :=
  brK x38
  (Zeq11 k none 22)
  (Zeq10 k x8 x27_1 c_1 x10)
abbrev Zeq13 (k : ((OA × Int) → K)) (x8 : Addr) (x27_1 : Int) (c_1 : ((Int × Unit) → K)) (x10 : Int) (x12 : Bool) : K :=
  Zeq12 k x8 x27_1 c_1 x10 (!x12)
abbrev Zeq14 (k : ((OA × Int) → K)) (x8 : Addr) (x27_1 : Int) (c_1 : ((Int × Unit) → K)) (x10 : Int) : K :=
  c_alloc_Allocator_Place (some x8) x10 fun x34 =>
  alK (.cells #[.int .i64 0, .int .i64 0] 68) fun b_1 =>
  stK (Addr.add ⟨b_1, 0, none⟩ 0) (.int .i64 x34.1.1) <|
  stK (Addr.add ⟨b_1, 0, none⟩ 1) (.int .i64 x34.1.2) <|
  Zeq13 k x8 x27_1 c_1 x10 x34.2
abbrev Zeq15 (k : ((OA × Int) → K)) (x8 : Addr) (x25 : Sl) (x27_1 : Int) (c_1 : ((Int × Unit) → K)) : K :=
  ixS x25.p x25.n x27_1 1 fun x29 =>
  ldI .i64 x29 fun x30 =>
  Zeq14 k x8 x27_1 c_1 x30
abbrev Zeq16 (x1 : OA) (k : ((OA × Int) → K)) (x8 : Addr) (x25 : Sl) (x27_1 : Int) (c_1 : ((Int × Unit) → K)) (x28 : Bool) : K :=
  brK x28
  (Zeq15 k x8 x25 x27_1 c_1)
  (Zeq7 x1 k x8 1)
abbrev Zeq17 (x1 : OA) (k : ((OA × Int) → K)) (x8 : Addr) (x25 : Sl) (x26 : Int) (x27_1 : Int) (c_1 : ((Int × Unit) → K)) : K :=
  Zeq16 x1 k x8 x25 x27_1 c_1 (decide (x27_1 < x26))
abbrev Zeq18 (x1 : OA) (k : ((OA × Int) → K)) (x8 : Addr) (x25 : Sl) (x26 : Int) (x27 : Int) : K :=
  lp (fun (z_ : (Int × Unit)) c_ => Zeq17 x1 k x8 x25 x26 z_.1 c_) (x27, ())
abbrev Zeq19 (x1 : OA) (x2 : Sl) (k : ((OA × Int) → K)) (x8 : Addr) : K :=
  Zeq18 x1 k x8 x2 ((x2.n : Nat) : Int) 0
abbrev Zeq20 (x0 : OA) (x1 : OA) (x2 : Sl) (k : ((OA × Int) → K)) : K :=
  c_bman_Manager_Geometry x1 fun x18 =>
  c_nvm_Device_Len x0 fun x20 =>
  c_bitmap_New x20 fun x21 =>
  c_free_New fun x22 =>
  alK (.cells #[.pointer x1, .pointer x0, .int .i64 x18, .pointer x21, .pointer x22] 47) fun b_2 =>
  Zeq19 x1 x2 k ⟨b_2, 0, none⟩
abbrev alloc_New (x0 : OA) (x1 : OA) (x2 : Sl) : M (OA × Int) := fun k =>
  Zeq20 x0 x1 x2 k
theorem alloc_New_ok (x0 : OA) (x1 : OA) (x2 : Sl) (k : (OA × Int) → K) (w : World) (hyp_ : alloc_New x0 x1 x2 k w) : c_alloc_New x0 x1 x2 k w :=
  cl_of (P := Tryz.prog) Tryz.func124 rfl (by kernel_rfl)
  (Qs [] [0, 1, 2] (fun z_ => Zeq20 x0 x1 x2 k)
  Qz
  (fun _ => Qs [(8, .addr)] [1, 2] (fun z_ => Zeq19 x1 x2 k z_.1)
  Qz
  (fun ⟨x8, _⟩ => Qs [] [1, 8] (fun z_ => Zeq7 x1 k x8 1)
  (Qs [(25, .slice), (26, .int .i64), (27, .int .i64)] [1, 8] (fun z_ => Zeq18 x1 k x8 z_.1 z_.2.1 z_.2.2.1)
  Qz
  (fun ⟨x25, x26, x27, _⟩ => Qb (Ql [(27, .int .i64)] [1, 8, 25, 26] (fun (z_ : (Int × Unit)) c_ => Zeq17 x1 k x8 x25 x26 z_.1 c_) (x27, ())
  (fun ⟨x27_1, _⟩ c_1 => Qs [(28, .bool)] [1, 8, 25, 26, 27] (fun z_ => Zeq16 x1 k x8 x25 x27_1 c_1 z_.1)
  Qz
  (fun ⟨x28, _⟩ => Qs [] [1, 8, 25, 26, 27] (fun z_ => Zeq15 k x8 x25 x27_1 c_1)
  (Qc (x28) (Zeq15 k x8 x25 x27_1 c_1) (Zeq7 x1 k x8 1) Qk Qx)
  (fun _ => Qs [] [1, 8, 25, 26, 27] (fun z_ => c_1 ((IntKind.wrap .i64 (x27_1 + 1)), ()))
  (Qb (Qs [(10, .int .i64)] [1, 8, 25, 26, 27] (fun z_ => Zeq14 k x8 x27_1 c_1 z_.1)
  Qz
  (fun ⟨x10, _⟩ => Qs [] [1, 8, 10, 25, 26, 27] (fun z_ => Zeq10 k x8 x27_1 c_1 x10)
  (Qs [(12, .bool)] [1, 8, 10, 25, 26, 27] (fun z_ => Zeq13 k x8 x27_1 c_1 x10 z_.1)
  Qz
  (fun ⟨x12, _⟩ => Qs [(38, .bool)] [1, 8, 10, 25, 26, 27] (fun z_ => Zeq12 k x8 x27_1 c_1 x10 z_.1)
  Qz
  (fun ⟨x38, _⟩ => Qc (x38) (Zeq11 k none 22) (Zeq10 k x8 x27_1 c_1 x10) (Qs [(6, .ptr), (7, .int .i64)] [] (fun z_ => Zeq11 k z_.1 z_.2.1)
  Qz
  (fun ⟨x6_2, x7_2, _⟩ => Qr)) Qk)))
  (fun _ => Qs [(45, .bool)] [1, 8, 25, 26, 27] (fun z_ => Zeq9 k x27_1 c_1 z_.1)
  Qz
  (fun ⟨x45, _⟩ => Qc (x45) (Zeq8 k none 41) (c_1 ((IntKind.wrap .i64 (x27_1 + 1)), ())) (Qs [(6, .ptr), (7, .int .i64)] [] (fun z_ => Zeq8 k z_.1 z_.2.1)
  Qz
  (fun ⟨x6_1, x7_1, _⟩ => Qr)) Qk)))))
  (fun _ => Qz)))))))
  (fun _ => Qs [] [8] (fun z_ => Zeq0 k x8 0)
  (Qs [(13, .int .i64)] [1, 8] (fun z_ => Zeq7 x1 k x8 z_.1)
  Qz
  (fun ⟨x13, _⟩ => Qb (Ql [(13, .int .i64)] [1, 8] (fun (z_ : (Int × Unit)) c_ => Zeq6 x1 k x8 z_.1 c_) (x13, ())
  (fun ⟨x13_1, _⟩ c => Qs [] [1, 8, 13] (fun z_ => Zeq4 x1 x8 x13_1 c)
  (Qs [(53, .bool)] [1, 8, 13] (fun z_ => Zeq5 x1 k x8 x13_1 c z_.1)
  Qz
  (fun ⟨x53, _⟩ => Qc (x53) (Zeq4 x1 x8 x13_1 c) (Zeq0 k x8 0) Qk Qx))
  (fun _ => Qs [] [1, 8, 13] (fun z_ => c ((IntKind.wrap .i64 (x13_1 + 1)), ()))
  (Qb (Qs [(14, .addr)] [1, 8, 13] (fun z_ => Zeq3 x8 x13_1 c z_.1)
  Qz
  (fun ⟨x14, _⟩ => Qs [(64, .bool)] [1, 8, 13, 14] (fun z_ => Zeq2 x8 x13_1 c x14 z_.1)
  Qz
  (fun ⟨x64, _⟩ => Qc (x64) (Zeq1 x8 x13_1 c x14) (c ((IntKind.wrap .i64 (x13_1 + 1)), ())) Qz Qk))))
  (fun _ => Qz))))))
  (fun _ => Qs [(6, .addr), (7, .int .i64)] [] (fun z_ => Zeq0 k z_.1 z_.2.1)
  Qz
  (fun ⟨x6, x7, _⟩ => Qr)))))) hyp_
abbrev Zer0 (a : OA) (k_1 : Int) (i_1 : Int) (c : ((Int × Unit) → K)) (at_1 : Int) : K :=
  nn a fun x32 =>
  ldP (x32.add 4) fun x34 =>
  c_free_Lists_Push x34 k_1 at_1 fun x37 =>
  c ((IntKind.wrap .i64 (i_1 - 1)), ())
abbrev Zer1 (a : OA) (k_1 : Int) (i_1 : Int) (c : ((Int × Unit) → K)) (at_1 : Int) (x30 : Bool) : K :=
  brK x30
  (Zer0 a k_1 i_1 c at_1)
  (c ((IntKind.wrap .i64 (i_1 - 1)), ()))
abbrev Zer2 (a : OA) (k_1 : Int) (i_1 : Int) (c : ((Int × Unit) → K)) (at_1 : Int) : K :=
  nn a fun x25 =>
  ldP (x25.add 3) fun x27 =>
  c_bitmap_Set_Has x27 at_1 fun x29 =>
  Zer1 a k_1 i_1 c at_1 (!x29)
abbrev Zer3 (a : OA) (block : Int) (k_1 : Int) (i_1 : Int) (c : ((Int × Unit) → K)) : K :=
  nn a fun x16 =>
  ldI .i64 (Addr.add (x16.add 2) 0) fun x18_0 =>
  c_cells_Address x18_0 k_1 (block, i_1) fun x23 =>
  Zer2 a k_1 i_1 c x23
abbrev Zer4 (a : OA) (block : Int) (k_1 : Int) (k : (Unit → K)) (i_1 : Int) (c : ((Int × Unit) → K)) (x12 : Bool) : K :=
  brK x12
  (Zer3 a block k_1 i_1 c)
  (k ())
abbrev Zer5 (a : OA) (block : Int) (k_1 : Int) (k : (Unit → K)) (i_1 : Int) (c : ((Int × Unit) → K)) : K :=
  Zer4 a block k_1 k i_1 c (decide (i_1 ≥ 0))
abbrev Zer6 (a : OA) (block : Int) (k_1 : Int) (k : (Unit → K)) (i : Int) : K :=
  lp (fun (z_ : (Int × Unit)) c_ => Zer5 a block k_1 k z_.1 c_) (i, ())
abbrev alloc_Allocator_carve (a : OA) (block : Int) (k_1 : Int) : M Unit := fun k =>
  c_class_Cells k_1 fun x9 =>
  Zer6 a block k_1 k (IntKind.wrap .i64 (x9 - 1))
theorem alloc_Allocator_carve_ok (a : OA) (block : Int) (k_1 : Int) (k : Unit → K) (w : World) (hyp_ : alloc_Allocator_carve a block k_1 k w) : c_alloc_Allocator_carve a block k_1 k w :=
  cl_of (P := Tryz.prog) Tryz.func152 rfl (by kernel_rfl)
  (Qs [(6, .int .i64)] [0, 1, 2] (fun z_ => Zer6 a block k_1 k z_.1)
  Qz
  (fun ⟨i, _⟩ => Qb (Ql [(6, .int .i64)] [0, 1, 2] (fun (z_ : (Int × Unit)) c_ => Zer5 a block k_1 k z_.1 c_) (i, ())
  (fun ⟨i_1, _⟩ c => Qs [] [0, 1, 2, 6] (fun z_ => Zer3 a block k_1 i_1 c)
  (Qs [(12, .bool)] [0, 1, 2, 6] (fun z_ => Zer4 a block k_1 k i_1 c z_.1)
  Qz
  (fun ⟨x12, _⟩ => Qc (x12) (Zer3 a block k_1 i_1 c) (k ()) Qk Qx))
  (fun _ => Qs [] [0, 1, 2, 6] (fun z_ => c ((IntKind.wrap .i64 (i_1 - 1)), ()))
  (Qb (Qs [(7, .int .i64)] [0, 1, 2, 6] (fun z_ => Zer2 a k_1 i_1 c z_.1)
  Qz
  (fun ⟨at_1, _⟩ => Qs [(30, .bool)] [0, 1, 2, 6, 7] (fun z_ => Zer1 a k_1 i_1 c at_1 z_.1)
  Qz
  (fun ⟨x30, _⟩ => Qc (x30) (Zer0 a k_1 i_1 c at_1) (c ((IntKind.wrap .i64 (i_1 - 1)), ())) Qz Qk))))
  (fun _ => Qz)))))) hyp_
abbrev Zes0 (k : ((Int × Int) → K)) (x6 : Int) (x7 : Int) : K :=
  k (x6, x7)
abbrev Zes1 (k : ((Int × Int) → K)) (x6_1 : Int) (x7_1 : Int) : K :=
  k (x6_1, x7_1)
abbrev Zes2 (a : OA) (mutator : Int) (k_1 : Int) (k : ((Int × Int) → K)) : K :=
  nn a fun x27 =>
  ldP (x27.add 4) fun x29 =>
  c_free_Lists_Take x29 mutator k_1 fun x32 =>
  Zes1 k x32.1 x32.2
abbrev Zes3 (a : OA) (mutator : Int) (k_1 : Int) (k : ((Int × Int) → K)) (m : Int) : K :=
  nn a fun x21 =>
  ldP (x21.add 4) fun x23 =>
  c_free_Lists_Drain x23 m fun x25 =>
  Zes2 a mutator k_1 k
abbrev Zes4 (a : OA) (mutator : Int) (k_1 : Int) (k : ((Int × Int) → K)) (x9_1 : Int) (c : ((Int × Unit) → K)) (m : Int) (x19 : Bool) : K :=
  brK x19
  (Zes3 a mutator k_1 k m)
  (c ((IntKind.wrap .i64 (x9_1 + 1)), ()))
abbrev Zes5 (a : OA) (mutator : Int) (k_1 : Int) (k : ((Int × Int) → K)) (x9_1 : Int) (c : ((Int × Unit) → K)) (m : Int) : K :=
  nn a fun x13 =>
  ldP (x13.add 4) fun x15 =>
  c_free_Lists_Own x15 m k_1 fun x18 =>
  Zes4 a mutator k_1 k x9_1 c m (decide (x18 > 0))
abbrev Zes6 (a : OA) (mutator : Int) (k_1 : Int) (k : ((Int × Int) → K)) (x9_1 : Int) (c : ((Int × Unit) → K)) (x10 : Bool) : K :=
  brK x10
  (Zes5 a mutator k_1 k x9_1 c x9_1)
  (Zes0 k 0 4)
abbrev Zes7 (a : OA) (mutator : Int) (k_1 : Int) (k : ((Int × Int) → K)) (x9_1 : Int) (c : ((Int × Unit) → K)) : K :=
  Zes6 a mutator k_1 k x9_1 c (decide (x9_1 < 4))
abbrev Zes8 (a : OA) (mutator : Int) (k_1 : Int) (k : ((Int × Int) → K)) (x9 : Int) : K :=
  lp (fun (z_ : (Int × Unit)) c_ => Zes7 a mutator k_1 k z_.1 c_) (x9, ())
abbrev alloc_Allocator_steal (a : OA) (mutator : Int) (k_1 : Int) : M (Int × Int) := fun k =>
  Zes8 a mutator k_1 k 0
theorem alloc_Allocator_steal_ok (a : OA) (mutator : Int) (k_1 : Int) (k : (Int × Int) → K) (w : World) (hyp_ : alloc_Allocator_steal a mutator k_1 k w) : c_alloc_Allocator_steal a mutator k_1 k w :=
  cl_of (P := Tryz.prog) Tryz.func153 rfl (by kernel_rfl)
  (Qs [] [0, 1, 2] (fun z_ => Zes8 a mutator k_1 k 0)
  Qz
  (fun _ => Qs [] [] (fun z_ => Zes0 k 0 4)
  (Qs [(9, .int .i64)] [0, 1, 2] (fun z_ => Zes8 a mutator k_1 k z_.1)
  Qz
  (fun ⟨x9, _⟩ => Qb (Ql [(9, .int .i64)] [0, 1, 2] (fun (z_ : (Int × Unit)) c_ => Zes7 a mutator k_1 k z_.1 c_) (x9, ())
  (fun ⟨x9_1, _⟩ c => Qs [(10, .bool)] [0, 1, 2, 9] (fun z_ => Zes6 a mutator k_1 k x9_1 c z_.1)
  Qz
  (fun ⟨x10, _⟩ => Qs [] [0, 1, 2, 9] (fun z_ => Zes5 a mutator k_1 k x9_1 c x9_1)
  (Qc (x10) (Zes5 a mutator k_1 k x9_1 c x9_1) (Zes0 k 0 4) Qk Qx)
  (fun _ => Qs [] [0, 1, 2, 9] (fun z_ => c ((IntKind.wrap .i64 (x9_1 + 1)), ()))
  (Qb (Qs [(8, .int .i64)] [0, 1, 2, 9] (fun z_ => Zes5 a mutator k_1 k x9_1 c z_.1)
  Qz
  (fun ⟨m, _⟩ => Qs [(19, .bool)] [0, 1, 2, 8, 9] (fun z_ => Zes4 a mutator k_1 k x9_1 c m z_.1)
  Qz
  (fun ⟨x19, _⟩ => Qc (x19) (Zes3 a mutator k_1 k m) (c ((IntKind.wrap .i64 (x9_1 + 1)), ())) (Qs [] [0, 1, 2] (fun z_ => Zes2 a mutator k_1 k)
  Qz
  (fun _ => Qs [(6, .int .i64), (7, .int .i64)] [] (fun z_ => Zes1 k z_.1 z_.2.1)
  Qz
  (fun ⟨x6_1, x7_1, _⟩ => Qr))) Qk))))
  (fun _ => Qz)))))))
  (fun _ => Qs [(6, .int .i64), (7, .int .i64)] [] (fun z_ => Zes0 k z_.1 z_.2.1)
  Qz
  (fun ⟨x6, x7, _⟩ => Qr)))) hyp_
end
def oHead (c : List Int) (n : Nat) (a : Int) : Ob × Int :=
  if a < 0 ∨ a ≥ ((8 * n : Nat) : Int) ∨ (odec a (getI c a)).2 ≠ 0 ∨ oSize (odec a (getI c a)).1 > ((8 * n : Nat) : Int) - a then ((0, 0), 22) else ((odec a (getI c a)).1, 0)
section
variable {B : World} {P R : SL} {t : K}
theorem object_Head_c {d n : Nat} {c la : List Int} {a : Int} {k : Ob × Int → K} (hk : T B (R * LDev d n c la) (k (oHead c n a))) : T B (R * LDev d n c la) (c_object_Head (da d) a k) := by
  refine T_of (object_Head_ok _ a k) ?_
  unfold oHead at hk
  (repeat ((with_reducible refine T_al ?_; intro _)))
  rename_i b1
  by_cases h0 : a < 0
  · rw [if_pos (.inl h0)] at hk
    (repeat' (first | with_reducible refine T_brT ?_ | ((with_reducible apply T_ldI); (focus rfl); (focus exact hasA); (focus rfl)) | ((with_reducible apply T_st); (focus rfl); (focus exact updA); (focus simp); simp only [List.set, Nat.zero_add, Nat.reduceAdd]) | with_reducible refine T_brD (fun _ => ?_) (fun _ => ?_)))
    · refine T_drop1 .last ?_
      exact hk
    · exfalso; omega
  · (repeat' (first | with_reducible refine T_brT ?_ | ((with_reducible apply T_ldI); (focus rfl); (focus exact hasA); (focus rfl)) | ((with_reducible apply T_st); (focus rfl); (focus exact updA); (focus simp); simp only [List.set, Nat.zero_add, Nat.reduceAdd]) | with_reducible refine T_brD (fun _ => ?_) (fun _ => ?_)))
    · exfalso; omega
    refine T_bring (X := LDev d n c la) (.init .last) ?_
    refine LLen_c fun hl hn => ?_
    (repeat' (first | ((with_reducible apply T_ldI); (focus rfl); (focus exact hasA); (focus rfl)) | ((with_reducible apply T_st); (focus rfl); (focus exact updA); (focus simp); simp only [List.set, Nat.zero_add, Nat.reduceAdd]) | with_reducible refine T_brD (fun _ => ?_) (fun _ => ?_)))
    · rename_i h1
      rw [if_pos (.inr (.inl h1))] at hk
      refine T_drop1 (.init .last) ?_
      exact hk
    · rename_i h1
      refine LGet_c ?_
      refine ohead_Decode_c ?_
      generalize odec a (getI c a) = r at *
      (repeat' (first | with_reducible refine T_brT ?_ | ((with_reducible apply T_ldI); (focus rfl); (focus exact hasA); (focus rfl)) | (with_reducible refine T_al ?_; intro _) | ((with_reducible apply T_st); (focus rfl); (focus exact updA); (focus simp); simp only [List.set, Nat.zero_add, Nat.reduceAdd]) | with_reducible refine T_brNE (fun _ => ?_) (fun _ => ?_)))
      · rename_i h2
        rw [if_pos (.inr (.inr (.inl h2)))] at hk
        refine T_drop1 .last ?_
        refine T_drop1 (.init .last) ?_
        exact hk
      · rename_i b2 h2
        have h2' : r.2 = 0 := h2
        refine ohead_Size_c ?_
        refine T_bring (X := LDev d n c la) (.init .last) ?_
        refine LLen_c fun hl hn => ?_
        have e : IntKind.wrap .i64 (((8 * n : Nat) : Int) - a) = ((8 * n : Nat) : Int) - a := w64 (by omega) (by omega)
        (dsimp only [object_Head, Zei0, Zei1, Zei2, Zei3, Zei4, Zei5, Zei6, Zei7, Zei8, Zei9, Zei10])
        rw [e]
        (repeat' (first | ((with_reducible apply T_ldI); (focus rfl); (focus exact hasA); (focus rfl)) | ((with_reducible apply T_st); (focus rfl); (focus exact updA); (focus simp); simp only [List.set, Nat.zero_add, Nat.reduceAdd]) | with_reducible refine T_brD (fun _ => ?_) (fun _ => ?_)))
        · rename_i h3
          rw [if_pos (.inr (.inr (.inr h3)))] at hk
          refine T_drop1 (.init (.init .last)) ?_
          refine T_drop1 (.init .last) ?_
          exact hk
        · rename_i h3
          rw [if_neg (by rintro (h | h | h | h) <;> first | omega | exact h h2' | exact h3 h)] at hk
          refine T_drop1 (.init (.init .last)) ?_
          refine T_drop1 (.init .last) ?_
          exact hk
end
/-- noughts behind an address, up to one -/
def zerN (c : List Int) (a : Nat) : Nat → List Int
  | 0 => c
  | 1 => c
  | i + 2 => (zerN c a (i + 1)).set (a + (i + 1)) 0
theorem zerN_succ (c : List Int) (a : Nat) {i : Nat} (h : 1 ≤ i) : zerN c a (i + 1) = (zerN c a i).set (a + i) 0 := by
  obtain ⟨j, rfl⟩ : ∃ j, i = j + 1 := ⟨i - 1, by omega⟩
  rfl
theorem zerN_get (c : List Int) (a : Nat) : ∀ z i, (zerN c a z)[i]? = if a < i ∧ i < a + z ∧ i < c.length then some 0 else c[i]?
  | 0, i => by rw [if_neg (by omega)]; rfl
  | 1, i => by rw [if_neg (by omega)]; rfl
  | z + 2, i => by
    show ((zerN c a (z + 1)).set (a + (z + 1)) 0)[i]? = _
    have hl : ∀ y, (zerN c a y).length = c.length := by
      intro y
      induction y with
      | zero => rfl
      | succ y ih =>
        cases y with
        | zero => rfl
        | succ y => show ((zerN c a (y + 1)).set _ _).length = _; rw [List.length_set]; exact ih
    rw [List.getElem?_set, hl, zerN_get c a (z + 1) i]
    by_cases e : a + (z + 1) = i
    · rw [if_pos e]
      by_cases h : a + (z + 1) < c.length
      · rw [if_pos h, if_pos (by omega)]
      · rw [if_neg h, if_neg (by omega), List.getElem?_eq_none (by omega)]
    · rw [if_neg e]
      by_cases h : a < i ∧ i < a + (z + 1) ∧ i < c.length
      · rw [if_pos h, if_pos (by omega)]
      · rw [if_neg h, if_neg (by omega)]
section
variable {B : World} {P R : SL} {t : K}
theorem object_Init_c {d n a : Nat} {c la : List Int} {o : Ob} (ho : oSize o ≠ 0) (ha : (a : Int) + oSize o ≤ ((8 * n : Nat) : Int)) {k : Int → K}
    (hk : T B (R * LDev d n ((zerN c a (oSize o).toNat).set a (oenc a o)) la) (k 0)) : T B (R * LDev d n c la) (c_object_Init (da d) a o k) := by
  refine T_of (object_Init_ok _ a o k) ?_
  have hr := oSize_rng o
  (repeat (first | ((with_reducible apply T_ldI); (focus rfl); (focus exact hasA); (focus rfl)) | (with_reducible refine T_al ?_; intro _)))
  rename_i b
  refine ohead_Size_c ?_
  (repeat' (first | with_reducible refine T_brT ?_ | with_reducible refine T_brD (fun _ => ?_) (fun _ => ?_) | with_reducible refine T_brE (fun _ => ?_) (fun _ => ?_)))
  · rename_i h; exact absurd h ho
  · exfalso; omega
  refine T_bring (X := LDev d n c la) (.init .last) ?_
  refine LLen_c fun hl hn => ?_
  (repeat' (first | with_reducible refine T_brT ?_ | with_reducible refine T_brD (fun _ => ?_) (fun _ => ?_)))
  · rename_i h; exfalso; omega
  refine LLen_c fun hl hn => ?_
  have e : IntKind.wrap .i64 (((8 * n : Nat) : Int) - a) = ((8 * n : Nat) : Int) - a := w64 (by omega) (by omega)
  (dsimp only [object_Init, Zem0, Zem1, Zem2, Zem3, Zem4, Zem5, Zem6, Zem7, Zem8, Zem9, Zem10, Zem11, Zem12, Zem13, Zem14, Zem15])
  rw [e]
  obtain ⟨z, hz⟩ := Int.eq_ofNat_of_zero_le hr.1
  have hz' : oSize (o.1, o.2) = (z : Int) := hz
  rw [hz'] 
  rw [hz] at ha ho hk hr
  (repeat' (with_reducible refine T_brD (fun _ => ?_) (fun _ => ?_)))
  · rename_i h; exfalso; omega
  refine T_lpX (fun _ s => R * pt b (.cells [.int .i64 o.1, .int .i64 o.2].toArray 68) * LDev d n (zerN c a s.1.toNat) la) (fun m (s : Int × Unit) => ∃ i : Nat, 1 ≤ i ∧ i ≤ z ∧ s.1 = i ∧ m = z - i) (z - 1) rfl ⟨1, by omega, by omega, rfl, rfl⟩ ?_
  rintro m ⟨s1, u⟩ cc ⟨i, h1, h2, h3, h4⟩ hc
  simp only at h3
  subst h3 h4
  simp only [Int.toNat_natCast]
  (repeat' (first | ((with_reducible apply T_ldI); (focus rfl); (focus exact hasA); (focus rfl)) | with_reducible refine T_brD (fun _ => ?_) (fun _ => ?_)))
  · rename_i hlt
    have e1 : IntKind.wrap .i64 ((a : Int) + i) = ((a + i : Nat) : Int) := by rw [w64 (by omega) (by omega)]; omega
    rw [e1]
    refine LStore_c (by omega) (by omega) ?_
    (repeat' (with_reducible refine T_brNE (fun _ => ?_) (fun _ => ?_)))
    · rename_i hx; exact absurd rfl hx
    have := hc (z - (i + 1)) (IntKind.wrap .i64 ((i : Int) + 1), ()) (by omega) ⟨i + 1, by omega, by omega, w64 (by omega) (by omega), rfl⟩
    have e2 : (IntKind.wrap .i64 ((i : Int) + 1)).toNat = i + 1 := by rw [w64 (by omega) (by omega)]; omega
    simp only [e2] at this
    rw [zerN_succ c a h1] at this
    rw [Int.toNat_natCast]
    exact this
  · rename_i hge
    have : i = z := by omega
    subst this
    refine ohead_Encode_c ?_
    refine LStore_c (by omega) (by omega) ?_
    rw [Int.toNat_natCast]
    rw [Int.toNat_natCast] at hk
    refine T_drop1 (.init .last) ?_
    exact hk
end
/-- keys that are told apart -/
structure KeyD {α : Type} [DecidableEq α] (Pg : Program) (mt kt et : TypeId) (ek : α → Value) : Prop where
  und : Pg.underlying mt = some (.map kt et)
  eq : ∀ a b, keyEq Pg kt (ek a) (ek b) = some (decide (a = b))
  fine : ∀ a, keyFine Pg kt (ek a) = true
  inj : ∀ a b, ek a = ek b → a = b
  same : ∀ a, Instr.sameBits 10000 (ek a) (ek a) = true
def kv (es : List MapEntry) : List (Value × Value) := es.map fun e => (e.key, e.val)
section
variable {α β : Type} [DecidableEq α] {Pg : Program} {mt kt et : TypeId} {ek : α → Value} {ev : β → Value}
def encs (ek : α → Value) (ev : β → Value) (l : List (α × β)) : List (Value × Value) := l.map fun p => (ek p.1, ev p.2)
def lkup (l : List (α × β)) (key : α) : Option β := (l.find? fun p => decide (key = p.1)).map (·.2)
theorem mfind_eq (hD : KeyD Pg mt kt et ek) {key : α} : ∀ (es : List MapEntry) (l : List (α × β)) (i : Nat), kv es = encs ek ev l →
    ∃ f, mfind Pg kt (ek key) es i = some f ∧ f.map (·.2) = (lkup l key).map ev ∧
      (f = none → l.findIdx? (fun p => decide (key = p.1)) = none) ∧ (∀ j v, f = some (j, v) → ∃ n, j = i + n ∧ l.findIdx? (fun p => decide (key = p.1)) = some n) := by
  intro es
  induction es with
  | nil =>
    intro l i h
    have : l = [] := by cases l <;> simp_all [kv, encs]
    subst this
    exact ⟨none, rfl, rfl, fun _ => rfl, fun j v h => by cases h⟩
  | cons e es ih =>
    intro l i h
    cases l with
    | nil => simp [kv, encs] at h
    | cons p l =>
      simp only [kv, encs, List.map_cons, List.cons.injEq, Prod.mk.injEq] at h
      obtain ⟨⟨hk, hv⟩, h⟩ := h
      have he := hD.eq key p.1
      simp only [mfind, hk, he]
      by_cases hkp : key = p.1
      · rw [decide_eq_true hkp]
        refine ⟨_, rfl, by simp [lkup, hkp, hv], fun h => by simp at h, fun j v hj => ?_⟩
        simp only [Option.some.injEq, Prod.mk.injEq] at hj
        exact ⟨0, by omega, by simp [List.findIdx?_cons, hkp]⟩
      · rw [decide_eq_false hkp]
        obtain ⟨f, h1, h2, h3, h4⟩ := ih l (i + 1) h
        refine ⟨f, h1, by rw [h2]; simp [lkup, hkp], fun hf => by simp [List.findIdx?_cons, hkp]; simpa using h3 hf, fun j v hj => ?_⟩
        obtain ⟨n, g1, g2⟩ := h4 j v hj
        exact ⟨n + 1, by omega, by simp [List.findIdx?_cons, hkp, g2]⟩
structure MpOk (ek : α → Value) (ev : β → Value) (es : Array MapEntry) (c : Nat) (l : List (α × β)) : Prop where
  kv : kv es.toList = encs ek ev l
  nod : (es.toList.map (·.born)).Nodup
  old : ∀ e ∈ es.toList, e.born < c
  keys : (l.map (·.1)).Nodup
def Mp (ek : α → Value) (ev : β → Value) (r : Nat) (l : List (α × β)) : SL := ex fun x : Array MapEntry × Nat => pt r (.map x.1 x.2) * pu (MpOk ek ev x.1 x.2 l)
variable {B : World} {P R : SL} {t : K}
theorem Mp_close {r : Nat} {l : List (α × β)} {es : Array MapEntry} {c : Nat} (ok : MpOk ek ev es c l) (h : T B (R * Mp ek ev r l) t) : T B (R * pt r (.map es c)) t := by
  refine T_puI ok ?_
  rw [sep_assoc]
  exact T_exI (X := fun x : Array MapEntry × Nat => pt r (.map x.1 x.2) * pu (MpOk ek ev x.1 x.2 l)) (es, c) h
end
section
variable {B : World} {P R : SL} {t : K} {Pg : Program}
theorem setObj_sat {w : World} {r : Nat} {es : Array MapEntry} {c : Nat} (o' : Obj) (s : Sat B (R * pt r (.map es c)) w) : ∃ w', (setObj r o').run Pg w = .ok () w' ∧ Sat B (R * pt r o') w' := by
  have hr := (s.has (b := r) (o := .map es c) Has.last).1
  have hlt : r < w.heap.size := (Array.getElem?_eq_some_iff.1 hr).1
  refine ⟨{ w with heap := w.heap.setIfInBounds r o' }, by simp [setObj, Sem.run, hr], ?_⟩
  refine s.upd Upd.last ?_ ?_ rfl rfl rfl (by simp)
  · simp [hlt]
  · intro x hx; simp [Ne.symm hx]
theorem getObj_sat {w : World} {r : Nat} {es : Array MapEntry} {c : Nat} (s : Sat B P w) (h : Has P r (.map es c)) : (getObj r).run Pg w = .ok (.map es c) w := by
  simp [getObj, Sem.run, (s.has h).1]
variable {α β : Type} [DecidableEq α] {mt kt et : TypeId} {ek : α → Value} {ev : β → Value}
theorem kv_len {es : List MapEntry} {l : List (α × β)} (h : kv es = encs ek ev l) : es.length = l.length := by
  have := congrArg List.length h
  simpa [kv, encs] using this
theorem kv_at {es : List MapEntry} {l : List (α × β)} (h : kv es = encs ek ev l) {i : Nat} {e : MapEntry} {p : α × β} (h1 : es[i]? = some e) (h2 : l[i]? = some p) : e.key = ek p.1 ∧ e.val = ev p.2 := by
  have := congrArg (fun x => x[i]?) h
  simp only [kv, encs, List.getElem?_map, h1, h2, Option.map_some, Option.some.injEq, Prod.mk.injEq] at this
  exact this
/-- what a map has when an entry is asked for -/
def entL (l : List (α × β)) (k : α) (z : β) : List (α × β) := match l.findIdx? (fun p => decide (k = p.1)) with | some _ => l | none => l ++ [(k, z)]
def entI (l : List (α × β)) (k : α) : Nat := match l.findIdx? (fun p => decide (k = p.1)) with | some i => i | none => l.length
theorem T_mapEntry (hD : KeyD Pg mt kt et ek) (hsame : ∀ a, Instr.sameBits 10000 (ek a) (ek a) = true) {z : β} (hz : zeroP Pg et = some (ev z)) {r : Nat} {l : List (α × β)} {key : α} {es : Array MapEntry} {c : Nat} (ok : MpOk ek ev es c l) {sh : Sh} {k : sh.T × Int → K} (x : sh.T)
    (hx : ev ((lkup l key).getD z) = sh.enc x)
    (ht : ∀ (stamp : Nat) es' c' e, MpOk ek ev es' c' (entL l key z) → es'[entI l key]? = some e → e.born = stamp → T B (R * pt r (.map es' c')) (k (x, (stamp : Int)))) :
    T B (R * pt r (.map es c)) (semT Pg (Instr.mapEntry mt (.map (some r)) (ek key)) (.tup [.sc sh, .sc (.int .i64)]) k) := by
  intro w s
  have hg := getObj_sat (Pg := Pg) s Has.last
  obtain ⟨f, h1, h2, h3, h4⟩ := mfind_eq hD (key := key) es.toList l 0 ok.kv
  obtain ⟨dk, hdk⟩ : ∃ d, Pg.underlying kt = some d := by
    cases hu : Pg.underlying kt with
    | none => have := hD.fine key; unfold keyFine at this; rw [hu] at this; simp at this
    | some d => exact ⟨d, rfl⟩
  have hl := kv_len ok.kv
  unfold semT
  cases f with
  | none =>
    obtain ⟨w', r1, r2⟩ := setObj_sat (Pg := Pg) (.map (es.push { key := ek key, val := ev z, born := c }) (c + 1)) s
    have hrun : (Instr.mapEntry mt (.map (some r)) (ek key)).run Pg w = .ok (.tuple #[ev z, goInt c]) w' := by
      simp only [Instr.mapEntry, Sem.run_bind, r_und hD.und, Result.andThen_ok, hg, keyFine_run (hD.fine key), mfind_run hdk h1, r_zero hz, r1]
      rfl
    rw [hrun]
    have hn := h3 rfl
    have hlk : lkup l key = none := by
      cases hq : lkup l key with
      | none => rfl
      | some b => rw [hq] at h2; simp at h2
    rw [hlk] at hx
    refine ⟨(x, (c : Int)), by rw [show ev z = sh.enc x from hx]; rfl, ?_⟩
    refine ht c _ (c + 1) { key := ek key, val := ev z, born := c } ?_ ?_ rfl w' r2
    · unfold entL; rw [hn]
      have hnk : ∀ p ∈ l, key ≠ p.1 := by
        intro p hp
        have := List.findIdx?_eq_none_iff.1 hn p hp
        simpa using this
      refine ⟨?_, ?_, fun e he => ?_, ?_⟩
      · have := ok.kv
        simp only [kv, encs, Array.toList_push, List.map_append, List.map_cons, List.map_nil] at this ⊢
        rw [this]
      · simp only [Array.toList_push, List.map_append, List.map_cons, List.map_nil]
        rw [List.nodup_append]
        refine ⟨ok.nod, by simp, fun a ha b hb => ?_⟩
        simp only [List.mem_singleton] at hb
        obtain ⟨e, he, rfl⟩ := List.mem_map.1 ha
        have := ok.old e he
        omega
      · simp only [Array.toList_push, List.mem_append, List.mem_singleton] at he
        rcases he with he | rfl
        · have := ok.old e he; omega
        · simp
      · simp only [List.map_append, List.map_cons, List.map_nil]
        rw [List.nodup_append]
        refine ⟨ok.keys, by simp, fun a ha b hb => ?_⟩
        simp only [List.mem_singleton] at hb
        obtain ⟨p, hp, rfl⟩ := List.mem_map.1 ha
        rw [hb]; exact (hnk p hp).symm
    · unfold entI; rw [hn]
      have : es.size = l.length := by simpa using hl
      simp only [← this, Array.getElem?_push_size]
  | some q =>
    obtain ⟨j, v⟩ := q
    obtain ⟨n, hj, hn⟩ := h4 j v rfl
    have hjn : j = n := by omega
    subst hjn
    obtain ⟨hlt, hpk, _⟩ := List.findIdx?_eq_some_iff_getElem.1 hn
    have hpk' : key = l[j].1 := by simpa using hpk
    have hlt' : j < es.size := by
      have : es.size = l.length := by simpa using hl
      omega
    obtain ⟨hk1, hv1⟩ := kv_at ok.kv (i := j) (e := es[j]) (p := l[j]) (by simp [hlt']) (by simp [hlt])
    have hke : es[j].key = ek key := by rw [hk1, hpk']
    obtain ⟨b, hb, hbv⟩ : ∃ b, lkup l key = some b ∧ ev b = v := by
      cases hq : lkup l key with
      | none => rw [hq] at h2; simp at h2
      | some b => rw [hq] at h2; simp at h2; exact ⟨b, rfl, h2.symm⟩
    rw [hb] at hx
    obtain ⟨w', r1, r2⟩ := setObj_sat (Pg := Pg) (.map (es.modify j fun e => { e with key := ek key }) c) s
    have hstay : ∀ w, (Instr.keyThatStays (ek key) (ek key)).run Pg w = .ok (ek key) w := by
      intro w; unfold Instr.keyThatStays; rw [if_pos (hsame key)]; rfl
    have hrun : (Instr.mapEntry mt (.map (some r)) (ek key)).run Pg w = .ok (.tuple #[v, goInt es[j].born]) w' := by
      simp only [Instr.mapEntry, Sem.run_bind, r_und hD.und, Result.andThen_ok, hg, keyFine_run (hD.fine key), mfind_run hdk h1, Array.getElem?_eq_getElem hlt', Option.map_some, Option.getD_some, hke, hstay, r1]
      rfl
    rw [hrun]
    have hmod : es.modify j (fun e => { e with key := ek key }) = es := by
      apply Array.ext (by simp)
      intro i h1 h2
      rw [Array.getElem_modify]
      split
      · rename_i e; subst e
        generalize es[j] = y at hke
        obtain ⟨a1, a2, a3⟩ := y
        simp only at hke ⊢
        rw [hke]
      · rfl
    rw [hmod] at r2
    refine ⟨(x, (es[j].born : Int)), by rw [← hbv, show ev b = sh.enc x from hx]; rfl, ?_⟩
    refine ht es[j].born es c es[j] ?_ ?_ rfl w' r2
    · unfold entL; rw [hn]; exact ok
    · unfold entI; rw [hn]; simp [hlt']
theorem born_idx {es : Array MapEntry} (hn : (es.toList.map (·.born)).Nodup) {i : Nat} {e : MapEntry} (he : es[i]? = some e) : es.findIdx? (fun x => (x.born : Int) == (e.born : Int)) = some i := by
  obtain ⟨hlt, hei⟩ := Array.getElem?_eq_some_iff.1 he
  rw [Array.findIdx?_eq_some_iff_getElem]
  refine ⟨hlt, by simp [hei], fun j hj => ?_⟩
  simp only [beq_iff_eq, Int.natCast_inj, Bool.not_eq_true', beq_eq_false_iff_ne, ne_eq]
  intro hh
  have := (List.pairwise_iff_getElem.1 hn) j i (by simp; omega) (by simpa using hlt) hj
  apply this
  simp [hei, hh]
theorem T_entryStore {r : Nat} {l : List (α × β)} {es : Array MapEntry} {c i : Nat} {e : MapEntry} {key : α} {v0 v : β} (ok : MpOk ek ev es c l) (he : es[i]? = some e) (hi : l[i]? = some (key, v0)) {vv : Value} (hv : vv = ev v)
    (ht : T B (R * Mp ek ev r (l.set i (key, v))) t) : T B (R * pt r (.map es c)) (semU Pg (Instr.entryStore mt (.map (some r)) (.int .i64 (e.born : Int)) vv) t) := by
  subst hv
  intro w s
  have hg := getObj_sat (Pg := Pg) s Has.last
  have hb := born_idx ok.nod he
  obtain ⟨w', r1, r2⟩ := setObj_sat (Pg := Pg) (.map (es.modify i fun e => { e with val := ev v }) c) s
  have hrun : (Instr.entryStore mt (.map (some r)) (.int .i64 (e.born : Int)) (ev v)).run Pg w = .ok () w' := by
    simp only [Instr.entryStore, Sem.run_bind, hg, Result.andThen_ok, asInt, asIntOf]
    simp only [Sem.run_pure, Result.andThen_ok, hb, r1]
  unfold semU
  rw [hrun]
  refine Mp_close ?_ ht w' r2
  obtain ⟨hlt, hei⟩ := Array.getElem?_eq_some_iff.1 he
  obtain ⟨hll, hli⟩ := List.getElem?_eq_some_iff.1 hi
  have htl : (es.modify i fun e => { e with val := ev v }).toList = es.toList.set i { e with val := ev v } := by
    apply List.ext_getElem?
    intro j
    rw [Array.getElem?_toList, Array.getElem?_modify, List.getElem?_set, Array.getElem?_toList]
    by_cases hj : i = j
    · subst hj; simp [hlt, hei]
    · simp [hj]
  have hkey := (kv_at ok.kv (i := i) (e := e) (p := (key, v0)) (by simpa using he) hi).1
  refine ⟨?_, ?_, fun x hx => ?_, ?_⟩
  · rw [htl]
    have := ok.kv
    unfold kv encs at this ⊢
    rw [List.map_set, List.map_set, this]
    simp only [hkey]
  · rw [htl, List.map_set]
    have : (es.toList.map (·.born)).set i e.born = es.toList.map (·.born) := by
      apply List.ext_getElem?
      intro j
      rw [List.getElem?_set]
      by_cases hj : i = j
      · subst hj; simp [hlt, hei]
      · simp [hj]
    simp only [this]; exact ok.nod
  · rw [htl] at hx
    rcases List.mem_or_eq_of_mem_set hx with h | h
    · exact ok.old x h
    · subst h; exact ok.old e (by rw [← hei]; simp)
  · rw [List.map_set]
    have : (l.map (·.1)).set i key = l.map (·.1) := by
      apply List.ext_getElem?
      intro j
      rw [List.getElem?_set]
      by_cases hj : i = j
      · subst hj; simp [hll, hli]
      · simp [hj]
    rw [this]; exact ok.keys
end
section
variable {α β : Type} [DecidableEq α]
theorem map_erase {γ δ : Type} (g : γ → δ) : ∀ (l : List γ) (i : Nat), (l.eraseIdx i).map g = (l.map g).eraseIdx i := by
  intro l
  induction l with
  | nil => intro i; rfl
  | cons x l ih =>
    intro i
    cases i with
    | zero => rfl
    | succ i => simp only [List.eraseIdx_cons_succ, List.map_cons, ih]
theorem lkup_nil (x : α) : lkup ([] : List (α × β)) x = none := rfl
theorem lkup_cons (p : α × β) (l : List (α × β)) (x : α) : lkup (p :: l) x = if x = p.1 then some p.2 else lkup l x := by
  unfold lkup
  rw [List.find?_cons]
  by_cases h : x = p.1
  · rw [decide_eq_true h, if_pos h]; rfl
  · rw [decide_eq_false h, if_neg h]
theorem lkup_none {l : List (α × β)} {x : α} (h : x ∉ l.map (·.1)) : lkup l x = none := by
  induction l with
  | nil => rfl
  | cons p l ih =>
    simp only [List.map_cons, List.mem_cons, not_or] at h
    rw [lkup_cons, if_neg h.1]; exact ih h.2
theorem lkup_mem {l : List (α × β)} (hn : (l.map (·.1)).Nodup) {x : α} {v : β} : lkup l x = some v ↔ (x, v) ∈ l := by
  induction l with
  | nil => simp [lkup_nil]
  | cons p l ih =>
    simp only [List.map_cons, List.nodup_cons] at hn
    rw [lkup_cons, List.mem_cons]
    by_cases h : x = p.1
    · rw [if_pos h]
      constructor
      · intro e
        simp only [Option.some.injEq] at e
        left; rw [h, ← e]
      · rintro (e | e)
        · rw [← e]
        · exact absurd (List.mem_map.2 ⟨_, e, h⟩) hn.1
    · rw [if_neg h, ih hn.2]
      constructor
      · exact .inr
      · rintro (e | e)
        · rw [← e] at h; exact absurd rfl h
        · exact e
/-- a list with a pair put -/
def putL (l : List (α × β)) (k : α) (v : β) : List (α × β) := match l.findIdx? (fun p => decide (k = p.1)) with | some i => l.set i (k, v) | none => l ++ [(k, v)]
def updF (f : α → Option β) (k : α) (v : β) : α → Option β := fun x => if x = k then some v else f x
def delF (f : α → Option β) (k : α) : α → Option β := fun x => if x = k then none else f x
theorem lkup_set {k x : α} {v : β} : ∀ {l : List (α × β)} {i : Nat}, l.findIdx? (fun p => decide (k = p.1)) = some i → lkup (l.set i (k, v)) x = if x = k then some v else lkup l x := by
  intro l
  induction l with
  | nil => intro i h; simp at h
  | cons p l ih =>
    intro i h
    rw [List.findIdx?_cons] at h
    by_cases hk : k = p.1
    · rw [decide_eq_true hk] at h
      simp only [if_true, Option.some.injEq] at h
      subst h
      rw [List.set_cons_zero, lkup_cons, lkup_cons]
      by_cases hx : x = k
      · simp [hx]
      · rw [if_neg hx, if_neg hx, if_neg (hk ▸ hx)]
    · rw [decide_eq_false hk] at h
      simp only [Bool.false_eq_true, if_false, Option.map_eq_some_iff] at h
      obtain ⟨j, hj, rfl⟩ := h
      rw [List.set_cons_succ, lkup_cons, lkup_cons, ih hj]
      by_cases hx : x = p.1
      · rw [if_pos hx, if_pos hx, if_neg (fun (e : x = k) => hk (e ▸ hx))]
      · rw [if_neg hx, if_neg hx]
theorem lkup_erase {k x : α} : ∀ {l : List (α × β)} {i : Nat}, (l.map (·.1)).Nodup → l.findIdx? (fun p => decide (k = p.1)) = some i → lkup (l.eraseIdx i) x = if x = k then none else lkup l x := by
  intro l
  induction l with
  | nil => intro i _ h; simp at h
  | cons p l ih =>
    intro i hn h
    simp only [List.map_cons, List.nodup_cons] at hn
    rw [List.findIdx?_cons] at h
    by_cases hk : k = p.1
    · rw [decide_eq_true hk] at h
      simp only [if_true, Option.some.injEq] at h
      subst h
      rw [List.eraseIdx_cons_zero, lkup_cons]
      by_cases hx : x = k
      · rw [if_pos hx]; exact lkup_none (by rw [hx, hk]; exact hn.1)
      · rw [if_neg hx, if_neg (hk ▸ hx)]
    · rw [decide_eq_false hk] at h
      simp only [Bool.false_eq_true, if_false, Option.map_eq_some_iff] at h
      obtain ⟨j, hj, rfl⟩ := h
      rw [List.eraseIdx_cons_succ, lkup_cons, lkup_cons, ih hn.2 hj]
      by_cases hx : x = p.1
      · rw [if_pos hx, if_pos hx, if_neg (fun (e : x = k) => hk (e ▸ hx))]
      · rw [if_neg hx, if_neg hx]
theorem findIdx_none {k : α} {l : List (α × β)} (h : l.findIdx? (fun p => decide (k = p.1)) = none) : k ∉ l.map (·.1) := by
  intro hm
  obtain ⟨p, hp, e⟩ := List.mem_map.1 hm
  have := List.findIdx?_eq_none_iff.1 h p hp
  simp [e] at this
theorem lkup_snoc {k x : α} {v : β} {l : List (α × β)} (h : k ∉ l.map (·.1)) : lkup (l ++ [(k, v)]) x = if x = k then some v else lkup l x := by
  induction l with
  | nil => show lkup [(k, v)] x = _; rw [lkup_cons]
  | cons p l ih =>
    simp only [List.map_cons, List.mem_cons, not_or] at h
    rw [List.cons_append, lkup_cons, lkup_cons, ih h.2]
    by_cases hx : x = p.1
    · rw [if_pos hx, if_pos hx, if_neg (fun (e : x = k) => h.1 (e ▸ hx))]
    · rw [if_neg hx, if_neg hx]
theorem lkup_put (l : List (α × β)) (k : α) (v : β) (x : α) : lkup (putL l k v) x = if x = k then some v else lkup l x := by
  unfold putL
  cases h : l.findIdx? (fun p => decide (k = p.1)) with
  | some i => exact lkup_set h
  | none => exact lkup_snoc (findIdx_none h)
theorem entL_put (l : List (α × β)) (k : α) (z v : β) : (entL l k z)[entI l k]? = some (k, (lkup l k).getD z) ∧ (entL l k z).set (entI l k) (k, v) = putL l k v := by
  unfold entL entI putL
  cases h : l.findIdx? (fun p => decide (k = p.1)) with
  | none =>
    rw [lkup_none (findIdx_none h)]
    simp
  | some i =>
    refine ⟨?_, rfl⟩
    obtain ⟨hlt, hpk, _⟩ := List.findIdx?_eq_some_iff_getElem.1 h
    have hpk' : k = l[i].1 := by simpa using hpk
    have := lkup_set (x := k) (v := l[i].2) h
    rw [if_pos rfl] at this
    have e : l.set i (k, l[i].2) = l := by
      apply List.ext_getElem?
      intro j
      rw [List.getElem?_set]
      by_cases hj : i = j
      · subst hj; simp [hlt, hpk']
      · simp [hj]
    rw [e] at this
    rw [this, List.getElem?_eq_getElem hlt, hpk']; rfl
end
section
variable {B : World} {P Q R : SL} {t : K} {Pg : Program} {α β : Type} [DecidableEq α] {mt kt et : TypeId} {ek : α → Value} {ev : β → Value}
def FOk (ek : α → Value) (ev : β → Value) (es : Array MapEntry) (c : Nat) (f : α → Option β) : Prop := ∃ l, MpOk ek ev es c l ∧ ∀ k, lkup l k = f k
def MpF (ek : α → Value) (ev : β → Value) (r : Nat) (f : α → Option β) : SL := ex fun x : Array MapEntry × Nat => pt r (.map x.1 x.2) * pu (FOk ek ev x.1 x.2 f)
theorem MpF_open {r : Nat} {f : α → Option β} (h : ∀ es c, FOk ek ev es c f → T B (R * pt r (.map es c)) t) : T B (R * MpF ek ev r f) t := by
  refine T_ex fun x => ?_
  rw [← sep_assoc]
  exact T_pu fun ok => h x.1 x.2 ok
theorem MpF_close {r : Nat} {f : α → Option β} {es : Array MapEntry} {c : Nat} (ok : FOk ek ev es c f) (h : T B (R * MpF ek ev r f) t) : T B (R * pt r (.map es c)) t := by
  refine T_puI ok ?_
  rw [sep_assoc]
  exact T_exI (X := fun x : Array MapEntry × Nat => pt r (.map x.1 x.2) * pu (FOk ek ev x.1 x.2 f)) (es, c) h
/-- wherever the assertion holds, there is such a map -/
def MHas (ek : α → Value) (ev : β → Value) (P : SL) (r : Nat) (f : α → Option β) : Prop := ∀ B w, Sat B P w → ∃ es c, FOk ek ev es c f ∧ w.heap[r]? = some (.map es c)
theorem MHas.init {r : Nat} {f : α → Option β} (h : MHas ek ev P r f) : MHas ek ev (P * Q) r f := fun B w s => h B w s.left
theorem MHas.tail {r : Nat} {f : α → Option β} (h : MHas ek ev Q r f) : MHas ek ev (P * Q) r f := fun B w s => h B w s.right
theorem MHas.of {r : Nat} {f : α → Option β} (h : Frm P (MpF ek ev r f) R) : MHas ek ev P r f := by
  intro B w s
  unfold Frm at h; subst h
  have : T B (R * MpF ek ev r f) (fun w => ∃ es c, FOk ek ev es c f ∧ w.heap[r]? = some (.map es c)) := MpF_open fun es c ok w s => ⟨es, c, ok, (s.has Has.last).1⟩
  exact this w s
theorem MHas.pt {r : Nat} {f : α → Option β} {es : Array MapEntry} {c : Nat} (ok : FOk ek ev es c f) (h : Has P r (.map es c)) : MHas ek ev P r f := fun B w s => ⟨es, c, ok, (s.has h).1⟩
theorem T_lkF (hD : KeyD Pg mt kt et ek) {r : Nat} {f : α → Option β} (h : MHas ek ev P r f) {key : α} {z : Value} {e : ESh} {k : Nat → Obj → e.T → Bool → K} (x : e.T)
    (hx : ((f key).map ev).getD z = e.enc x) (ht : ∀ ob, T B P (k r ob x (f key).isSome)) : T B P (lkE Pg kt z e (some r) (ek key) k) := by
  intro w s
  obtain ⟨es, c, ⟨l, ok, hl⟩, hh⟩ := h B w s
  obtain ⟨g, h1, h2, _, _⟩ := mfind_eq (ev := ev) hD (key := key) es.toList l 0 ok.kv
  rw [hl] at h2
  refine ⟨r, es, c, g, rfl, hh, h1, x, ?_, ?_⟩
  · rw [← hx, ← h2]
    cases g with
    | none => rfl
    | some q => rfl
  · have : g.isSome = (f key).isSome := by
      have := congrArg Option.isSome h2
      simpa using this
    rw [this]; exact ht _ w s
theorem T_putF (hD : KeyD Pg mt kt et ek) {z : β} (hz : zeroP Pg et = some (ev z)) {r : Nat} {f : α → Option β} {key : α} {v : β} {sh : Sh} {vv : Value} (x : sh.T)
    (hx : ev ((f key).getD z) = sh.enc x) (hv : vv = ev v) (ht : T B (R * MpF ek ev r (updF f key v)) t) :
    T B (R * MpF ek ev r f) (semT Pg (Instr.mapEntry mt (.map (some r)) (ek key)) (.tup [.sc sh, .sc (.int .i64)]) fun e => semU Pg (Instr.entryStore mt (.map (some r)) (.int .i64 e.2) vv) t) := by
  refine MpF_open fun es c ok => ?_
  obtain ⟨l, ok, hl⟩ := ok
  refine T_mapEntry hD hD.same hz ok x (by rw [hl]; exact hx) fun stamp es' c' e ok' he hb => ?_
  obtain ⟨p1, p2⟩ := entL_put l key z v
  subst hb
  refine T_entryStore (mt := mt) ok' he p1 hv ?_
  rw [p2]
  refine T_ex fun y => ?_
  rw [← sep_assoc]
  refine T_pu fun ok2 => ?_
  refine MpF_close ⟨_, ok2, fun k => ?_⟩ ht
  rw [lkup_put, hl]; rfl
theorem T_updM (hD : KeyD Pg mt kt et ek) {r : Nat} {f : α → Option β} {key : α} {v : β} {vv kk : Value} (hv : vv = ev v) (hkk : kk = ek key) (ht : T B (R * MpF ek ev r (updF f key v)) t) :
    T B (R * MpF ek ev r f) (semU Pg (Instr.mapUpdate mt (.map (some r)) kk vv) t) := by
  subst hv hkk
  refine MpF_open fun es c ok => ?_
  obtain ⟨l, ok, hl⟩ := ok
  intro w s
  have hg := getObj_sat (Pg := Pg) s Has.last
  obtain ⟨g, h1, h2, h3, h4⟩ := mfind_eq hD (key := key) es.toList l 0 ok.kv
  obtain ⟨dk, hdk⟩ : ∃ d, Pg.underlying kt = some d := by
    cases hu : Pg.underlying kt with
    | none => have := hD.fine key; unfold keyFine at this; rw [hu] at this; simp at this
    | some d => exact ⟨d, rfl⟩
  have hll := kv_len ok.kv
  have fin : ∀ k, lkup (putL l key v) k = updF f key v k := fun k => by rw [lkup_put, hl]; rfl
  unfold semU
  cases g with
  | none =>
    obtain ⟨w', r1, r2⟩ := setObj_sat (Pg := Pg) (.map (es.push { key := ek key, val := ev v, born := c }) (c + 1)) s
    have hrun : (Instr.mapUpdate mt (.map (some r)) (ek key) (ev v)).run Pg w = .ok () w' := by
      simp only [Instr.mapUpdate, Sem.run_bind, r_und hD.und, Result.andThen_ok, hg, keyFine_run (hD.fine key), mfind_run hdk h1, r1]
    rw [hrun]
    have hn := h3 rfl
    have hnk := findIdx_none hn
    refine MpF_close ⟨putL l key v, ?_, fin⟩ ht w' r2
    unfold putL; rw [hn]
    refine ⟨?_, ?_, fun e he => ?_, ?_⟩
    · have := ok.kv
      simp only [kv, encs, Array.toList_push, List.map_append, List.map_cons, List.map_nil] at this ⊢
      rw [this]
    · simp only [Array.toList_push, List.map_append, List.map_cons, List.map_nil]
      rw [List.nodup_append]
      refine ⟨ok.nod, by simp, fun a ha b hb => ?_⟩
      simp only [List.mem_singleton] at hb
      obtain ⟨e, he, rfl⟩ := List.mem_map.1 ha
      have := ok.old e he
      omega
    · simp only [Array.toList_push, List.mem_append, List.mem_singleton] at he
      rcases he with he | rfl
      · have := ok.old e he; omega
      · simp
    · simp only [List.map_append, List.map_cons, List.map_nil]
      rw [List.nodup_append]
      refine ⟨ok.keys, by simp, fun a ha b hb => ?_⟩
      simp only [List.mem_singleton] at hb
      rw [hb]; intro e; exact hnk (e ▸ ha)
  | some q =>
    obtain ⟨j, v0⟩ := q
    obtain ⟨n, hj, hn⟩ := h4 j v0 rfl
    have hjn : j = n := by omega
    subst hjn
    obtain ⟨hlt, hpk, _⟩ := List.findIdx?_eq_some_iff_getElem.1 hn
    have hpk' : key = l[j].1 := by simpa using hpk
    have hlt' : j < es.size := by
      have : es.size = l.length := by simpa using hll
      omega
    obtain ⟨hk1, hv1⟩ := kv_at ok.kv (i := j) (e := es[j]) (p := l[j]) (by simp [hlt']) (by simp [hlt])
    have hke : es[j].key = ek key := by rw [hk1, hpk']
    obtain ⟨w', r1, r2⟩ := setObj_sat (Pg := Pg) (.map (es.modify j fun e => { e with key := ek key, val := ev v }) c) s
    have hstay : ∀ w, (Instr.keyThatStays (ek key) (ek key)).run Pg w = .ok (ek key) w := by
      intro w; unfold Instr.keyThatStays; rw [if_pos (hD.same key)]; rfl
    have hrun : (Instr.mapUpdate mt (.map (some r)) (ek key) (ev v)).run Pg w = .ok () w' := by
      simp only [Instr.mapUpdate, Sem.run_bind, r_und hD.und, Result.andThen_ok, hg, keyFine_run (hD.fine key), mfind_run hdk h1, Array.getElem?_eq_getElem hlt', Option.map_some, Option.getD_some, hke, hstay, r1]
    rw [hrun]
    refine MpF_close ⟨putL l key v, ?_, fin⟩ ht w' r2
    unfold putL; rw [hn]
    have htl : (es.modify j fun e => { e with key := ek key, val := ev v }).toList = es.toList.set j { es[j] with key := ek key, val := ev v } := by
      apply List.ext_getElem?
      intro i
      rw [Array.getElem?_toList, Array.getElem?_modify, List.getElem?_set, Array.getElem?_toList]
      by_cases hi : j = i
      · subst hi; simp [hlt']
      · simp [hi]
    refine ⟨?_, ?_, fun x hx => ?_, ?_⟩
    · simp only [htl]
      have := ok.kv
      unfold kv encs at this ⊢
      rw [List.map_set, List.map_set, this]
    · rw [htl, List.map_set]
      have : (es.toList.map (·.born)).set j es[j].born = es.toList.map (·.born) := by
        apply List.ext_getElem?
        intro i
        rw [List.getElem?_set]
        by_cases hi : j = i
        · subst hi; simp [hlt']
        · simp [hi]
      simp only [this]; exact ok.nod
    · rw [htl] at hx
      rcases List.mem_or_eq_of_mem_set hx with h | h
      · exact ok.old x h
      · subst h; exact ok.old es[j] (by simp)
    · rw [List.map_set]
      have : (l.map (·.1)).set j key = l.map (·.1) := by
        apply List.ext_getElem?
        intro i
        rw [List.getElem?_set]
        by_cases hi : j = i
        · subst hi; simp [hlt, hpk']
        · simp [hi]
      rw [this]; exact ok.keys
theorem T_delF (hD : KeyD Pg mt kt et ek) {r : Nat} {f : α → Option β} {key : α} {kk : Value} {kt' : TypeId} {k : Unit → K} (hkk : kk = ek key) (ht : T B (R * MpF ek ev r (delF f key)) (k ())) :
    T B (R * MpF ek ev r f) (semT Pg (Builtin.delete_ #[mt, kt'] 0 #[.map (some r), kk]) (.tup []) k) := by
  subst hkk
  refine MpF_open fun es c ok => ?_
  obtain ⟨l, ok, hl⟩ := ok
  intro w s
  have hg := getObj_sat (Pg := Pg) s Has.last
  obtain ⟨g, h1, h2, h3, h4⟩ := mfind_eq hD (key := key) es.toList l 0 ok.kv
  obtain ⟨dk, hdk⟩ : ∃ d, Pg.underlying kt = some d := by
    cases hu : Pg.underlying kt with
    | none => have := hD.fine key; unfold keyFine at this; rw [hu] at this; simp at this
    | some d => exact ⟨d, rfl⟩
  have hll := kv_len ok.kv
  unfold semT
  cases g with
  | none =>
    obtain ⟨w', r1, r2⟩ := setObj_sat (Pg := Pg) (.map es c) s
    have hrun : (Builtin.delete_ #[mt, kt'] 0 #[.map (some r), ek key]).run Pg w = .ok (.tuple #[]) w' := by
      simp [Builtin.delete_, Sem.run_bind, r_und hD.und, Result.andThen_ok, hg, keyFine_run (hD.fine key), mfind_run hdk h1, r1]
    rw [hrun]
    refine ⟨(), rfl, ?_⟩
    have hn := findIdx_none (h3 rfl)
    refine MpF_close ⟨l, ok, fun x => ?_⟩ ht w' r2
    unfold delF
    by_cases hx : x = key
    · rw [if_pos hx, hx]; exact lkup_none hn
    · rw [if_neg hx]; exact hl x
  | some q =>
    obtain ⟨j, v0⟩ := q
    obtain ⟨n, hj, hn⟩ := h4 j v0 rfl
    have hjn : j = n := by omega
    subst hjn
    obtain ⟨hlt, hpk, _⟩ := List.findIdx?_eq_some_iff_getElem.1 hn
    have hlt' : j < es.size := by
      have : es.size = l.length := by simpa using hll
      omega
    obtain ⟨w', r1, r2⟩ := setObj_sat (Pg := Pg) (.map (es.eraseIdxIfInBounds j) c) s
    have hrun : (Builtin.delete_ #[mt, kt'] 0 #[.map (some r), ek key]).run Pg w = .ok (.tuple #[]) w' := by
      simp [Builtin.delete_, Sem.run_bind, r_und hD.und, Result.andThen_ok, hg, keyFine_run (hD.fine key), mfind_run hdk h1, r1]
    rw [hrun]
    refine ⟨(), rfl, ?_⟩
    have htl : (es.eraseIdxIfInBounds j).toList = es.toList.eraseIdx j := by
      unfold Array.eraseIdxIfInBounds
      rw [dif_pos hlt']; simp
    refine MpF_close ⟨l.eraseIdx j, ⟨?_, ?_, fun x hx => ?_, ?_⟩, fun x => ?_⟩ ht w' r2
    · rw [htl]
      have := ok.kv
      unfold kv encs at this ⊢
      rw [map_erase, map_erase, this]
    · rw [htl, map_erase]; exact ok.nod.sublist (List.eraseIdx_sublist ..)
    · rw [htl] at hx; exact ok.old x (List.mem_of_mem_eraseIdx hx)
    · rw [map_erase]; exact ok.keys.sublist (List.eraseIdx_sublist ..)
    · rw [lkup_erase ok.keys hn, hl]; rfl
end
theorem nodup_lt_len : ∀ (n : Nat) (l : List Nat), l.Nodup → (∀ x ∈ l, x < n) → l.length ≤ n
  | 0, l, _, h => by
    cases l with
    | nil => simp
    | cons a _ => exact absurd (h a (by simp)) (by omega)
  | n + 1, l, hn, h => by
    by_cases hm : n ∈ l
    · have h1 := nodup_lt_len n (l.erase n) (hn.erase n) (fun x hx => by
        have := (List.Nodup.mem_erase_iff hn).1 hx
        have := h x this.2
        omega)
      rw [List.length_erase_of_mem hm] at h1
      omega
    · have := nodup_lt_len n l hn (fun x hx => by
        have h1 := h x hx
        have h2 : x ≠ n := fun e => hm (e ▸ hx)
        omega)
      omega
section
variable {B : World} {P Q R : SL} {t : K} {Pg : Program} {α β : Type} [DecidableEq α] {mt kt et : TypeId} {ek : α → Value} {ev : β → Value}
/-- an iterator, behind so many visited entries -/
def iter (es : Array MapEntry) (r c : Nat) (sn : List Nat) : Obj := .mapIter (some r) c (sn.reverse.map fun i => ((es[i]?).map (·.born)).getD 0).toArray c
structure Seen (l : List (α × β)) (sn : List Nat) : Prop where
  nd : sn.Nodup
  lt : ∀ i ∈ sn, i < l.length
def prsOf (l : List (α × β)) (sn : List Nat) : List (α × β) := sn.filterMap fun i => l[i]?
theorem prsOf_cons {l : List (α × β)} {i : Nat} {p : α × β} (h : l[i]? = some p) (sn : List Nat) : prsOf l (i :: sn) = p :: prsOf l sn := by
  unfold prsOf; rw [List.filterMap_cons, h]
theorem prsOf_mem {l : List (α × β)} {sn : List Nat} {p : α × β} : p ∈ prsOf l sn ↔ ∃ i ∈ sn, l[i]? = some p := by
  unfold prsOf; rw [List.mem_filterMap]
theorem nodup_idx {l : List α} (hn : l.Nodup) {i j : Nat} {a : α} (h1 : l[i]? = some a) (h2 : l[j]? = some a) : i = j := by
  obtain ⟨a1, b1⟩ := List.getElem?_eq_some_iff.1 h1
  obtain ⟨a2, b2⟩ := List.getElem?_eq_some_iff.1 h2
  rcases Nat.lt_trichotomy i j with h | h | h
  · exact absurd (b1.trans b2.symm) ((List.pairwise_iff_getElem.1 hn) i j a1 a2 h)
  · exact h
  · exact absurd (b2.trans b1.symm) ((List.pairwise_iff_getElem.1 hn) j i a2 a1 h)
theorem keys_idx {l : List (α × β)} (hn : (l.map (·.1)).Nodup) {i j : Nat} {p q : α × β} (h1 : l[i]? = some p) (h2 : l[j]? = some q) (e : p.1 = q.1) : i = j :=
  nodup_idx hn (a := p.1) (by rw [List.getElem?_map, h1]; rfl) (by rw [List.getElem?_map, h2, e]; rfl)
theorem prsOf_nodup {l : List (α × β)} (hn : (l.map (·.1)).Nodup) {sn : List Nat} (h : Seen l sn) : ((prsOf l sn).map (·.1)).Nodup := by
  induction sn with
  | nil => simp [prsOf]
  | cons i sn ih =>
    have hnd := h.nd
    rw [List.nodup_cons] at hnd
    have hi := h.lt i (by simp)
    have hg : l[i]? = some l[i] := List.getElem?_eq_getElem hi
    rw [prsOf_cons hg, List.map_cons, List.nodup_cons]
    refine ⟨fun hm => ?_, ih ⟨hnd.2, fun j hj => h.lt j (by simp [hj])⟩⟩
    obtain ⟨q, hq, e⟩ := List.mem_map.1 hm
    obtain ⟨j, hj, hjq⟩ := prsOf_mem.1 hq
    have := keys_idx hn hg hjq e.symm
    subst this
    exact hnd.1 hj
theorem iter_seen {es : Array MapEntry} {c : Nat} {l : List (α × β)} (ok : MpOk ek ev es c l) {sn : List Nat} (h : Seen l sn) {i : Nat} {e : MapEntry} (he : es[i]? = some e) :
    (sn.reverse.map fun i => ((es[i]?).map (·.born)).getD 0).toArray.contains e.born = decide (i ∈ sn) := by
  have hl := kv_len ok.kv
  rw [Bool.eq_iff_iff]
  simp only [List.contains_toArray, List.contains_iff_mem, List.mem_map, List.mem_reverse, decide_eq_true_eq]
  constructor
  · rintro ⟨j, hj, e1⟩
    have hjl : j < es.size := by have := h.lt j hj; simp at hl; omega
    have hjs : es[j]? = some es[j] := Array.getElem?_eq_getElem hjl
    rw [hjs] at e1
    simp only [Option.map_some, Option.getD_some] at e1
    have : i = j := nodup_idx ok.nod (a := e.born) (by rw [List.getElem?_map, Array.getElem?_toList, he]; rfl) (by rw [List.getElem?_map, Array.getElem?_toList, hjs, ← e1]; rfl)
    subst this; exact hj
  · intro hi
    exact ⟨i, hi, by rw [he]; rfl⟩
theorem setBlock_sat {w : World} {r : Nat} {o o' : Obj} (s : Sat B (R * pt r o) w) : Sat B (R * pt r o') (ChangeMaps.setBlock w r o') := by
  have hr := (s.has (b := r) (o := o) Has.last).1
  have hlt : r < w.heap.size := (Array.getElem?_eq_some_iff.1 hr).1
  refine s.upd Upd.last ?_ ?_ rfl rfl rfl (by simp [ChangeMaps.setBlock])
  · simp [ChangeMaps.setBlock, hlt]
  · intro x hx; simp [ChangeMaps.setBlock, Ne.symm hx]
theorem T_rangeF {σ : Type} (hD : KeyD Pg mt kt et ek) {r : Nat} {f : α → Option β} {s0 : σ} {body : σ → (σ → K) → Value × Value → K} {ex : σ → K} {ty : TypeId} (R' : σ → List (α × β) → SL) (φ : σ → List (α × β) → Prop)
    (hP : ∀ t, T B (R' s0 [] * MpF ek ev r f) t → T B P t) (h0 : φ s0 [])
    (hstep : ∀ s sn key v (It : SL) (c : σ → K), φ s sn → f key = some v → key ∉ sn.map (·.1) → MHas ek ev It r f → (∀ X t, T B (X * MpF ek ev r f) t → T B (X * It) t) → (∀ s', φ s' ((key, v) :: sn) → T B (R' s' ((key, v) :: sn) * It) (c s')) → T B (R' s sn * It) (body s c (ek key, ev v)))
    (hend : ∀ s sn, φ s sn → (sn.map (·.1)).Nodup → (∀ key v, f key = some v ↔ (key, v) ∈ sn) → T B (R' s sn * MpF ek ev r f) (ex s)) :
    T B P (semT Pg (Instr.range mt (.map (some r))) (.one (.sc .ptr)) fun it => lp (fun z cc => nextM Pg (Instr.next (.pointer it) false ty) fun go rest => brK go (semT Pg (Instr.entry (.pointer it)) (.tup [.sc .any, .sc .any]) fun e => body z cc e) (ex z)) s0) := by
  refine hP _ ?_
  refine MpF_open fun es c ok => ?_
  obtain ⟨l, ok, hl⟩ := ok
  have hll := kv_len ok.kv
  intro w s
  have hrun : (Instr.range mt (.map (some r))).run Pg w = .ok (.pointer (some ⟨w.heap.size, 0, none⟩)) { w with heap := w.heap.push (.mapIter (some r) c #[] c) } := by
    have hg := getObj_sat (Pg := Pg) s Has.last
    simp only [Instr.range, Sem.run_bind, r_und hD.und, Result.andThen_ok, hg]
    rfl
  unfold semT
  rw [hrun]
  refine ⟨some ⟨w.heap.size, 0, none⟩, rfl, ?_⟩
  have s2 := s.alloc (o := .mapIter (some r) c #[] c)
  generalize hit : w.heap.size = it at *
  generalize ({ w with heap := w.heap.push (.mapIter (some r) c #[] c) } : World) = w2 at s2 ⊢
  clear hrun s
  -- the rounds
  refine T_lpW (B := B) (P := R' s0 [] * pt r (.map es c) * pt it (.mapIter (some r) c #[] c)) (fun n s => _root_.Go.Proofs.YtdgcbapclnnkkaaGreat.X.ex fun sn => R' s (prsOf l sn) * pt r (.map es c) * pt it (iter es r c sn) * pu (Seen l sn ∧ n = l.length - sn.length ∧ φ s (prsOf l sn))) (fun _ _ => True) l.length (fun t ht => ?_) trivial ?_ w2 s2
  · intro w3 s3
    obtain ⟨⟨g, hg, hgb⟩, hk⟩ := Sat.puI (φ := Seen l [] ∧ l.length = l.length - ([] : List Nat).length ∧ φ s0 (prsOf l [])) ⟨⟨List.nodup_nil, by simp⟩, by simp, h0⟩ s3
    exact ht w3 ⟨⟨g, ⟨[], hg⟩, hgb⟩, hk⟩
  · intro n s cc _ hc
    intro w3 s3
    obtain ⟨⟨g, ⟨sn, hg⟩, hgb⟩, hk⟩ := s3
    have s3 : Sat B (R' s (prsOf l sn) * pt r (.map es c) * pt it (iter es r c sn) * pu (Seen l sn ∧ n = l.length - sn.length ∧ φ s (prsOf l sn))) w3 := ⟨⟨g, hg, hgb⟩, hk⟩
    clear hg hgb hk
    have key : Seen l sn → n = l.length - sn.length → φ s (prsOf l sn) → T B (R' s (prsOf l sn) * pt r (.map es c) * pt it (iter es r c sn)) (nextM Pg (Instr.next (.pointer (some ⟨it, 0, none⟩)) false ty) fun go rest => brK go (semT Pg (Instr.entry (.pointer (some ⟨it, 0, none⟩))) (.tup [.sc .any, .sc .any]) fun e => body s cc e) (ex s)) := by
      intro hs hn hφ w4 s4
      have hb : w4.heap[r]? = some (.map es c) := (s4.has (Has.init Has.last)).1
      have hi : w4.heap[it]? = some (iter es r c sn) := (s4.has Has.last).1
      unfold nextM
      rcases run_next_at (P := Pg) w4 ty it r c c _ es c hi hb ok.old (Nat.le_refl _) with ⟨z1, z2⟩ | ⟨e, he, w5, hw5, hr5⟩
      · rw [z2]
        refine ⟨false, [], rfl, ?_⟩
        have all : ∀ i, i < l.length → i ∈ sn := by
          intro i hil
          have hie : i < es.size := by simp at hll; omega
          have hz : leftOf es (sn.reverse.map fun i => ((es[i]?).map (·.born)).getD 0).toArray = #[] := Array.eq_empty_of_size_eq_zero z1
          unfold leftOf at hz
          rw [Array.filter_eq_empty_iff] at hz
          have := hz es[i] (by simp)
          rw [iter_seen ok hs (i := i) (Array.getElem?_eq_getElem hie)] at this
          simpa using this
        have hfin : T B (R' s (prsOf l sn) * pt r (.map es c) * pt it (iter es r c sn)) (ex s) := by
          refine T.weak ?_
          refine MpF_close ⟨l, ok, hl⟩ ?_
          refine hend s _ hφ (prsOf_nodup ok.keys hs) fun k v => ?_
          rw [← hl, lkup_mem ok.keys, prsOf_mem]
          constructor
          · intro hm
            obtain ⟨i, hi, he⟩ := List.mem_iff_getElem.1 hm
            exact ⟨i, all i hi, by rw [List.getElem?_eq_getElem hi, he]⟩
          · rintro ⟨i, _, he⟩; exact List.mem_of_getElem? he
        exact hfin w4 s4
      · rw [hr5]
        refine ⟨true, [e.key, e.val], rfl, ?_⟩
        obtain ⟨hem, hen⟩ := Array.mem_filter.1 (Array.mem_def.2 he)
        obtain ⟨i, hie, hei⟩ := Array.mem_iff_getElem.1 hem
        have hei' : es[i]? = some e := by rw [Array.getElem?_eq_getElem hie, hei]
        rw [iter_seen ok hs hei'] at hen
        have hni : i ∉ sn := by simpa using hen
        have hil : i < l.length := by simp at hll; omega
        obtain ⟨ke, ve⟩ := kv_at ok.kv (i := i) (e := e) (p := l[i]) (by simpa using hei') (List.getElem?_eq_getElem hil)
        have s5 : Sat B (R' s (prsOf l sn) * pt r (.map es c) * pt it (iter es r c sn)) w5 := by
          rcases hw5 with rfl | rfl
          · exact s4
          · exact s4.drew _
        have s6 := setBlock_sat (o' := iter es r c (i :: sn)) s5
        have hit' : iter es r c (i :: sn) = .mapIter (some r) c ((sn.reverse.map fun i => ((es[i]?).map (·.born)).getD 0).toArray.push e.born) c := by
          unfold iter
          rw [List.reverse_cons, List.map_append, List.map_singleton, hei']
          simp
        rw [← hit']
        generalize ChangeMaps.setBlock w5 it (iter es r c (i :: sn)) = w6 at s6
        have hb6 : w6.heap[r]? = some (.map es c) := (s6.has (Has.init Has.last)).1
        have hi6 : w6.heap[it]? = some (iter es r c (i :: sn)) := (s6.has Has.last).1
        rw [hit'] at hi6
        have hent := run_entry_at (P := Pg) w6 it r c _ es c e hi6 hb6 (by simpa using hem) ok.nod
        show semT Pg (Instr.entry (.pointer (some ⟨it, 0, none⟩))) (.tup [.sc .any, .sc .any]) (fun e => body s cc e) w6
        unfold semT
        rw [hent]
        refine ⟨(e.key, e.val), rfl, ?_⟩
        rw [ke, ve]
        have hs' : Seen l (i :: sn) := ⟨List.nodup_cons.2 ⟨hni, hs.nd⟩, fun j hj => by
          rcases List.mem_cons.1 hj with rfl | hj
          · exact hil
          · exact hs.lt j hj⟩
        have hpc : prsOf l (i :: sn) = (l[i].1, l[i].2) :: prsOf l sn := prsOf_cons (List.getElem?_eq_getElem hil) sn
        have hlen : sn.length < l.length := by
          have := nodup_lt_len l.length (i :: sn) hs'.nd hs'.lt
          simp only [List.length_cons] at this
          omega
        have hb := hstep s (prsOf l sn) l[i].1 l[i].2 (pt r (.map es c) * pt it (iter es r c (i :: sn))) cc hφ (by rw [← hl, lkup_mem ok.keys]; exact List.getElem_mem hil) (fun hm => by
          obtain ⟨q, hq, e⟩ := List.mem_map.1 hm
          obtain ⟨j, hj, hjq⟩ := prsOf_mem.1 hq
          have := keys_idx ok.keys (List.getElem?_eq_getElem hil) hjq e.symm
          subst this; exact hni hj) (MHas.init (MHas.pt ⟨l, ok, hl⟩ Has.one)) (fun X t ht => by
            rw [← sep_assoc]
            exact T.weak (MpF_close ⟨l, ok, hl⟩ ht)) (fun s' hφ' => by
            have hcc := hc (l.length - (i :: sn).length) s' (by rw [hn]; simp; omega) trivial
            intro w7 s7
            refine hcc w7 ?_
            rw [← hpc] at hφ' s7
            rw [← sep_assoc] at s7
            obtain ⟨⟨g, hg, hgb⟩, hk⟩ := Sat.puI (φ := Seen l (i :: sn) ∧ l.length - (i :: sn).length = l.length - (i :: sn).length ∧ φ s' (prsOf l (i :: sn))) ⟨hs', rfl, hφ'⟩ s7
            exact ⟨⟨g, ⟨i :: sn, hg⟩, hgb⟩, hk⟩)
        rw [← sep_assoc] at hb
        exact hb w6 s6
    have k2 : T B (R' s (prsOf l sn) * pt r (.map es c) * pt it (iter es r c sn) * pu (Seen l sn ∧ n = l.length - sn.length ∧ φ s (prsOf l sn))) _ := T_pu fun h => key h.1 h.2.1 h.2.2
    exact k2 w3 s3
end
def bigS : Nat → (Nat → SL) → SL
  | 0, _ => emp
  | n + 1, f => bigS n f * f n
theorem bigS_congr {n : Nat} {f f' : Nat → SL} (h : ∀ i, i < n → f i = f' i) : bigS n f = bigS n f' := by
  induction n with
  | zero => rfl
  | succ n ih => unfold bigS; rw [ih fun i hi => h i (by omega), h n (by omega)]
/-- all but one -/
def bigX (n : Nat) (f : Nat → SL) (i : Nat) : SL := bigS n fun j => if j = i then emp else f j
theorem bigS_out {n : Nat} {f : Nat → SL} {i : Nat} (h : i < n) : bigS n f = bigX n f i * f i := by
  unfold bigX
  induction n with
  | zero => omega
  | succ n ih =>
    unfold bigS
    by_cases e : i = n
    · subst e
      simp only [if_true]
      rw [sep_emp]
      congr 1
      exact bigS_congr fun j hj => by rw [if_neg (by omega)]
    · have e2 : ¬ n = i := Ne.symm e
      simp only [if_neg e2]
      rw [ih (by omega), sep_assoc, sep_comm (f i), ← sep_assoc]
theorem bigX_congr {n : Nat} {f f' : Nat → SL} {i : Nat} (h : ∀ j, j < n → j ≠ i → f j = f' j) : bigX n f i = bigX n f' i := by
  unfold bigX
  refine bigS_congr fun j hj => ?_
  by_cases e : j = i
  · rw [if_pos e, if_pos e]
  · rw [if_neg e, if_neg e, h j hj e]
theorem bigS_in {n : Nat} {f f' : Nat → SL} {i : Nat} (h : i < n) (hc : ∀ j, j < n → j ≠ i → f j = f' j) : bigX n f i * f' i = bigS n f' := by
  rw [bigX_congr hc, ← bigS_out h]
/-- all but two -/
theorem bigX_out {n : Nat} {f : Nat → SL} {i j : Nat} (h : j < n) (hij : j ≠ i) : bigX n f i = bigX n (fun x => if x = i then emp else f x) j * f j := by
  show bigS n (fun x => if x = i then emp else f x) = _
  rw [bigS_out h, if_neg hij]
def ei (n : Int) : Value := .int .i64 n
abbrev RF := Int → Option Int
theorem kd_ii : KeyD (α := Int) Tryz.prog 240 3 3 ei := by
  refine ⟨by kernel_rfl, fun a b => ?_, fun a => by kernel_rfl, fun a b h => ?_, fun a => ?_⟩
  · show keyEq Tryz.prog 3 (.int .i64 a) (.int .i64 b) = _
    unfold keyEq
    rw [show Program.underlying Tryz.prog 3 = some (.int .i64) by kernel_rfl]
    simp only [if_true]
    rw [Bool.beq_eq_decide_eq]
  · unfold ei at h; injection h
  · show ((IntKind.i64 == IntKind.i64) && a == a) = true
    simp
structure RunsOk (lim : Int) (F : RF) : Prop where
  big : lim ≤ 2 ^ 20
  rng : ∀ s n, F s = some n → 1 ≤ s ∧ 1 ≤ n ∧ s + n ≤ lim
  sep : ∀ s n s' n', F s = some n → F s' = some n' → s < s' → s + n < s'
def Ends (F E : RF) : Prop := ∀ e s, E e = some s ↔ ∃ n, F s = some n ∧ e = s + n
/-- a block in a run -/
def InR (F : RF) (b : Int) : Prop := ∃ s n, F s = some n ∧ s ≤ b ∧ b < s + n
def Idx (x : Nat) (lim : Int) (F : RF) : SL := ex fun q : Nat × Nat × RF => MpF ei ei q.1 F * MpF ei ei q.2.1 q.2.2 * pt x (.cells [.map (some q.1), .map (some q.2.1), .int .i64 lim].toArray 242) * pu (Ends F q.2.2)
section
variable {B : World} {P R : SL} {t : K}
theorem FOk_nil {α β : Type} [DecidableEq α] {ek : α → Value} {ev : β → Value} : FOk ek ev #[] 0 (fun _ => none) := ⟨[], ⟨rfl, by simp, by simp, by simp⟩, fun _ => rfl⟩
theorem Idx_open {x : Nat} {lim : Int} {F : RF} (h : ∀ r1 r2 E, Ends F E → T B (R * MpF ei ei r1 F * MpF ei ei r2 E * pt x (.cells [.map (some r1), .map (some r2), .int .i64 lim].toArray 242)) t) : T B (R * Idx x lim F) t := by
  refine T_ex fun q => ?_
  rw [← sep_assoc]
  refine T_pu fun ok => T.perm ?_ (h q.1 q.2.1 q.2.2 ok)
  simp only [sep_assoc]
theorem Idx_close {x : Nat} {lim : Int} {F : RF} {r1 r2 : Nat} {E : RF} (ok : Ends F E) (h : T B (R * Idx x lim F) t) : T B (R * MpF ei ei r1 F * MpF ei ei r2 E * pt x (.cells [.map (some r1), .map (some r2), .int .i64 lim].toArray 242)) t := by
  have h2 := T_exI (B := B) (R := R) (t := t) (X := fun q : Nat × Nat × RF => MpF ei ei q.1 F * MpF ei ei q.2.1 q.2.2 * pt x (.cells [.map (some q.1), .map (some q.2.1), .int .i64 lim].toArray 242) * pu (Ends F q.2.2)) (r1, r2, E) h
  rw [← sep_assoc] at h2
  refine T.perm ?_ (T_puI ok h2)
  simp only [sep_assoc]
theorem runs_New_c {lim : Int} (hl : 0 ≤ lim) {k : Option Addr → K} (hk : ∀ x, T B (R * Idx x lim (fun _ => none)) (k (da x))) : T B R (c_runs_New lim k) := by
  refine T_of (runs_New_ok lim k) ?_
  have e0 : max2I lim 0 = lim := by unfold max2I; split <;> omega
  (dsimp only [runs_New, Zdz0, Zdz1])
  rw [e0]
  refine T_al fun r1 => ?_
  refine MpF_close (ek := ei) (ev := ei) (FOk_nil (α := Int) (β := Int)) ?_
  refine T_al fun r2 => ?_
  refine MpF_close (ek := ei) (ev := ei) (FOk_nil (α := Int) (β := Int)) ?_
  refine T_al fun x => ?_
  refine Idx_close (r1 := r1) (r2 := r2) (E := fun _ => none) (fun e s => ?_) (hk x)
  simp
theorem runs_add_c {x : Nat} {lim : Int} {F : RF} {start n : Int} {k : Unit → K} (h0 : F start = none) (h1 : ∀ s m, F s = some m → s + m ≠ start + n) (hw : -9223372036854775808 ≤ start + n ∧ start + n ≤ 9223372036854775807)
    (hk : T B (R * Idx x lim (updF F start n)) (k ())) : T B (R * Idx x lim F) (c_runs_Index_add (da x) start n k) := by
  refine T_of (runs_Index_add_ok _ start n k) ?_
  unfold da
  refine Idx_open fun r1 r2 E hE => ?_
  (repeat (first | with_reducible refine T_nn ?_ | with_reducible refine T_tick ?_ | ((with_reducible apply T_ldM); (focus rfl); (focus exact hasA); (focus rfl))))
  rw [w64 hw.1 hw.2]
  refine T_bring (X := MpF ei ei r1 F) (.init (.init .last)) ?_
  refine T_putF (ek := ei) (ev := ei) kd_ii (z := (0 : Int)) (by kernel_rfl) ((F start).getD 0) rfl rfl ?_
  refine T_bring (X := MpF ei ei r2 E) (.init (.init .last)) ?_
  refine T_putF (ek := ei) (ev := ei) kd_ii (z := (0 : Int)) (by kernel_rfl) ((E (start + n)).getD 0) rfl rfl ?_
  refine T.perm ?_ (Idx_close (R := R) (r1 := r1) (r2 := r2) (E := updF E (start + n) start) ?_ hk)
  · ac_rfl
  · intro e s
    unfold updF
    by_cases he : e = start + n
    · rw [if_pos he]
      constructor
      · intro h
        simp only [Option.some.injEq] at h
        subst h
        exact ⟨n, by rw [if_pos rfl], he⟩
      · rintro ⟨m, h, h2⟩
        by_cases hs : s = start
        · rw [hs]
        · rw [if_neg hs] at h
          exact absurd (h2.symm.trans he) (h1 s m h)
    · rw [if_neg he, hE]
      constructor
      · rintro ⟨m, h, h2⟩
        have hs : s ≠ start := fun hs => by rw [hs, h0] at h; cases h
        exact ⟨m, by rw [if_neg hs]; exact h, h2⟩
      · rintro ⟨m, h, h2⟩
        by_cases hs : s = start
        · rw [if_pos hs] at h
          simp only [Option.some.injEq] at h
          subst h hs; exact absurd h2 he
        · rw [if_neg hs] at h; exact ⟨m, h, h2⟩
theorem runs_drop_c {x : Nat} {lim : Int} {F : RF} {start n : Int} {k : Unit → K} (h0 : F start = some n) (hw : -9223372036854775808 ≤ start + n ∧ start + n ≤ 9223372036854775807)
    (hk : T B (R * Idx x lim (delF F start)) (k ())) : T B (R * Idx x lim F) (c_runs_Index_drop (da x) start k) := by
  refine T_of (runs_Index_drop_ok _ start k) ?_
  unfold da
  refine Idx_open fun r1 r2 E hE => ?_
  (repeat (first | with_reducible refine T_nn ?_ | with_reducible refine T_tick ?_ | ((with_reducible apply T_ldM); (focus rfl); (focus exact hasA); (focus rfl))))
  refine T_lkF (ek := ei) (ev := ei) kd_ii (r := r1) (f := F) (MHas.init (MHas.init (MHas.of .last))) n (by rw [h0]; rfl) fun ob => ?_
  rw [w64 hw.1 hw.2]
  refine T_bring (X := MpF ei ei r2 E) (.init .last) ?_
  refine T_delF (ek := ei) (ev := ei) kd_ii rfl ?_
  (repeat (first | with_reducible refine T_nn ?_ | ((with_reducible apply T_ldM); (focus rfl); (focus exact hasA); (focus rfl))))
  refine T_bring (X := MpF ei ei r1 F) (.init (.init .last)) ?_
  refine T_delF (ek := ei) (ev := ei) kd_ii rfl ?_
  refine T.perm ?_ (Idx_close (R := R) (r1 := r1) (r2 := r2) (E := delF E (start + n)) ?_ hk)
  · ac_rfl
  · intro e s
    unfold delF
    have hs0 : E (start + n) = some start := (hE _ _).2 ⟨n, h0, rfl⟩
    by_cases he : e = start + n
    · rw [if_pos he]
      constructor
      · intro h; cases h
      · rintro ⟨m, h, h2⟩
        by_cases hs : s = start
        · rw [if_pos hs] at h; cases h
        · rw [if_neg hs] at h
          have h3 := (hE e s).2 ⟨m, h, h2⟩
          rw [he, hs0] at h3
          exact absurd (Option.some.inj h3).symm hs
    · rw [if_neg he, hE]
      constructor
      · rintro ⟨m, h, h2⟩
        have hs : s ≠ start := fun hs => by rw [hs, h0] at h; cases h; exact he (by rw [h2, hs])
        exact ⟨m, by rw [if_neg hs]; exact h, h2⟩
      · rintro ⟨m, h, h2⟩
        by_cases hs : s = start
        · rw [if_pos hs] at h; cases h
        · rw [if_neg hs] at h; exact ⟨m, h, h2⟩
theorem T_decI {kd : IntKind} {v : Value} {k : Int → K} (n : Int) (h : v = .int kd n) (ht : T B P (k n)) : T B P (decSh (.int kd) v k) := by
  subst h
  show T B P (gd (decide (kd = kd)) (k n))
  rw [decide_eq_true rfl]; exact ht
theorem runs_Has_c {x : Nat} {lim b : Int} {F : RF} {k : Bool → K} (ok : RunsOk lim F) (h1 : InR F b → T B (R * Idx x lim F) (k true)) (h0 : ¬ InR F b → T B (R * Idx x lim F) (k false)) : T B (R * Idx x lim F) (c_runs_Index_Has (da x) b k) := by
  refine T_of (runs_Index_Has_ok _ b k) ?_
  unfold da
  refine Idx_open fun r1 r2 E hE => ?_
  have hB := ok.big
  (repeat (first | with_reducible refine T_nn ?_ | ((with_reducible apply T_ldM); (focus rfl); (focus exact hasA); (focus rfl))))
  (dsimp only [runs_Index_Has, Zdq0, Zdq1, Zdq2, Zdq3, Zdq4, Zdq5, Zdq6, Zdq7, Zdq8])
  refine T_bring (X := MpF ei ei r1 F) (.init (.init .last)) ?_
  have cl : ∀ t, T B (R * Idx x lim F) t → T B (R * MpF ei ei r2 E * pt x (.cells [.map (some r1), .map (some r2), .int .i64 lim].toArray 242) * MpF ei ei r1 F) t := fun t h => T.perm (by ac_rfl) (Idx_close (R := R) (r1 := r1) (r2 := r2) hE h)
  refine T_rangeF (ek := ei) (ev := ei) kd_ii (fun _ _ => R * MpF ei ei r2 E * pt x (.cells [.map (some r1), .map (some r2), .int .i64 lim].toArray 242)) (fun _ sn => ∀ s m, (s, m) ∈ sn → ¬ (s ≤ b ∧ b < s + m)) (fun t h => h) (by simp) ?_ ?_
  · intro s sn key v It c hφ hf hn hM hW hc
    have hr := ok.rng _ _ hf
    refine T_decI key rfl ?_
    refine T_decI v rfl ?_
    rw [w64 (by omega) (by omega)]
    (repeat' (first | with_reducible refine T_brF ?_ | with_reducible refine T_brD (fun _ => ?_) (fun _ => ?_)))
    · refine hW _ _ (cl _ (h1 ⟨key, v, hf, ?_⟩))
      omega
    · refine hc _ fun s m hm => ?_
      rcases List.mem_cons.1 hm with h | h
      · cases h; omega
      · exact hφ s m h
    · refine hc _ fun s m hm => ?_
      rcases List.mem_cons.1 hm with h | h
      · cases h; omega
      · exact hφ s m h
  · intro s sn hφ hn hcov
    refine cl _ (h0 ?_)
    rintro ⟨s, m, hs, hb⟩
    exact hφ s m ((hcov s m).1 hs) hb
end
def takeF (F : RF) (b n m : Int) : RF := if n < m then updF (delF F b) (b + n) (m - n) else delF F b
section
variable {B : World} {P R : SL} {t : K}
theorem runs_Take_c {x : Nat} {lim n : Int} {F : RF} {k : Int × Int → K} (ok : RunsOk lim F) (hn : 1 ≤ n)
    (h0 : (∀ s m, F s = some m → m < n) → T B (R * Idx x lim F) (k (0, 4)))
    (h1 : ∀ b m, F b = some m → n ≤ m → (∀ s m', F s = some m' → n ≤ m' → m < m' ∨ m = m' ∧ b ≤ s) → T B (R * Idx x lim (takeF F b n m)) (k (b, 0))) : T B (R * Idx x lim F) (c_runs_Index_Take (da x) n k) := by
  refine T_of (runs_Index_Take_ok _ n k) ?_
  have hB := ok.big
  unfold da
  (repeat' (first | with_reducible refine T_nn ?_ | with_reducible refine T_brD (fun _ => ?_) (fun _ => ?_)))
  · exfalso; omega
  refine Idx_open fun r1 r2 E hE => ?_
  (repeat (((with_reducible apply T_ldM); (focus rfl); (focus exact hasA); (focus rfl))))
  (dsimp only [runs_Index_Take, Zds0, Zds1, Zds2, Zds3, Zds4, Zds5, Zds6, Zds7, Zds8, Zds9, Zds10, Zds11, Zds12, Zds13, Zds14, Zds15, Zds16])
  refine T_bring (X := MpF ei ei r1 F) (.init (.init .last)) ?_
  have cl : ∀ t, T B (R * Idx x lim F) t → T B (R * MpF ei ei r2 E * pt x (.cells [.map (some r1), .map (some r2), .int .i64 lim].toArray 242) * MpF ei ei r1 F) t := fun t h => T.perm (by ac_rfl) (Idx_close (R := R) (r1 := r1) (r2 := r2) hE h)
  refine T_rangeF (ek := ei) (ev := ei) kd_ii (fun _ _ => R * MpF ei ei r2 E * pt x (.cells [.map (some r1), .map (some r2), .int .i64 lim].toArray 242))
    (fun z sn => (z.1 = -1 ∧ ∀ s m, (s, m) ∈ sn → m < n) ∨ (∃ kb, F z.1 = some kb ∧ n ≤ kb ∧ ∀ s m, (s, m) ∈ sn → n ≤ m → kb < m ∨ kb = m ∧ z.1 ≤ s)) (fun t h => h) (.inl ⟨rfl, by simp⟩) ?_ ?_
  · rintro ⟨best, u⟩ sn key v It c hφ hf hni hM hW hc
    have hr := ok.rng _ _ hf
    simp only at hφ ⊢
    refine T_decI key rfl ?_
    refine T_decI v rfl ?_
    -- what is kept
    have keep : ¬ n ≤ v → T B (R * MpF ei ei r2 E * pt x (.cells [.map (some r1), .map (some r2), .int .i64 lim].toArray 242) * It) (c (best, ())) := by
      intro hv
      refine hc _ ?_
      rcases hφ with ⟨e1, e2⟩ | ⟨kb, e1, e2, e3⟩
      · refine .inl ⟨e1, fun s m hm => ?_⟩
        rcases List.mem_cons.1 hm with h | h
        · cases h; omega
        · exact e2 s m h
      · refine .inr ⟨kb, e1, e2, fun s m hm hnm => ?_⟩
        rcases List.mem_cons.1 hm with h | h
        · cases h; omega
        · exact e3 s m h hnm
    have sw : n ≤ v → (∀ s m, (s, m) ∈ sn → n ≤ m → v < m ∨ v = m ∧ key ≤ s) → T B (R * MpF ei ei r2 E * pt x (.cells [.map (some r1), .map (some r2), .int .i64 lim].toArray 242) * It) (c (key, ())) := by
      intro hv hall
      refine hc _ (.inr ⟨v, hf, hv, fun s m hm hnm => ?_⟩)
      rcases List.mem_cons.1 hm with h | h
      · cases h; omega
      · exact hall s m h hnm
    rcases hφ with ⟨e1, e2⟩ | ⟨kb, e1, e2, e3⟩
    · (repeat' (first | with_reducible refine T_nn ?_ | with_reducible refine T_brT ?_ | with_reducible refine T_brF ?_ | ((with_reducible apply T_ldM); (focus rfl); (focus exact hasA); (focus rfl)) | with_reducible refine T_brD (fun _ => ?_) (fun _ => ?_)))
      · refine sw (by omega) fun s m hm hnm => ?_
        have := e2 s m hm; omega
      · exfalso; omega
      · exact keep (by omega)
    · have hb := ok.rng _ _ e1
      (repeat' (first | with_reducible refine T_nn ?_ | with_reducible refine T_brT ?_ | with_reducible refine T_brF ?_ | ((with_reducible apply T_ldM); (focus rfl); (focus exact hasA); (focus rfl)) | with_reducible refine T_brD (fun _ => ?_) (fun _ => ?_)))
      · exfalso; omega
      · refine T_lkF (ek := ei) (ev := ei) kd_ii (r := r1) (f := F) hM.tail kb (by rw [e1]; rfl) fun ob => ?_
        (repeat' (first | with_reducible refine T_nn ?_ | with_reducible refine T_brT ?_ | ((with_reducible apply T_ldM); (focus rfl); (focus exact hasA); (focus rfl)) | with_reducible refine T_brD (fun _ => ?_) (fun _ => ?_)))
        · refine sw (by omega) fun s m hm hnm => ?_
          have := e3 s m hm hnm; omega
        · refine T_lkF (ek := ei) (ev := ei) kd_ii (r := r1) (f := F) hM.tail kb (by rw [e1]; rfl) fun ob => ?_
          (repeat' (first | with_reducible refine T_brF ?_ | with_reducible refine T_brD (fun _ => ?_) (fun _ => ?_) | with_reducible refine T_brE (fun _ => ?_) (fun _ => ?_)))
          · refine sw (by omega) fun s m hm hnm => ?_
            have := e3 s m hm hnm; omega
          · refine hc _ (.inr ⟨kb, e1, e2, fun s m hm hnm => ?_⟩)
            rcases List.mem_cons.1 hm with h | h
            · cases h; omega
            · exact e3 s m h hnm
          · refine hc _ (.inr ⟨kb, e1, e2, fun s m hm hnm => ?_⟩)
            rcases List.mem_cons.1 hm with h | h
            · cases h; omega
            · exact e3 s m h hnm
      · exact keep (by omega)
  · rintro ⟨best, u⟩ sn hφ hn' hcov
    simp only at hφ ⊢
    rcases hφ with ⟨e1, e2⟩ | ⟨kb, e1, e2, e3⟩
    · (repeat' (first | with_reducible refine T_nn ?_ | ((with_reducible apply T_ldM); (focus rfl); (focus exact hasA); (focus rfl)) | with_reducible refine T_brD (fun _ => ?_) (fun _ => ?_)))
      · exact cl _ (h0 fun s m h => e2 s m ((hcov s m).1 h))
      · exfalso; omega
    · have hb := ok.rng _ _ e1
      have hk := h1 best kb e1 e2 fun s m' h hnm => e3 s m' ((hcov s m').1 h) hnm
      (repeat' (first | with_reducible refine T_nn ?_ | ((with_reducible apply T_ldM); (focus rfl); (focus exact hasA); (focus rfl)) | with_reducible refine T_brD (fun _ => ?_) (fun _ => ?_)))
      · exfalso; omega
      · refine T_lkF (ek := ei) (ev := ei) kd_ii (r := r1) (f := F) (MHas.of .last) kb (by rw [e1]; rfl) fun ob => ?_
        refine cl _ ?_
        refine runs_drop_c e1 (by omega) ?_
        unfold takeF at hk
        (repeat' (with_reducible refine T_brD (fun _ => ?_) (fun _ => ?_)))
        · rename_i hlt
          rw [if_pos (by omega)] at hk
          rw [w64 (by omega) (by omega), w64 (by omega) (by omega)]
          refine runs_add_c ?_ ?_ (by omega) hk
          · unfold delF
            rw [if_neg (by omega)]
            cases hq : F (best + n) with
            | none => rfl
            | some m' => have := ok.sep _ _ _ _ e1 hq (by omega); omega
          · intro s m hs
            unfold delF at hs
            by_cases he : s = best
            · rw [if_pos he] at hs; cases hs
            · rw [if_neg he] at hs
              have r3 := ok.rng _ _ hs
              rcases Int.lt_or_gt_of_ne he with h | h
              · have := ok.sep _ _ _ _ hs e1 h; omega
              · have := ok.sep _ _ _ _ e1 hs h; omega
        · rename_i hlt
          rw [if_neg (by omega)] at hk
          exact hk
theorem RunsOk.take {lim : Int} {F : RF} (ok : RunsOk lim F) {b n m : Int} (h : F b = some m) (hn : 1 ≤ n) (hm : n ≤ m) : RunsOk lim (takeF F b n m) := by
  have hr := ok.rng _ _ h
  have key : ∀ s q, takeF F b n m s = some q → (s = b + n ∧ q = m - n ∧ n < m) ∨ (s ≠ b ∧ F s = some q) := by
    intro s q hs
    unfold takeF at hs
    split at hs
    · rename_i hlt
      unfold updF at hs
      split at hs
      · rename_i e; left; exact ⟨e, by simp only [Option.some.injEq] at hs; omega, hlt⟩
      · unfold delF at hs
        split at hs
        · cases hs
        · rename_i e; exact .inr ⟨e, hs⟩
    · unfold delF at hs
      split at hs
      · cases hs
      · rename_i e; exact .inr ⟨e, hs⟩
  refine ⟨ok.big, fun s q hs => ?_, fun s q s' q' hs hs' hlt => ?_⟩
  · rcases key s q hs with ⟨h1, h2, h3⟩ | ⟨h1, h2⟩
    · omega
    · exact ok.rng _ _ h2
  · rcases key s q hs with ⟨h1, h2, h3⟩ | ⟨h1, h2⟩ <;> rcases key s' q' hs' with ⟨g1, g2, g3⟩ | ⟨g1, g2⟩
    · omega
    · have := ok.sep _ _ _ _ h g2 (by omega); omega
    · rcases Int.lt_or_gt_of_ne h1 with hh | hh
      · have := ok.sep _ _ _ _ h2 h hh; omega
      · have := ok.sep _ _ _ _ h h2 hh; omega
    · exact ok.sep _ _ _ _ h2 g2 hlt
theorem InR_take {lim : Int} {F : RF} (ok : RunsOk lim F) {b n m : Int} (h : F b = some m) (hn : 1 ≤ n) (hm : n ≤ m) (y : Int) : InR (takeF F b n m) y ↔ InR F y ∧ ¬ (b ≤ y ∧ y < b + n) := by
  have hr := ok.rng _ _ h
  unfold takeF InR
  constructor
  · rintro ⟨s, q, hs, h1, h2⟩
    have two : ∀ {s q}, F s = some q → s ≠ b → s ≤ y → y < s + q → InR F y ∧ ¬ (b ≤ y ∧ y < b + n) := by
      intro s q g hne g1 g2
      refine ⟨⟨s, q, g, g1, g2⟩, fun hc => ?_⟩
      rcases Int.lt_or_gt_of_ne hne with hh | hh
      · have := ok.sep _ _ _ _ g h hh; omega
      · have := ok.sep _ _ _ _ h g hh; omega
    split at hs
    · unfold updF at hs
      split at hs
      · simp only [Option.some.injEq] at hs
        exact ⟨⟨b, m, h, by omega, by omega⟩, by omega⟩
      · unfold delF at hs
        split at hs
        · cases hs
        · rename_i e; exact two hs e h1 h2
    · unfold delF at hs
      split at hs
      · cases hs
      · rename_i e; exact two hs e h1 h2
  · rintro ⟨⟨s, q, hs, h1, h2⟩, h3⟩
    by_cases e : s = b
    · subst e
      rw [h] at hs
      simp only [Option.some.injEq] at hs
      subst hs
      refine ⟨s + n, m - n, ?_, by omega, by omega⟩
      rw [if_pos (by omega)]
      unfold updF; rw [if_pos rfl]
    · refine ⟨s, q, ?_, h1, h2⟩
      have hne : s ≠ b + n ∨ ¬ n < m := by
        by_cases hlt : n < m
        · left; intro e2
          have := ok.sep _ _ _ _ h hs (by omega); omega
        · exact .inr hlt
      split
      · unfold updF delF
        rw [if_neg (by omega), if_neg e]; exact hs
      · unfold delF; rw [if_neg e]; exact hs
end
theorem RunsOk.del {lim : Int} {F : RF} (ok : RunsOk lim F) (s0 : Int) : RunsOk lim (delF F s0) := by
  have key : ∀ s q, delF F s0 s = some q → F s = some q := by
    intro s q hs
    unfold delF at hs
    split at hs
    · cases hs
    · exact hs
  exact ⟨ok.big, fun s q hs => ok.rng _ _ (key s q hs), fun s q s' q' hs hs' hlt => ok.sep _ _ _ _ (key s q hs) (key s' q' hs') hlt⟩
theorem RunsOk.add {lim : Int} {G : RF} (ok : RunsOk lim G) {S N : Int} (h1 : 1 ≤ S) (h2 : 1 ≤ N) (h3 : S + N ≤ lim) (h : ∀ s m, G s = some m → s + m < S ∨ S + N < s) :
    G S = none ∧ RunsOk lim (updF G S N) ∧ ∀ y, InR (updF G S N) y ↔ InR G y ∨ (S ≤ y ∧ y < S + N) := by
  have hn : G S = none := by
    cases hq : G S with
    | none => rfl
    | some m => have := h S m hq; have := ok.rng S m hq; omega
  have key : ∀ s q, updF G S N s = some q → (s = S ∧ q = N) ∨ (s ≠ S ∧ G s = some q) := by
    intro s q hs
    unfold updF at hs
    split at hs
    · rename_i e; simp only [Option.some.injEq] at hs; exact .inl ⟨e, hs.symm⟩
    · rename_i e; exact .inr ⟨e, hs⟩
  refine ⟨hn, ⟨ok.big, fun s q hs => ?_, fun s q s' q' hs hs' hlt => ?_⟩, fun y => ?_⟩
  · rcases key s q hs with ⟨e1, e2⟩ | ⟨_, e⟩
    · omega
    · exact ok.rng _ _ e
  · rcases key s q hs with ⟨e1, e2⟩ | ⟨_, e⟩ <;> rcases key s' q' hs' with ⟨g1, g2⟩ | ⟨_, g⟩
    · omega
    · have := h _ _ g; have := ok.rng _ _ g; omega
    · have := h _ _ e; have := ok.rng _ _ e; omega
    · exact ok.sep _ _ _ _ e g hlt
  · constructor
    · rintro ⟨s, q, hs, g1, g2⟩
      rcases key s q hs with ⟨e1, e2⟩ | ⟨_, e⟩
      · right; omega
      · exact .inl ⟨s, q, e, g1, g2⟩
    · rintro (⟨s, q, hs, g1, g2⟩ | ⟨g1, g2⟩)
      · refine ⟨s, q, ?_, g1, g2⟩
        unfold updF; rw [if_neg]; exact hs
        intro e; rw [e, hn] at hs; cases hs
      · exact ⟨S, N, by unfold updF; rw [if_pos rfl], g1, g2⟩
theorem InR_del {lim : Int} {F : RF} (ok : RunsOk lim F) {s0 n0 : Int} (h : F s0 = some n0) (y : Int) : InR F y ↔ InR (delF F s0) y ∨ (s0 ≤ y ∧ y < s0 + n0) := by
  constructor
  · rintro ⟨s, q, hs, g1, g2⟩
    by_cases e : s = s0
    · subst e; rw [h] at hs; cases hs; exact .inr ⟨g1, g2⟩
    · exact .inl ⟨s, q, by unfold delF; rw [if_neg e]; exact hs, g1, g2⟩
  · rintro (⟨s, q, hs, g1, g2⟩ | ⟨g1, g2⟩)
    · unfold delF at hs
      split at hs
      · cases hs
      · exact ⟨s, q, hs, g1, g2⟩
    · exact ⟨s0, n0, h, g1, g2⟩
theorem delF_some {F : RF} {s0 s q : Int} (h : delF F s0 s = some q) : s ≠ s0 ∧ F s = some q := by
  unfold delF at h
  split at h
  · cases h
  · rename_i e; exact ⟨e, h⟩
def Cov (F : RF) (sn : List (Int × Int)) : Prop := (sn.map (·.1)).Nodup ∧ ∀ key v, F key = some v ↔ (key, v) ∈ sn
section
variable {B : World} {P R : SL} {t : K}
theorem runs_Give_c {x : Nat} {lim start n : Int} {F : RF} {k : Int → K} (ok : RunsOk lim F) (hw : -9223372036854775808 ≤ start ∧ start ≤ 9223372036854775807)
    (hbad : ¬ (1 ≤ start ∧ 1 ≤ n ∧ start + n ≤ lim) → T B (R * Idx x lim F) (k 1))
    (htw : 1 ≤ start → 1 ≤ n → start + n ≤ lim → (∃ b, start ≤ b ∧ b < start + n ∧ InR F b) → T B (R * Idx x lim F) (k 41))
    (hk : 1 ≤ start → 1 ≤ n → start + n ≤ lim → (∀ b, start ≤ b → b < start + n → ¬ InR F b) → ∀ F', RunsOk lim F' → (∀ y, InR F' y ↔ InR F y ∨ (start ≤ y ∧ y < start + n)) → T B (R * Idx x lim F') (k 0)) :
    T B (R * Idx x lim F) (c_runs_Index_Give (da x) start n k) := by
  refine T_of (runs_Index_Give_ok _ start n k) ?_
  have hB := ok.big
  unfold da
  (repeat' (first | with_reducible refine T_nn ?_ | with_reducible refine T_brT ?_ | with_reducible refine T_brD (fun _ => ?_) (fun _ => ?_)))
  · exact hbad (by omega)
  · exact hbad (by omega)
  refine Idx_open fun r1 r2 E hE => ?_
  (repeat' (first | with_reducible refine T_nn ?_ | with_reducible refine T_brT ?_ | ((with_reducible apply T_ldI); (focus rfl); (focus exact hasA); (focus rfl)) | with_reducible refine T_brD (fun _ => ?_) (fun _ => ?_)))
  · exact Idx_close hE (hbad (by omega))
  · rename_i h; rw [w64 (by omega) (by omega)] at h; exact Idx_close hE (hbad (by omega))
  rename_i h3 h4
  rw [w64 (by omega) (by omega)] at h4
  have hbad := ()
  have e1 : 1 ≤ start := by omega
  have e2 : 1 ≤ n := by omega
  have e3 : start + n ≤ lim := by omega
  refine Idx_close hE ?_
  clear hE E r1 r2
  (dsimp only [runs_Index_Give, Zcy0, Zcy1, Zcy2, Zcy3, Zcy4, Zcy5, Zcy6, Zcy7, Zcy8, Zcy9, Zcy10, Zcy11, Zcy12, Zcy13, Zcy14, Zcy15, Zcy16, Zcy17, Zcy18, Zcy19])
  rw [w64 (n := start + n) (by omega) (by omega)]
  refine T_lpX (fun _ _ => R * Idx x lim F) (fun m (s : Int × Unit) => start ≤ s.1 ∧ s.1 ≤ start + n ∧ m = (start + n - s.1).toNat ∧ ∀ b, start ≤ b → b < s.1 → ¬ InR F b) (start + n - start).toNat rfl ⟨by simp, by simp only; omega, rfl, fun b h1 h2 => by simp only at h2; omega⟩ ?_
  rintro m ⟨s1, u⟩ cc ⟨g1, g2, g3, g4⟩ hc
  simp only at g1 g2 g3 g4 ⊢
  (repeat' (first | with_reducible refine T_nn ?_ | with_reducible refine T_brD (fun _ => ?_) (fun _ => ?_)))
  · refine runs_Has_c ok (fun hin => ?_) (fun hin => ?_)
    · (repeat' (with_reducible refine T_brT ?_))
      exact htw e1 e2 e3 ⟨s1, g1, by omega, hin⟩
    · (repeat' (with_reducible refine T_brF ?_))
      rw [w64 (by omega) (by omega)]
      refine hc (start + n - (s1 + 1)).toNat (s1 + 1, ()) (by omega) ⟨by simp only; omega, by simp only; omega, rfl, fun b h1 h2 => ?_⟩
      by_cases e : b = s1
      · rw [e]; exact hin
      · exact g4 b h1 (by simp only at h2; omega)
  · have hs : s1 = start + n := by omega
    subst hs
    have hout := g4
    have hk := hk e1 e2 e3 hout
    clear hc htw g1 g2 g3 g4
    -- the end: what lies behind is joined, and all is one run
    have fin : ∀ G S N, RunsOk lim G → 1 ≤ S → 1 ≤ N → S + N ≤ lim → (∀ s m, G s = some m → s + m < S ∨ S + N ≤ s) → (∀ y, InR G y ∨ (S ≤ y ∧ y < S + N) ↔ InR F y ∨ (start ≤ y ∧ y < start + n)) →
        T B (R * Idx x lim G) (nn (some ⟨x, 0, none⟩) fun x73 => ldM (Addr.add x73 0) fun x75 => lkE Tryz.prog 3 (.int .i64 0) (.sc (.int .i64)) x75 (.int .i64 (S + N)) fun r ob x79 ok =>
          brK ok (c_runs_Index_drop (some ⟨x, 0, none⟩) (S + N) fun x87 => c_runs_Index_add (some ⟨x, 0, none⟩) S (IntKind.wrap .i64 (N + x79)) fun x94 => k 0) (c_runs_Index_add (some ⟨x, 0, none⟩) S N fun x94 => k 0)) := by
      intro G S N okG q1 q2 q3 q4 q5
      refine Idx_open fun r1 r2 E hE => ?_
      (repeat (first | with_reducible refine T_nn ?_ | ((with_reducible apply T_ldM); (focus rfl); (focus exact hasA); (focus rfl))))
      cases hg : G (S + N) with
      | none =>
        refine T_lkF (ek := ei) (ev := ei) kd_ii (r := r1) (f := G) (MHas.init (MHas.init (MHas.of .last))) 0 (by rw [hg]; rfl) fun ob => ?_
        rw [hg]
        simp only [Option.isSome_none]
        (repeat (with_reducible refine T_brF ?_))
        refine Idx_close hE ?_
        have q4' : ∀ s m, G s = some m → s + m < S ∨ S + N < s := by
          intro s m hs
          rcases q4 s m hs with h | h
          · exact .inl h
          · right
            rcases Int.lt_or_eq_of_le h with h | h
            · exact h
            · rw [← h, hg] at hs; cases hs
        obtain ⟨a1, a2, a3⟩ := okG.add q1 q2 q3 q4'
        refine runs_add_c a1 (fun s m hs => ?_) (by omega) (hk _ a2 fun y => (a3 y).trans (q5 y))
        have := q4' s m hs; have := okG.rng s m hs; omega
      | some q =>
        refine T_lkF (ek := ei) (ev := ei) kd_ii (r := r1) (f := G) (MHas.init (MHas.init (MHas.of .last))) q (by rw [hg]; rfl) fun ob => ?_
        rw [hg]
        simp only [Option.isSome_some]
        (repeat (with_reducible refine T_brT ?_))
        have hq := okG.rng _ _ hg
        refine Idx_close hE ?_
        refine runs_drop_c hg (by omega) ?_
        rw [w64 (by omega) (by omega)]
        have q4' : ∀ s m, delF G (S + N) s = some m → s + m < S ∨ S + (N + q) < s := by
          intro s m hs
          obtain ⟨hne, hs⟩ := delF_some hs
          rcases q4 s m hs with h | h
          · exact .inl h
          · right
            have := okG.sep _ _ _ _ hg hs (by omega); omega
        obtain ⟨a1, a2, a3⟩ := (okG.del (S + N)).add q1 (by omega) (by omega) q4'
        refine runs_add_c a1 (fun s m hs => ?_) (by omega) (hk _ a2 fun y => (a3 y).trans ?_)
        · have := q4' s m hs; have := (okG.del (S + N)).rng s m hs; omega
        · rw [← q5, InR_del okG hg]
          constructor
          · rintro (h | h)
            · exact .inl (.inl h)
            · by_cases hy : y < S + N
              · right; omega
              · left; right; omega
          · rintro ((h | h) | h)
            · exact .inl h
            · right; omega
            · right; omega
    refine Idx_open fun r1 r2 E hE => ?_
    (repeat (((with_reducible apply T_ldM); (focus rfl); (focus exact hasA); (focus rfl))))
    have apart : ∀ s m, F s = some m → s + m ≤ start ∨ start + n ≤ s := by
      intro s m hs
      have hr := ok.rng s m hs
      by_cases h1 : s + m ≤ start
      · exact .inl h1
      · by_cases h2 : start + n ≤ s
        · exact .inr h2
        · exfalso
          by_cases h3 : s ≤ start
          · exact hout start (by omega) (by omega) ⟨s, m, hs, h3, by omega⟩
          · exact hout s (by omega) (by omega) ⟨s, m, hs, by omega, by omega⟩
    cases he : E start with
    | none =>
      refine T_lkF (ek := ei) (ev := ei) kd_ii (r := r2) (f := E) (MHas.init (MHas.of .last)) 0 (by rw [he]; rfl) fun ob => ?_
      rw [he]
      simp only [Option.isSome_none]
      refine T_brF ?_
      refine Idx_close hE ?_
      refine fin F start n ok e1 e2 e3 (fun s m hs => ?_) (fun y => Iff.rfl)
      rcases apart s m hs with h | h
      · left
        rcases Int.lt_or_eq_of_le h with h | h
        · exact h
        · have := (hE start s).2 ⟨m, hs, h.symm⟩; rw [he] at this; cases this
      · exact .inr h
    | some s0 =>
      refine T_lkF (ek := ei) (ev := ei) kd_ii (r := r2) (f := E) (MHas.init (MHas.of .last)) s0 (by rw [he]; rfl) fun ob => ?_
      rw [he]
      simp only [Option.isSome_some]
      obtain ⟨n0, hf, hst⟩ := (hE start s0).1 he
      have hr := ok.rng _ _ hf
      (repeat (first | with_reducible refine T_nn ?_ | with_reducible refine T_brT ?_ | ((with_reducible apply T_ldM); (focus rfl); (focus exact hasA); (focus rfl))))
      refine T_lkF (ek := ei) (ev := ei) kd_ii (r := r1) (f := F) (MHas.init (MHas.init (MHas.of .last))) n0 (by rw [hf]; rfl) fun ob => ?_
      refine Idx_close hE ?_
      refine runs_drop_c hf (by omega) ?_
      rw [w64 (n := n + n0) (by omega) (by omega), w64 (n := s0 + (n + n0)) (by omega) (by omega)]
      refine fin (delF F s0) s0 (n + n0) (ok.del s0) (by omega) (by omega) (by omega) (fun s m hs => ?_) (fun y => ?_)
      · obtain ⟨hne, hs⟩ := delF_some hs
        rcases apart s m hs with h | h
        · left
          rcases Int.lt_or_gt_of_ne hne with g | g
          · exact ok.sep _ _ _ _ hs hf g
          · have := ok.sep _ _ _ _ hf hs g; have := ok.rng _ _ hs; omega
        · right; omega
      · rw [InR_del ok hf]
        constructor
        · rintro (h | h)
          · exact .inl (.inl h)
          · by_cases hy : y < start
            · left; right; omega
            · right; omega
        · rintro ((h | h) | h)
          · exact .inl h
          · right; omega
          · right; omega
end
def sumI : List (Int × Int) → Int | [] => 0 | p :: l => p.2 + sumI l
structure Sub (F : RF) (sn : List (Int × Int)) : Prop where
  nd : (sn.map (·.1)).Nodup
  mem : ∀ p ∈ sn, F p.1 = some p.2
theorem Sub.cons {F : RF} {sn : List (Int × Int)} (h : Sub F sn) {key v : Int} (hf : F key = some v) (hn : key ∉ sn.map (·.1)) : Sub F ((key, v) :: sn) :=
  ⟨by rw [List.map_cons, List.nodup_cons]; exact ⟨hn, h.nd⟩, fun p hp => by
    rcases List.mem_cons.1 hp with rfl | hp
    · exact hf
    · exact h.mem p hp⟩
theorem Sub.len {lim : Int} {F : RF} (ok : RunsOk lim F) {sn : List (Int × Int)} (h : Sub F sn) : (sn.length : Int) ≤ 2 ^ 20 := by
  have hB := ok.big
  have h1 : ((sn.map (·.1)).map Int.toNat).Nodup := by
    refine List.Pairwise.map _ (fun a b hab => ?_) (List.Pairwise.and_mem.1 h.nd)
    obtain ⟨ha, hb, hab⟩ := hab
    obtain ⟨p, hp, rfl⟩ := List.mem_map.1 ha
    obtain ⟨q, hq, rfl⟩ := List.mem_map.1 hb
    have := ok.rng _ _ (h.mem p hp)
    have := ok.rng _ _ (h.mem q hq)
    omega
  have := nodup_lt_len (2 ^ 20) _ h1 (fun x hx => by
    obtain ⟨a, ha, rfl⟩ := List.mem_map.1 hx
    obtain ⟨p, hp, rfl⟩ := List.mem_map.1 ha
    have := ok.rng _ _ (h.mem p hp)
    omega)
  simp only [List.length_map] at this
  omega
theorem Sub.sum {lim : Int} {F : RF} (ok : RunsOk lim F) {sn : List (Int × Int)} (h : Sub F sn) : 0 ≤ sumI sn ∧ sumI sn ≤ sn.length * 2 ^ 20 := by
  have hB := ok.big
  obtain ⟨h1, h2⟩ := h
  clear h1
  induction sn with
  | nil => simp [sumI]
  | cons p sn ih =>
    have := ih fun q hq => h2 q (by simp [hq])
    have := ok.rng _ _ (h2 p (by simp))
    simp only [sumI, List.length_cons]
    omega
section
variable {B : World} {P R : SL} {t : K}
theorem runs_Fill_c {lim : Int} (hlim : 0 ≤ lim) (hlim2 : lim ≤ 2 ^ 20) {s : Sl} {l : List (Int × Int)} (hr : Rd R s 2 (prs l)) (hl : l.length ≤ 2 ^ 30) (h1 : ∀ p ∈ l, 1 ≤ p.1 ∧ 1 ≤ p.2 ∧ p.1 + p.2 ≤ lim)
    (h2 : ∀ (i j : Nat) (p q : Int × Int), i < j → l[i]? = some p → l[j]? = some q → p.1 + p.2 ≤ q.1) {k : Option Addr × Int → K}
    (hk : ∀ x F, RunsOk lim F → (∀ y, InR F y ↔ ∃ p ∈ l, p.1 ≤ y ∧ y < p.1 + p.2) → T B (R * Idx x lim F) (k (da x, 0))) : T B R (c_runs_Fill lim s k) := by
  refine T_of (runs_Fill_ok lim s k) ?_
  refine T_rdlen hr fun hsn => ?_
  rw [prs_len] at hsn
  have hsl : s.n = l.length := by omega
  refine runs_New_c hlim fun x => ?_
  (dsimp only [runs_Fill, Zdk0, Zdk1, Zdk2, Zdk3, Zdk4, Zdk5, Zdk6, Zdk7, Zdk8, Zdk9, Zdk10])
  refine T_lpW (fun _ z => ex fun F => R * Idx x lim F * pu (RunsOk lim F ∧ ∀ y, InR F y ↔ ∃ p ∈ l.take z.1.toNat, p.1 ≤ y ∧ y < p.1 + p.2)) (fun m (z : Int × Unit) => ∃ i : Nat, z.1 = i ∧ i ≤ l.length ∧ m = l.length - i) l.length (fun t ht => ?_) ⟨0, rfl, by omega, rfl⟩ ?_
  · intro w hw
    have h3 := Sat.puI (φ := RunsOk lim (fun _ => none) ∧ ∀ y, InR (fun _ => none) y ↔ ∃ p ∈ l.take (0 : Int).toNat, p.1 ≤ y ∧ y < p.1 + p.2) ⟨⟨hlim2, by simp, by simp⟩, fun y => by simp [InR]⟩ hw
    obtain ⟨⟨g, hg, hgb⟩, hkk⟩ := h3
    exact ht w ⟨⟨g, ⟨_, hg⟩, hgb⟩, hkk⟩
  rintro m ⟨z, u⟩ cc ⟨i, e1, e2, e3⟩ hc
  simp only at e1
  subst e1 e3
  simp only [Int.toNat_natCast]
  have key : ∀ F, RunsOk lim F → (∀ y, InR F y ↔ ∃ p ∈ l.take i, p.1 ≤ y ∧ y < p.1 + p.2) → T B (R * Idx x lim F) (brK (decide ((i : Int) < ((s.n : Nat) : Int))) (ixS s.p s.n i 2 fun x16 =>
      ldI .i64 (Addr.add x16 0) fun x17_0 => ldI .i64 (Addr.add x16 1) fun x17_1 => alK (.cells #[.int .i64 0, .int .i64 0] 152) fun b => stK (Addr.add ⟨b, 0, none⟩ 0) (.int .i64 x17_0) <| stK (Addr.add ⟨b, 0, none⟩ 1) (.int .i64 x17_1) <|
      ldI .i64 (Addr.add ⟨b, 0, none⟩ 0) fun x20 => ldI .i64 (Addr.add ⟨b, 0, none⟩ 1) fun x22 => c_runs_Index_Give (some ⟨x, 0, none⟩) x20 x22 fun x23 => brK (x23 != 0) (k (none, x23)) (cc (IntKind.wrap .i64 ((i : Int) + 1), ()))) (k (some ⟨x, 0, none⟩, 0))) := by
    intro F ok hF
    (repeat' (with_reducible refine T_brD (fun _ => ?_) (fun _ => ?_)))
    · have hlt : i < l.length := by omega
      refine T_ixP hr.init (by omega) (by rw [Int.toNat_natCast]; exact hlt) fun a ha => ?_
      simp only [Int.toNat_natCast] at ha
      refine T_ldAt ha rfl ?_
      refine T_ldAt ha rfl ?_
      (repeat (first | ((with_reducible apply T_ldI); (focus rfl); (focus exact hasA); (focus rfl)) | (with_reducible refine T_al ?_; intro _) | ((with_reducible apply T_st); (focus rfl); (focus exact updA); (focus simp); simp only [List.set, Nat.zero_add, Nat.reduceAdd])))
      rename_i b
      refine T_drop1 .last ?_
      have hp := h1 l[i] (List.getElem_mem hlt)
      refine runs_Give_c ok (by omega) (fun h => absurd hp h) (fun _ _ _ h => ?_) (fun _ _ _ _ F' ok' hF' => ?_)
      · exfalso
        obtain ⟨y, g1, g2, g3⟩ := h
        obtain ⟨p, hp2, g4, g5⟩ := (hF y).1 g3
        obtain ⟨j, hj, rfl⟩ := List.mem_iff_getElem.1 hp2
        simp only [List.length_take] at hj
        rw [List.getElem_take] at g4 g5
        have := h2 j i l[j] l[i] (by omega) (List.getElem?_eq_getElem (by omega)) (List.getElem?_eq_getElem hlt)
        omega
      · skip
        have hx := hc (l.length - (i + 1)) (IntKind.wrap .i64 ((i : Int) + 1), ()) (by omega) ⟨i + 1, w64 (by omega) (by omega), by omega, rfl⟩
        have e : (IntKind.wrap .i64 ((i : Int) + 1)).toNat = i + 1 := by rw [w64 (by omega) (by omega)]; omega
        simp only [e] at hx
        have hin : ∀ y, InR F' y ↔ ∃ p ∈ l.take (i + 1), p.1 ≤ y ∧ y < p.1 + p.2 := by
          intro y
          rw [hF', hF, List.take_succ_eq_append_getElem hlt]
          constructor
          · rintro (⟨p, hp, h⟩ | h)
            · exact ⟨p, List.mem_append.2 (.inl hp), h⟩
            · exact ⟨l[i], List.mem_append.2 (.inr (List.mem_singleton.2 rfl)), h⟩
          · rintro ⟨p, hp, h⟩
            rcases List.mem_append.1 hp with hp | hp
            · exact .inl ⟨p, hp, h⟩
            · simp only [List.mem_singleton] at hp; subst hp; exact .inr h
        intro w hw
        obtain ⟨⟨g, hg, hgb⟩, hkk⟩ := Sat.puI (φ := RunsOk lim F' ∧ ∀ y, InR F' y ↔ ∃ p ∈ l.take (i + 1), p.1 ≤ y ∧ y < p.1 + p.2) ⟨ok', hin⟩ hw
        exact T_brF hx w ⟨⟨g, ⟨F', hg⟩, hgb⟩, hkk⟩
    · have hi : i = l.length := by omega
      subst hi
      rw [List.take_length] at hF
      exact hk x F ok hF
  intro w hw
  obtain ⟨⟨g, ⟨F, hg⟩, hgb⟩, hkk⟩ := hw
  have k2 : T B (R * Idx x lim F * pu (RunsOk lim F ∧ ∀ y, InR F y ↔ ∃ p ∈ l.take i, p.1 ≤ y ∧ y < p.1 + p.2)) _ := T_pu fun h => key F h.1 h.2
  exact k2 w ⟨⟨g, hg, hgb⟩, hkk⟩
end
/-- a large object's headers stand from a block on -/
def WholeP (hs : List Hd) (b n : Nat) : Prop := 1 ≤ n ∧ b + n ≤ hs.length ∧ (hs.getD b (0, 0, 0)).1 = 2 ∧ (hs.getD b (0, 0, 0)).2.2 = n ∧ ∀ i : Nat, 1 ≤ i → i < n → hs.getD (b + i) (0, 0, 0) = (3, 0, (i : Int))
theorem WholeP.uniq {hs : List Hd} {b n n' : Nat} (h : WholeP hs b n) (h' : WholeP hs b n') : n = n' := by
  have := h.2.2.2.1
  have := h'.2.2.2.1
  omega
theorem getD_eq {α : Type} {l : List α} {i : Nat} (h : i < l.length) (d : α) : l.getD i d = l[i] := by
  rw [List.getD_eq_getElem?_getD, List.getElem?_eq_getElem h]; rfl
/-- headers of a large object of so many blocks -/
def runH (n : Nat) : List Hd := (List.range n).map fun (i : Nat) => if i = 0 then ((2, 0, (n : Int)) : Hd) else (3, 0, (i : Int))
theorem runH_len (n : Nat) : (runH n).length = n := by simp [runH]
theorem runH_get (n : Nat) {i : Nat} (h : i < n) : (runH n)[i]? = some (if i = 0 then (2, 0, (n : Int)) else (3, 0, (i : Int))) := by
  simp [runH, h]
theorem hds_drop (l : List Hd) (o : Nat) : (hds l).drop (o * 3) = hds (l.drop o) := by
  induction l generalizing o with
  | nil => simp [hds]
  | cons h l ih =>
    cases o with
    | zero => rfl
    | succ o => rw [List.drop_succ_cons, ← ih, hds_cons, show (o + 1) * 3 = o * 3 + 1 + 1 + 1 by omega]; rfl
theorem hds_take (l : List Hd) (o : Nat) : (hds l).take (o * 3) = hds (l.take o) := by
  induction l generalizing o with
  | nil => simp [hds]
  | cons h l ih =>
    cases o with
    | zero => simp [hds]
    | succ o => rw [List.take_succ_cons, hds_cons, hds_cons, ← ih, show (o + 1) * 3 = o * 3 + 1 + 1 + 1 by omega]; rfl
section
variable {B : World} {P R : SL} {t : K}
theorem bhead_Whole_c {hs : List Hd} {x : Sl} {b : Int} (hl2 : hs.length ≤ 2 ^ 30) (hb : -9223372036854775808 ≤ b ∧ b ≤ 9223372036854775807) (hx : Rd P x 3 (hds hs)) {k : Int × Bool → K}
    (h1 : ∀ bb n : Nat, b = bb → WholeP hs bb n → T B P (k ((n : Int), true))) (h0 : (∀ bb n : Nat, b = bb → ¬ WholeP hs bb n) → T B P (k (0, false))) : T B P (c_bhead_Whole x b k) := by
  refine T_of (bhead_Whole_ok x b k) ?_
  refine T_rdlen hx fun hxn => ?_
  rw [hds_len] at hxn
  have hxl : x.n = hs.length := by omega
  (repeat' (first | with_reducible refine T_brT ?_ | with_reducible refine T_brD (fun _ => ?_) (fun _ => ?_)))
  · refine h0 fun bb n e h => ?_; omega
  · refine h0 fun bb n e h => ?_; have := h.2.1; have := h.1; omega
  obtain ⟨bb, rfl⟩ := Int.eq_ofNat_of_zero_le (show 0 ≤ b by omega)
  have hlt : bb < hs.length := by omega
  refine T_ixH (l := hs) hx (by omega) (by rw [Int.toNat_natCast]; exact hlt) fun a ha => ?_
  simp only [Int.toNat_natCast] at ha
  refine T_ldAt ha rfl ?_
  (repeat' (with_reducible refine T_brNE (fun _ => ?_) (fun _ => ?_)))
  · rename_i hne
    refine h0 fun bb' n e h => ?_
    have : bb' = bb := by omega
    subst this
    have := h.2.2.1
    rw [getD_eq hlt] at this
    exact hne this
  rename_i hk2
  refine T_ixH (l := hs) hx (by omega) (by rw [Int.toNat_natCast]; exact hlt) fun a2 ha2 => ?_
  simp only [Int.toNat_natCast] at ha2
  refine T_ldAt ha2 rfl ?_
  have hno : ∀ m : Int, hs[bb].2.2 = m → (∀ n : Nat, m = n → ¬ WholeP hs bb n) → T B P (k (0, false)) := fun m hm h => h0 fun bb' n e hw => by
    have : bb' = bb := by omega
    subst this
    have := hw.2.2.2.1
    rw [getD_eq hlt] at this
    exact h n (by omega) hw
  (repeat' (first | with_reducible refine T_brT ?_ | with_reducible refine T_brD (fun _ => ?_) (fun _ => ?_)))
  · exact hno _ rfl fun n e hw => by have := hw.1; omega
  · rename_i hgt
    rw [w64 (by omega) (by omega)] at hgt
    exact hno _ rfl fun n e hw => by have := hw.2.1; omega
  rename_i hn1 hn2
  rw [w64 (by omega) (by omega)] at hn2
  obtain ⟨n, hn⟩ := Int.eq_ofNat_of_zero_le (show 0 ≤ hs[bb].2.2 by omega)
  (dsimp only [bhead_Whole, Zak0, Zak1, Zak2, Zak3, Zak4, Zak5, Zak6, Zak7, Zak8, Zak9, Zak10, Zak11, Zak12, Zak13])
  rw [hn]
  refine T_lpX (fun _ _ => P) (fun m (z : Int × Unit) => ∃ i : Nat, z.1 = i ∧ 1 ≤ i ∧ i ≤ n ∧ m = n - i ∧ ∀ j : Nat, 1 ≤ j → j < i → hs.getD (bb + j) (0, 0, 0) = (3, 0, (j : Int))) (n - 1) rfl ⟨1, rfl, by omega, by omega, rfl, fun j h1 h2 => by omega⟩ ?_
  rintro m ⟨z, u⟩ cc ⟨i, e1, e2, e3, e4, e5⟩ hc
  simp only at e1
  subst e1 e4
  (repeat' (with_reducible refine T_brD (fun _ => ?_) (fun _ => ?_)))
  · have hlt2 : bb + i < hs.length := by omega
    have ew : IntKind.wrap .i64 ((bb : Int) + i) = ((bb + i : Nat) : Int) := by rw [w64 (by omega) (by omega)]; omega
    rw [ew]
    refine T_ixH (l := hs) hx (by omega) (by rw [Int.toNat_natCast]; exact hlt2) fun a3 ha3 => ?_
    simp only [Int.toNat_natCast] at ha3
    refine T_ldAt ha3 rfl ?_
    refine T_ldAt ha3 rfl ?_
    refine T_ldAt ha3 rfl ?_
    by_cases hq : hs[bb + i] = (3, 0, (i : Int))
    · have : (!(hs[bb + i].1 == 3 && (hs[bb + i].2.1 == 0 && (hs[bb + i].2.2 == (i : Int) && true)))) = false := by rw [hq]; simp
      rw [this]
      (repeat (with_reducible refine T_brF ?_))
      rw [w64 (by omega) (by omega)]
      refine hc (n - (i + 1)) ((i : Int) + 1, ()) (by omega) ⟨i + 1, by simp, by omega, by omega, rfl, fun j g1 g2 => ?_⟩
      by_cases hj : j = i
      · subst hj; rw [getD_eq hlt2]; exact hq
      · exact e5 j g1 (by omega)
    · have : (!(hs[bb + i].1 == 3 && (hs[bb + i].2.1 == 0 && (hs[bb + i].2.2 == (i : Int) && true)))) = true := by
        cases hc2 : (hs[bb + i].1 == 3 && (hs[bb + i].2.1 == 0 && (hs[bb + i].2.2 == (i : Int) && true))) with
        | false => rfl
        | true =>
          simp only [Bool.and_eq_true, beq_iff_eq, Bool.and_true] at hc2
          exact absurd (Prod.ext hc2.1 (Prod.ext hc2.2.1 hc2.2.2)) hq
      rw [this]
      (repeat (with_reducible refine T_brT ?_))
      refine hno n hn fun n' e hw => ?_
      have := hw.2.2.2.2 i e2 (by omega)
      rw [getD_eq hlt2] at this
      exact hq this
  · have hi : i = n := by omega
    subst hi
    exact h1 bb i rfl ⟨by omega, by omega, by rw [getD_eq hlt]; exact hk2, by rw [getD_eq hlt]; exact hn, e5⟩
theorem bhead_Run_c {n : Nat} (hn : n ≤ 2 ^ 30) {k : Sl → K} (hk : ∀ s, T B (R * vec 143 3 s (hds (runH n))) (k s)) : T B R (c_bhead_Run n k) := by
  refine T_of (bhead_Run_ok _ k) ?_
  (dsimp only [bhead_Run, Zbb0, Zbb1, Zbb2, Zbb3, Zbb4, Zbb5, Zbb6, Zbb7, Zbb8, Zbb9, Zbb10])
  refine T_vecN (E := 143) (sz := 3) (s := ⟨none, 0, 0⟩) rfl rfl ?_
  have e0 : ∀ i : Nat, i ≤ n → (runH n).take i = (List.range i).map fun (i : Nat) => if i = 0 then ((2, 0, (n : Int)) : Hd) else (3, 0, (i : Int)) := by
    intro i hi
    unfold runH
    rw [← List.map_take, List.take_range, Nat.min_eq_left hi]
  refine T_lpX (fun _ s => R * vec 143 3 s.1 (hds ((runH n).take s.2.1.toNat))) (fun m (s : Sl × Int × Unit) => ∃ i : Nat, i ≤ n ∧ s.2.1 = i ∧ m = n - i) n rfl ⟨0, by omega, rfl, by omega⟩ ?_
  rintro m ⟨out, s1, u⟩ cc ⟨i, h1, h2, h3⟩ hc
  simp only at h2
  subst h2 h3
  simp only [Int.toNat_natCast]
  have hnext : ∀ s', i < n → T B (R * vec 143 3 s' (hds ((runH n).take i ++ [if i = 0 then ((2, 0, (n : Int)) : Hd) else (3, 0, (i : Int))]))) (cc (s', IntKind.wrap .i64 ((i : Int) + 1), ())) := by
    intro s' hlt
    have := hc (n - (i + 1)) (s', IntKind.wrap .i64 ((i : Int) + 1), ()) (by omega) ⟨i + 1, by omega, w64 (by omega) (by omega), rfl⟩
    have e : (IntKind.wrap .i64 ((i : Int) + 1)).toNat = i + 1 := by rw [w64 (by omega) (by omega)]; omega
    simp only [e] at this
    rw [e0 (i + 1) (by omega), List.range_succ, List.map_append, ← e0 i h1] at this
    exact this
  have hlen : (hds ((runH n).take i)).length / 3 + 1 ≤ 2 ^ 40 := by rw [hds_len]; simp [runH_len]; omega
  (repeat' (first | (with_reducible refine T_al ?_; intro _) | with_reducible refine T_brD (fun _ => ?_) (fun _ => ?_) | with_reducible refine T_brE (fun _ => ?_) (fun _ => ?_)))
  · rename_i b hlt heq
    have hi : i = 0 := by omega
    refine T_app1b (vs := hds ((runH n).take i)) (new := [.int .i64 2, .int .i64 0, .int .i64 n]) kd_hd rfl rfl hlen fun s' => ?_
    have := hnext s' (by omega)
    rw [hds_append, if_pos hi] at this
    exact this
  · rename_i b hlt hne
    have hi : i ≠ 0 := by omega
    refine T_app1b (vs := hds ((runH n).take i)) (new := [.int .i64 3, .int .i64 0, .int .i64 i]) kd_hd rfl rfl hlen fun s' => ?_
    have := hnext s' (by omega)
    rw [hds_append, if_neg hi] at this
    exact this
  · have hi : i = n := by omega
    subst hi
    rw [List.take_of_length_le (by rw [runH_len]; omega)]
    exact hk out
end
theorem splice_get? {α : Type} {l new : List α} {o : Nat} (h : o + new.length ≤ l.length) (i : Nat) : (splice l o new)[i]? = if o ≤ i ∧ i < o + new.length then new[i - o]? else l[i]? := by
  unfold splice
  have e1 : (l.take o).length = o := by simp; omega
  by_cases h1 : i < o
  · rw [if_neg (by omega), List.append_assoc, List.getElem?_append_left (by omega), List.getElem?_take_of_lt h1]
  · by_cases h2 : i < o + new.length
    · rw [if_pos ⟨by omega, h2⟩, List.append_assoc, List.getElem?_append_right (by omega), e1, List.getElem?_append_left (by omega)]
    · rw [if_neg (by omega), List.getElem?_append_right (by simp; omega), List.getElem?_drop]
      congr 1; simp; omega
theorem splice_getD {α : Type} {l new : List α} {o : Nat} (h : o + new.length ≤ l.length) (i : Nat) (d : α) : (splice l o new).getD i d = if o ≤ i ∧ i < o + new.length then new.getD (i - o) d else l.getD i d := by
  rw [List.getD_eq_getElem?_getD, splice_get? h]
  split <;> rw [List.getD_eq_getElem?_getD]
theorem splice_two {α : Type} {l xs : List α} {b : Nat} {x : α} (h : b + (xs.length + 1) ≤ l.length) : splice (splice l b [x]) (b + 1) xs = splice l b (x :: xs) := by
  have h1 : (splice l b [x]).length = l.length := splice_length (by simp; omega)
  apply List.ext_getElem?
  intro i
  rw [splice_get? (by rw [h1]; omega), splice_get? (by simp; omega), splice_get? (by simp; omega)]
  simp only [List.length_cons, List.length_nil]
  by_cases e : i = b
  · subst e; rw [if_neg (by omega), if_pos (by omega), if_pos (by omega)]; simp
  · by_cases e2 : b + 1 ≤ i ∧ i < b + 1 + xs.length
    · rw [if_pos e2, if_pos (by omega), show i - b = (i - (b + 1)) + 1 by omega, List.getElem?_cons_succ]
    · rw [if_neg e2, if_neg (by omega), if_neg (by omega)]
theorem splice_two' {α : Type} {l xs : List α} {b : Nat} {x : α} (h : b + (xs.length + 1) ≤ l.length) : splice (splice l (b + 1) xs) b [x] = splice l b (x :: xs) := by
  have h1 : (splice l (b + 1) xs).length = l.length := splice_length (by omega)
  apply List.ext_getElem?
  intro i
  rw [splice_get? (by rw [h1]; simp; omega), splice_get? (by omega), splice_get? (by simp; omega)]
  simp only [List.length_cons, List.length_nil]
  by_cases e : i = b
  · subst e; rw [if_pos (by omega), if_pos (by omega)]; simp
  · by_cases e2 : b + 1 ≤ i ∧ i < b + 1 + xs.length
    · rw [if_neg (by omega), if_pos e2, if_pos (by omega), show i - b = (i - (b + 1)) + 1 by omega, List.getElem?_cons_succ]
    · rw [if_neg (by omega), if_neg e2, if_neg (by omega)]
theorem wrH_two (xs : List Hd) (x : Hd) (c : List Int) (b : Nat) : wrH (wrH c (b + 1) xs) b [x] = wrH c b (x :: xs) := by
  show (wrH c (b + 1) xs).set (256 + b) (benc b x) = wrH (c.set (256 + b) (benc b x)) (b + 1) xs
  apply List.ext_getElem?
  intro i
  rw [List.getElem?_set, wrH_get, wrH_get, wrH_length, List.length_set, List.getElem?_set]
  by_cases e : 256 + b = i
  · subst e
    rw [if_pos rfl, if_pos rfl]
    by_cases h : 256 + b < c.length
    · rw [if_pos h, if_pos (by omega)]
    · rw [if_neg h, if_pos (by omega)]
  · rw [if_neg e, if_neg e]
structure Tie (g : Nat) (hs : List Hd) (F : RF) : Prop where
  ok : RunsOk g F
  len : hs.length = g
  two : 2 ≤ g
  fr : ∀ b : Int, InR F b ↔ 1 ≤ b ∧ b < g ∧ (hs.getD b.toNat (0, 0, 0)).1 = 0
theorem Tie.big {g : Nat} {hs : List Hd} {F : RF} (h : Tie g hs F) : g ≤ 2 ^ 20 := by have := h.ok.big; omega
theorem Tie.fr_of {g : Nat} {hs : List Hd} {F : RF} (h : Tie g hs F) {s q : Int} (hs' : F s = some q) : ∃ b : Nat, s = b ∧ 1 ≤ b ∧ 1 ≤ q ∧ s + q ≤ g := by
  have := h.ok.rng _ _ hs'
  exact ⟨s.toNat, by omega, by omega, by omega, by omega⟩
theorem Tie.take {g : Nat} {hs : List Hd} {F : RF} (h : Tie g hs F) {b : Nat} {q : Int} {xs : List Hd} (hf : F b = some q) (h1 : 1 ≤ xs.length) (h2 : (xs.length : Int) ≤ q) (h3 : ∀ x ∈ xs, x.1 ≠ 0) :
    Tie g (splice hs b xs) (takeF F b xs.length q) := by
  have hr := h.ok.rng _ _ hf
  have hl := h.len
  have hfit : b + xs.length ≤ hs.length := by omega
  refine ⟨h.ok.take hf (by omega) h2, by rw [splice_length hfit]; exact hl, h.two, fun y => ?_⟩
  rw [InR_take h.ok hf (by omega) h2, h.fr, splice_getD hfit]
  by_cases e : b ≤ y.toNat ∧ y.toNat < b + xs.length ∧ 0 ≤ y
  · rw [if_pos ⟨e.1, e.2.1⟩]
    have hm := h3 _ (getD_mem (d := (0, 0, 0)) (show y.toNat - b < xs.length by omega))
    constructor
    · rintro ⟨_, h⟩; omega
    · rintro ⟨_, _, h⟩; exact absurd h hm
  · constructor
    · rintro ⟨⟨a1, a2, a3⟩, _⟩; exact ⟨a1, a2, by rw [if_neg (by omega)]; exact a3⟩
    · rintro ⟨a1, a2, a3⟩; rw [if_neg (by omega)] at a3; exact ⟨⟨a1, a2, a3⟩, by omega⟩
theorem Tie.give {g : Nat} {hs : List Hd} {F F' : RF} (h : Tie g hs F) {b n : Nat} (hb : 1 ≤ b) (hn : b + n ≤ g) (ok : RunsOk g F') (hF : ∀ y, InR F' y ↔ InR F y ∨ ((b : Int) ≤ y ∧ y < b + n)) :
    Tie g (splice hs b (List.replicate n (0, 0, 0))) F' := by
  have hl := h.len
  have hfit : b + (List.replicate n ((0, 0, 0) : Hd)).length ≤ hs.length := by simp; omega
  refine ⟨ok, by rw [splice_length hfit]; exact hl, h.two, fun y => ?_⟩
  rw [hF, h.fr, splice_getD hfit, List.length_replicate]
  by_cases e : b ≤ y.toNat ∧ y.toNat < b + n ∧ 0 ≤ y
  · rw [if_pos ⟨e.1, e.2.1⟩]
    have : (List.replicate n ((0, 0, 0) : Hd)).getD (y.toNat - b) (0, 0, 0) = (0, 0, 0) := by rw [List.getD_eq_getElem?_getD, List.getElem?_replicate]; split <;> rfl
    rw [this]
    constructor
    · rintro (h | h)
      · exact ⟨h.1, h.2.1, rfl⟩
      · exact ⟨by omega, by omega, rfl⟩
    · intro _; right; omega
  · constructor
    · rintro (⟨a1, a2, a3⟩ | h)
      · exact ⟨a1, a2, by rw [if_neg (by omega)]; exact a3⟩
      · omega
    · rintro ⟨a1, a2, a3⟩; rw [if_neg (by omega)] at a3; exact .inl ⟨a1, a2, a3⟩
/-- the headers of blocks last as they are -/
def HLs (n : Nat) (c la : List Int) : Prop := ∀ i : Nat, 257 ≤ i → i < 256 + n / 64 → la[i]? = c[i]?
theorem HLs.put {n g b : Nat} {c la la' : List Int} {xs : List Hd} (hn : n = 64 * g) (h : HLs n c la) (hp : Pst n ((256 + (b : Int)) / 8).toNat (((256 + (b : Int)) + xs.length - 1) / 8 + 1).toNat (wrH c b xs) la la') : HLs n (wrH c b xs) la' := by
  intro i h1 h2
  have h0 := h i h1 h2
  have hl := hp.2 (i / 8) (by omega)
  have e : ∀ L : List Int, L[i]? = (ln L (i / 8))[i % 8]? := by
    intro L
    unfold ln
    rw [cut_get (by omega)]; congr 1; omega
  rw [e la', hl]
  split
  · exact (e _).symm
  · rw [← e la, h0, wrH_get, if_pos]
    omega
/-- a live device; what lasts is its headers, as they are -/
def LDx (d n : Nat) (c : List Int) : SL := ex fun la => LDev d n c la * pu (HLs n c la)
def Mg (m d g : Nat) (hs : List Hd) (F : RF) : SL := ex fun q : Nat × Nat => Tab q.1 d g hs * Idx q.2 g F * pt m (.cells [.pointer (da q.1), .pointer (da q.2), .int .i64 g].toArray 51) * pu (Tie g hs F)
section
variable {B : World} {P R : SL} {t : K}
theorem LDx_open {d n : Nat} {c : List Int} (h : ∀ la, HLs n c la → T B (R * LDev d n c la) t) : T B (R * LDx d n c) t := by
  refine T_ex fun la => ?_
  rw [← sep_assoc]
  exact T_pu fun hl => h la hl
theorem LDx_close {d n : Nat} {c la : List Int} (hl : HLs n c la) (h : T B (R * LDx d n c) t) : T B (R * LDev d n c la) t := by
  refine T_puI hl ?_
  rw [sep_assoc]
  exact T_exI la h
theorem Mg_open {m d g : Nat} {hs : List Hd} {F : RF} (h : ∀ a x, Tie g hs F → T B (R * Tab a d g hs * Idx x g F * pt m (.cells [.pointer (da a), .pointer (da x), .int .i64 g].toArray 51)) t) : T B (R * Mg m d g hs F) t := by
  refine T_ex fun q => ?_
  rw [← sep_assoc]
  refine T_pu fun ok => T.perm ?_ (h q.1 q.2 ok)
  simp only [sep_assoc]
theorem Mg_close {m d g a x : Nat} {hs : List Hd} {F : RF} (ok : Tie g hs F) (h : T B (R * Mg m d g hs F) t) : T B (R * Tab a d g hs * Idx x g F * pt m (.cells [.pointer (da a), .pointer (da x), .int .i64 g].toArray 51)) t := by
  have h2 := T_exI (B := B) (R := R) (t := t) (X := fun q : Nat × Nat => Tab q.1 d g hs * Idx q.2 g F * pt m (.cells [.pointer (da q.1), .pointer (da q.2), .int .i64 g].toArray 51) * pu (Tie g hs F)) (a, x) h
  rw [← sep_assoc] at h2
  refine T.perm ?_ (T_puI ok h2)
  simp only [sep_assoc]
theorem Mg_tie {m d g : Nat} {hs : List Hd} {F : RF} (h : Tie g hs F → T B (R * Mg m d g hs F) t) : T B (R * Mg m d g hs F) t := by
  refine Mg_open fun a x ok => Mg_close ok (h ok)
theorem bman_Geometry_c {m d g : Nat} {hs : List Hd} {F : RF} {k : Int → K} (hk : T B (R * Mg m d g hs F) (k (g : Int))) : T B (R * Mg m d g hs F) (c_bman_Manager_Geometry (da m) k) := by
  refine T_of (bman_Manager_Geometry_ok _ k) ?_
  refine Mg_open fun a x ok => ?_
  unfold da
  (repeat (first | with_reducible refine T_nn ?_ | ((with_reducible apply T_ldI); (focus rfl); (focus exact hasA); (focus rfl)) | (with_reducible refine T_al ?_; intro _) | ((with_reducible apply T_st); (focus rfl); (focus exact updA); (focus simp); simp only [List.set, Nat.zero_add, Nat.reduceAdd])))
  refine T.weak ?_
  exact Mg_close ok hk
theorem Mgd_close {m d n g a x : Nat} {hs : List Hd} {F : RF} {c la : List Int} (hla : HLs n c la) (ok : Tie g hs F) (h : T B (R * LDx d n c * Mg m d g hs F) t) : T B (R * LDev d n c la * Tab a d g hs * Idx x g F * pt m (.cells [.pointer (da a), .pointer (da x), .int .i64 g].toArray 51)) t := by
  have h2 : T B (R * Tab a d g hs * Idx x g F * pt m (.cells [.pointer (da a), .pointer (da x), .int .i64 g].toArray 51) * LDx d n c) t := T.perm (by ac_rfl) (Mg_close (a := a) (x := x) ok h)
  exact T.perm (by ac_rfl) (LDx_close (la := la) hla h2)
theorem bman_Small_c {m d n g : Nat} {hs : List Hd} {F : RF} {c : List Int} {kk : Int} (hn : n = 64 * g) (hkk : 0 ≤ kk ∧ kk < 32) {k : Int × Int → K}
    (h0 : (∀ s q, F s = some q → q < 1) → T B (R * LDx d n c * Mg m d g hs F) (k (0, 4)))
    (h1 : ∀ (b : Nat) (q : Int), F b = some q → 1 ≤ b → b < g → 1 ≤ q → T B (R * LDx d n (wrH c b [(1, kk, 0)]) * Mg m d g (splice hs b [(1, kk, 0)]) (takeF F b 1 q)) (k (b, 0))) :
    T B (R * LDx d n c * Mg m d g hs F) (c_bman_Manager_Small (da m) kk k) := by
  refine T_of (bman_Manager_Small_ok _ kk k) ?_
  refine Mg_open fun a x ok => ?_
  (repeat (first | ((with_reducible apply T_ldI); (focus rfl); (focus exact hasA); (focus rfl)) | (with_reducible refine T_al ?_; intro _) | ((with_reducible apply T_st); (focus rfl); (focus exact updA); (focus simp); simp only [List.set, Nat.zero_add, Nat.reduceAdd])))
  refine bhead_Right_c ?_
  have hr : hRight (1, kk, 0) := by unfold hRight; right; left; exact ⟨rfl, hkk.1, hkk.2, rfl⟩
  rw [decide_eq_true hr]
  unfold da
  simp only [Bool.not_true]
  (repeat (first | with_reducible refine T_nn ?_ | with_reducible refine T_brF ?_ | ((with_reducible apply T_ldP); (focus rfl); (focus exact hasA); (focus rfl))))
  rename_i b2
  refine T_bring (X := LDx d n c) (.init (.init (.init (.init .last)))) ?_
  refine LDx_open fun la hla => ?_
  refine T_bring (X := Idx x g F) (.init (.init (.init .last))) ?_
  have hg := ok.big
  have hg2 := ok.two
  refine runs_Take_c ok.ok (by omega) (fun hno => ?_) (fun s q hs1 hs2 hs3 => ?_)
  · (repeat' (first | with_reducible refine T_nn ?_ | with_reducible refine T_tick ?_ | ((with_reducible apply T_ldI); (focus rfl); (focus exact hasA); (focus rfl)) | ((with_reducible apply T_ldP); (focus rfl); (focus exact hasA); (focus rfl)) | (with_reducible refine T_al ?_; intro _) | with_reducible refine T_brNE (fun _ => ?_) (fun _ => ?_)))
    · refine T_drop1 (.init (.init .last)) ?_
      exact T.perm (by unfold da; ac_rfl) (Mgd_close (la := la) (a := a) (x := x) (R := R) hla ok (h0 hno))
    · rename_i h b1; exact absurd h (by decide)
  · obtain ⟨b, rfl, r1, r2, r3⟩ := ok.fr_of hs1
    (repeat' (first | with_reducible refine T_nn ?_ | with_reducible refine T_tick ?_ | ((with_reducible apply T_ldI); (focus rfl); (focus exact hasA); (focus rfl)) | ((with_reducible apply T_ldP); (focus rfl); (focus exact hasA); (focus rfl)) | (with_reducible refine T_al ?_; intro _) | with_reducible refine T_brNE (fun _ => ?_) (fun _ => ?_)))
    · rename_i h; exact absurd rfl h
    rename_i b1
    refine T_bring (X := LDev d n c la) (.init (.init .last)) ?_
    refine T_bring (X := Tab a d g hs) (.init (.init (.init (.init (.init .last))))) ?_
    refine blocks_Put_c (xs := [(1, kk, 0)]) ok.two ok.big hn ok.len r1 (by simp; omega) (by simp) (by simp [hr]) (Rd.one (n := 1) (c := 1) (l := [.int .i64 1, .int .i64 kk, .int .i64 0]) (by exact hasA) rfl (by omega)) fun la' hp => ?_
    (repeat' (with_reducible refine T_brNE (fun _ => ?_) (fun _ => ?_)))
    · rename_i h; exact absurd rfl h
    have ok' := ok.take (b := b) (xs := [(1, kk, 0)]) hs1 (by simp) (by simp; omega) (by simp)
    refine T_drop1 (.init (.init .last)) ?_
    refine T_drop1 (.init (.init (.init .last))) ?_
    exact T.perm (by unfold da; ac_rfl) (Mgd_close (la := la') (a := a) (x := x) (R := R) (hla.put hn hp) ok' (h1 b q hs1 r1 (by omega) r2))
end
theorem runH_cons {n : Nat} (h : 1 ≤ n) : runH n = (2, 0, (n : Int)) :: (runH n).drop 1 := by
  have h0 := runH_get n (i := 0) (by omega)
  rw [if_pos rfl] at h0
  have hl := runH_len n
  match hr : runH n, hl with
  | [], hl => simp at hl; omega
  | x :: xs, _ => rw [hr] at h0; simp only [List.getElem?_cons_zero, Option.some.injEq] at h0; rw [h0]; rfl
theorem runH_right {n : Nat} (h : n < 256) : ∀ x ∈ runH n, hRight x ∧ x.1 ≠ 0 := by
  intro x hx
  obtain ⟨i, hi, rfl⟩ := List.mem_iff_getElem.1 hx
  rw [runH_len] at hi
  have := runH_get n hi
  rw [List.getElem?_eq_getElem (by rw [runH_len]; exact hi)] at this
  simp only [Option.some.injEq] at this
  rw [this]
  split
  · refine ⟨.inr (.inr ⟨.inl rfl, rfl, ?_, ?_⟩), by simp⟩ <;> simp only <;> omega
  · refine ⟨.inr (.inr ⟨.inr rfl, rfl, ?_, ?_⟩), by simp⟩ <;> simp only <;> omega
section
variable {B : World} {P R : SL} {t : K}
theorem bman_Large_c {m d n g : Nat} {hs : List Hd} {F : RF} {c : List Int} {nn : Nat} (hn : n = 64 * g) (hnn : 1 ≤ nn ∧ nn < 256) {k : Int × Int → K}
    (h0 : (∀ s q, F s = some q → q < nn) → T B (R * LDx d n c * Mg m d g hs F) (k (0, 4)))
    (h1 : ∀ (b : Nat) (q : Int), F b = some q → nn ≤ q → (∀ s q', F s = some q' → nn ≤ q' → q < q' ∨ q = q' ∧ (b : Int) ≤ s) → 1 ≤ b → b + nn ≤ g →
      T B (R * LDx d n (wrH c b (runH nn)) * Mg m d g (splice hs b (runH nn)) (takeF F b nn q)) (k (b, 0))) :
    T B (R * LDx d n c * Mg m d g hs F) (c_bman_Manager_Large (da m) nn k) := by
  refine T_of (bman_Manager_Large_ok _ nn k) ?_
  refine Mg_open fun a x ok => ?_
  unfold da
  (repeat' (first | with_reducible refine T_nn ?_ | with_reducible refine T_brT ?_ | ((with_reducible apply T_ldP); (focus rfl); (focus exact hasA); (focus rfl)) | with_reducible refine T_brD (fun _ => ?_) (fun _ => ?_)))
  · exfalso; omega
  · exfalso; omega
  refine T_bring (X := LDx d n c) (.init (.init (.init .last))) ?_
  refine LDx_open fun la hla => ?_
  refine T_bring (X := Idx x g F) (.init (.init .last)) ?_
  have hg := ok.big
  have hg2 := ok.two
  have hl := ok.len
  refine runs_Take_c ok.ok (by omega) (fun hno => ?_) (fun s q hs1 hs2 hs3 => ?_)
  · (repeat' (with_reducible refine T_brNE (fun _ => ?_) (fun _ => ?_)))
    · exact T.perm (by unfold da; ac_rfl) (Mgd_close (la := la) (a := a) (x := x) (R := R) hla ok (h0 hno))
    · rename_i h; exact absurd h (by decide)
  · obtain ⟨b, rfl, r1, r2, r3⟩ := ok.fr_of hs1
    have hk := h1 b q hs1 hs2 hs3 r1 (by omega)
    have ok' := ok.take (b := b) (xs := runH nn) hs1 (by rw [runH_len]; omega) (by rw [runH_len]; omega) (fun x hx => (runH_right (by omega) x hx).2)
    rw [runH_len] at ok'
    have hrl := runH_len nn
    (repeat' (with_reducible refine T_brNE (fun _ => ?_) (fun _ => ?_)))
    · rename_i h; exact absurd rfl h
    refine bhead_Run_c (by omega) fun s => ?_
    -- the first one's header, behind the others'
    have fin : ∀ c1 la1 hs1, HLs n c1 la1 → hs1.length = g → wrH c1 b [(2, 0, (nn : Int))] = wrH c b (runH nn) → splice hs1 b [(2, 0, (nn : Int))] = splice hs b (runH nn) →
        T B (R * Tab a d g hs1 * pt m (.cells [.pointer (da a), .pointer (da x), .int .i64 g].toArray 51) * LDev d n c1 la1 * Idx x g (takeF F b nn q) * vec 143 3 s (hds (runH nn))) (ixS s.p s.n 0 3 fun x51 => ldI .i64 (x51.add 0) fun x52_0 => ldI .i64 (x51.add 1) fun x52_1 => ldI .i64 (x51.add 2) fun x52_2 =>
          alK (.cells #[.int .i64 x52_0, .int .i64 x52_1, .int .i64 x52_2] 143) fun b_1 => c_blocks_Table_Put (da a) b ⟨some ⟨b_1, 0, none⟩, 1, 1⟩ fun x54 => Zdb3 k b x54) := by
      intro c1 la1 hs1 hla1 e1 e2 e3
      refine T_ixH (l := runH nn) (Rd.vec (E := 143) (s := s) .last) (by omega) (by simp [hrl]; omega) fun y hy => ?_
      have e0 : (runH nn)[(0 : Int).toNat]'(by simp [hrl]; omega) = (2, 0, (nn : Int)) := by
        have := runH_get nn (i := 0) (by omega)
        rw [List.getElem?_eq_getElem (by omega)] at this
        simpa using this
      rw [e0] at hy
      refine T_ldAt hy rfl ?_
      refine T_ldAt hy rfl ?_
      refine T_ldAt hy rfl ?_
      (repeat ((with_reducible refine T_al ?_; intro _)))
      rename_i b1
      refine T_drop1 (.init .last) ?_
      refine T_bring (X := LDev d n c1 la1) (.init (.init .last)) ?_
      refine T_bring (X := Tab a d g hs1) (.init (.init (.init (.init .last)))) ?_
      refine blocks_Put_c (xs := [(2, 0, (nn : Int))]) ok.two ok.big hn e1 r1 (by simp; omega) (by simp) (fun h hh => by simp only [List.mem_singleton] at hh; subst hh; refine .inr (.inr ⟨.inl rfl, rfl, ?_, ?_⟩) <;> simp only <;> omega) (Rd.one (n := 1) (c := 1) (l := [.int .i64 2, .int .i64 0, .int .i64 nn]) (by exact hasA) rfl (by omega)) fun la' hp => ?_
      rw [e2, e3]
      (repeat' (with_reducible refine T_brNE (fun _ => ?_) (fun _ => ?_)))
      · rename_i h; exact absurd rfl h
      refine T_drop1 (.init (.init .last)) ?_
      exact T.perm (by unfold da; ac_rfl) (Mgd_close (la := la') (a := a) (x := x) (R := R) (e2 ▸ hla1.put hn hp) ok' hk)
    (repeat' (first | with_reducible refine T_nn ?_ | with_reducible refine T_tick ?_ | ((with_reducible apply T_ldP); (focus rfl); (focus exact hasA); (focus rfl)) | with_reducible refine T_brD (fun _ => ?_) (fun _ => ?_)))
    · rename_i hgt
      refine T_vlen (E := 143) (sz := 3) (s := s) (vs := hds (runH nn)) .last fun hsn => ?_
      rw [hds_len, hrl] at hsn
      have hsn' : s.n = nn := by omega
      refine T_lo (n := 1) (by omega) (by omega) ?_
      have ew : IntKind.wrap .i64 ((b : Int) + 1) = ((b + 1 : Nat) : Int) := by rw [w64 (by omega) (by omega)]; omega
      rw [ew]
      refine T_bring (X := LDev d n c la) (.init (.init .last)) ?_
      refine T_bring (X := Tab a d g hs) (.init (.init (.init (.init .last)))) ?_
      have hdl : ((runH nn).drop 1).length = nn - 1 := by simp [hrl]
      have hpc : Rd (R * pt m (.cells [.pointer (da a), .pointer (da x), .int .i64 g].toArray 51) * Idx x g (takeF F b nn q) * vec 143 3 s (hds (runH nn))) ⟨cutP s.p (1 : Int).toNat s.c 3, s.n - (1 : Int).toNat, s.c - (1 : Int).toNat⟩ 3 (hds ((runH nn).drop 1)) := by
        have := (Rd.vec (E := 143) (sz := 3) (s := s) (vs := hds (runH nn)) (P := R * pt m (.cells [.pointer (da a), .pointer (da x), .int .i64 g].toArray 51) * Idx x g (takeF F b nn q) * vec 143 3 s (hds (runH nn))) .last).piece (y := ⟨cutP s.p (1 : Int).toNat s.c 3, s.n - (1 : Int).toNat, s.c - (1 : Int).toNat⟩) (o := 1) (n := nn - 1) (by omega) (by rw [hds_len, hrl]; omega) rfl (by simp only; omega) rfl
        have e : cut (hds (runH nn)) (1 * 3) ((nn - 1) * 3) = hds ((runH nn).drop 1) := by
          unfold cut
          rw [hds_drop, hds_take, List.take_of_length_le (by omega)]
        rw [e] at this; exact this
      refine blocks_Put_c (xs := (runH nn).drop 1) ok.two ok.big hn hl (by omega) (by omega) (fun h => by rw [h] at hdl; simp at hdl; omega) (fun h hh => (runH_right hnn.2 h (List.mem_of_mem_drop hh)).1) hpc fun la' hp => ?_
      (repeat' (first | with_reducible refine T_nn ?_ | with_reducible refine T_tick ?_ | ((with_reducible apply T_ldP); (focus rfl); (focus exact hasA); (focus rfl)) | with_reducible refine T_brNE (fun _ => ?_) (fun _ => ?_)))
      · rename_i h; exact absurd rfl h
      have e1 : (splice hs (b + 1) ((runH nn).drop 1)).length = g := by rw [splice_length (by omega)]; exact hl
      have := fin (wrH c (b + 1) ((runH nn).drop 1)) la' (splice hs (b + 1) ((runH nn).drop 1)) (hla.put hn hp) e1 (by rw [wrH_two, ← runH_cons hnn.1]) (by rw [splice_two' (by omega), ← runH_cons hnn.1])
      refine T.perm ?_ this
      unfold da; ac_rfl
    · rename_i hle
      have h1n : nn = 1 := by omega
      have hd : (runH nn).drop 1 = [] := by rw [List.drop_eq_nil_iff]; omega
      have e : runH nn = [(2, 0, (nn : Int))] := by rw [runH_cons hnn.1, hd]
      exact fin c la hs hla hl (by rw [e]) (by rw [e])
end
/-- what may be given back: a block of small objects, or a large one whole -/
def Rel (hs : List Hd) (b n : Nat) : Prop := ((hs.getD b (0, 0, 0)).1 = 1 ∧ n = 1 ∧ b < hs.length) ∨ WholeP hs b n
theorem Rel.rng {hs : List Hd} {b n : Nat} (h : Rel hs b n) : 1 ≤ n ∧ b + n ≤ hs.length := by
  rcases h with ⟨_, h1, h2⟩ | h
  · omega
  · exact ⟨h.1, h.2.1⟩
theorem Rel.kind {hs : List Hd} {b n i : Nat} (h : Rel hs b n) (hi : i < n) : (hs.getD (b + i) (0, 0, 0)).1 ≠ 0 := by
  rcases h with ⟨h0, h1, h2⟩ | h
  · have : i = 0 := by omega
    subst this; rw [Nat.add_zero, h0]; omega
  · by_cases e : i = 0
    · subst e; rw [Nat.add_zero, h.2.2.1]; omega
    · rw [h.2.2.2.2 i (by omega) hi]; simp
theorem spS_free {g : Nat} (h : 2 ≤ g) : spS (List.replicate g (0, 0, 0)) g = [(1, (g : Int) - 1)] := by
  have key : ∀ b : Nat, 1 ≤ b → b < g → spS (List.replicate g (0, 0, 0)) (b + 1) = [(1, (b : Int))] := by
    intro b hb hlt
    induction b with
    | zero => omega
    | succ b ih =>
      rw [spS_succ _ hb]
      have e : (List.replicate g ((0, 0, 0) : Hd)).getD (b + 1) (0, 0, 0) = (0, 0, 0) := by rw [List.getD_eq_getElem?_getD, List.getElem?_replicate]; split <;> rfl
      rw [e]
      by_cases h0 : b = 0
      · subst h0; rfl
      · rw [ih (by omega) (by omega)]
        unfold spStep
        rw [if_neg (by simp), if_pos (by simp; omega)]
        simp
  have := key (g - 1) (by omega) (by omega)
  rw [show g - 1 + 1 = g by omega] at this
  rw [this]
  congr 2; omega
section
variable {B : World} {P R : SL} {t : K}
theorem bman_Release_c {m d n g : Nat} {hs : List Hd} {F : RF} {c : List Int} {b nn : Nat} (hn : n = 64 * g) (hb : 1 ≤ b) (hr : Rel hs b nn) {k : Int → K}
    (hk : ∀ F', Tie g (splice hs b (List.replicate nn (0, 0, 0))) F' → T B (R * LDx d n (wrH c b (List.replicate nn (0, 0, 0))) * Mg m d g (splice hs b (List.replicate nn (0, 0, 0))) F') (k 0)) :
    T B (R * LDx d n c * Mg m d g hs F) (c_bman_Manager_Release (da m) b k) := by
  refine T_of (bman_Manager_Release_ok _ b k) ?_
  refine Mg_open fun a x ok => ?_
  have hg := ok.big
  have hg2 := ok.two
  have hl := ok.len
  have hrr := hr.rng
  have h0' : ∀ h ∈ List.replicate nn ((0, 0, 0) : Hd), hRight h := fun h hh => by rw [List.eq_of_mem_replicate hh]; exact .inl rfl
  unfold da
  (repeat' (first | with_reducible refine T_nn ?_ | ((with_reducible apply T_ldP); (focus rfl); (focus exact hasA); (focus rfl))))
  refine T_bring (X := LDx d n c) (.init (.init (.init .last))) ?_
  refine LDx_open fun la hla => ?_
  refine T_bring (X := Tab a d g hs) (.init (.init (.init .last))) ?_
  refine blocks_Get_c ?_
  rw [if_neg (by omega), Int.toNat_natCast]
  (repeat (first | ((with_reducible apply T_ldI); (focus rfl); (focus exact hasA); (focus rfl)) | (with_reducible refine T_al ?_; intro _) | ((with_reducible apply T_st); (focus rfl); (focus exact updA); (focus simp); simp only [List.set, Nat.zero_add, Nat.reduceAdd])))
  rename_i b2
  -- how many
  have key : T B (R * pt m (.cells [.pointer (da a), .pointer (da x), .int .i64 g].toArray 51) * Idx x g F * LDev d n c la * Tab a d g hs) (Zcm10 (some ⟨m, 0, none⟩) b k nn) := by
    unfold da
    (repeat (first | with_reducible refine T_nn ?_ | ((with_reducible apply T_ldP); (focus rfl); (focus exact hasA); (focus rfl)) | (with_reducible refine T_al ?_; intro _)))
    rename_i b1
    refine T_bring (X := LDev d n c la) (.init (.init .last)) ?_
    refine T_bring (X := Tab a d g hs) (.init (.init .last)) ?_
    refine blocks_Put_c (xs := [((0, 0, 0) : Hd)]) ok.two ok.big hn hl hb (by simp; omega) (by simp) (fun h hh => by simp only [List.mem_singleton] at hh; subst hh; exact .inl rfl) (Rd.one (n := 1) (c := 1) (l := [.int .i64 0, .int .i64 0, .int .i64 0]) (by exact hasA) rfl (by omega)) fun la' hp => ?_
    have giv : ∀ c1 la1 hs1, HLs n c1 la1 → wrH c b (List.replicate nn (0, 0, 0)) = c1 → splice hs b (List.replicate nn (0, 0, 0)) = hs1 → T B (R * pt m (.cells [.pointer (da a), .pointer (da x), .int .i64 g].toArray 51) * LDev d n c1 la1 * Tab a d g hs1 * Idx x g F) (c_runs_Index_Give (da x) b nn fun x55 => Zcm0 k x55) := by
      intro c1 la1 hs1 hla1 e1 e2
      subst e1 e2
      refine runs_Give_c ok.ok (by omega) (fun h => absurd ⟨by omega, by omega, by omega⟩ h) (fun _ _ _ h => ?_) (fun _ _ _ _ F' okF hF' => ?_)
      · exfalso
        obtain ⟨y, g1, g2, g3⟩ := h
        have := (ok.fr y).1 g3
        have h2 := hr.kind (i := y.toNat - b) (by omega)
        rw [show b + (y.toNat - b) = y.toNat by omega] at h2
        exact h2 this.2.2
      · have ok' := ok.give hb (by omega) okF hF'
        exact T.perm (by unfold da; ac_rfl) (Mgd_close (la := la1) (a := a) (x := x) (R := R) hla1 ok' (hk F' ok'))
    (repeat' (first | with_reducible refine T_nn ?_ | with_reducible refine T_tick ?_ | ((with_reducible apply T_ldP); (focus rfl); (focus exact hasA); (focus rfl)) | with_reducible refine T_brD (fun _ => ?_) (fun _ => ?_) | with_reducible refine T_brNE (fun _ => ?_) (fun _ => ?_)))
    · rename_i h; exact absurd rfl h
    · rename_i hgt
      have ew : IntKind.wrap .i64 ((nn : Int) - 1) = ((nn - 1 : Nat) : Int) := by rw [w64 (by omega) (by omega)]; omega
      have ew2 : IntKind.wrap .i64 ((b : Int) + 1) = ((b + 1 : Nat) : Int) := by rw [w64 (by omega) (by omega)]; omega
      refine T_drop1 (.init (.init .last)) ?_
      (dsimp only [bman_Manager_Release, Zcm0, Zcm1, Zcm2, Zcm3, Zcm4, Zcm5, Zcm6, Zcm7, Zcm8, Zcm9, Zcm10, Zcm11, Zcm12, Zcm13, Zcm14, Zcm15, Zcm16, Zcm17, Zcm18])
      rw [ew, ew2]
      refine T_mkV kd_hd (by omega) (by omega) (by omega) fun b3 => ?_
      rw [Int.toNat_natCast, repZ_hds]
      refine T_bring (X := LDev d n (wrH c b [(0, 0, 0)]) la') (.init (.init .last)) ?_
      refine T_bring (X := Tab a d g (splice hs b [(0, 0, 0)])) (.init (.init .last)) ?_
      have hl1 : (splice hs b [((0, 0, 0) : Hd)]).length = g := by rw [splice_length (by simp; omega)]; exact hl
      have erep : (0, 0, 0) :: List.replicate (nn - 1) ((0, 0, 0) : Hd) = List.replicate nn (0, 0, 0) := by rw [← List.replicate_succ]; congr 1; omega
      refine blocks_Put_c (xs := List.replicate (nn - 1) ((0, 0, 0) : Hd)) ok.two ok.big hn hl1 (by omega) (by simp; omega) (fun h => by have := congrArg List.length h; simp at this; omega) (fun h hh => by rw [List.eq_of_mem_replicate hh]; exact .inl rfl) (Rd.vec (E := 143) .last) fun la'' hp2 => ?_
      have h2 := giv (wrH (wrH c b [(0, 0, 0)]) (b + 1) (List.replicate (nn - 1) (0, 0, 0))) la'' (splice (splice hs b [(0, 0, 0)]) (b + 1) (List.replicate (nn - 1) (0, 0, 0))) ((hla.put hn hp).put hn hp2) (by rw [← erep]; rfl) (by rw [splice_two (by simp; omega), erep])
      (repeat' (first | with_reducible refine T_nn ?_ | ((with_reducible apply T_ldP); (focus rfl); (focus exact hasA); (focus rfl)) | with_reducible refine T_brNE (fun _ => ?_) (fun _ => ?_)))
      · rename_i h; exact absurd rfl h
      refine T_drop1 (.init (.init .last)) ?_
      exact T.perm (by unfold da; ac_rfl) h2
    · have h1n : nn = 1 := by omega
      have h2 := giv (wrH c b [(0, 0, 0)]) la' (splice hs b [(0, 0, 0)]) (hla.put hn hp) (by rw [h1n]; rfl) (by rw [h1n]; rfl)
      refine T_drop1 (.init (.init .last)) ?_
      exact T.perm (by unfold da; ac_rfl) h2
  (dsimp only [bman_Manager_Release, Zcm0, Zcm1, Zcm2, Zcm3, Zcm4, Zcm5, Zcm6, Zcm7, Zcm8, Zcm9, Zcm10, Zcm11, Zcm12, Zcm13, Zcm14, Zcm15, Zcm16, Zcm17, Zcm18] at key)
  rcases hr with ⟨q1, q2, q3⟩ | hw
  · rw [q1]
    subst q2
    skip
    (dsimp only [bman_Manager_Release, Zcm0, Zcm1, Zcm2, Zcm3, Zcm4, Zcm5, Zcm6, Zcm7, Zcm8, Zcm9, Zcm10, Zcm11, Zcm12, Zcm13, Zcm14, Zcm15, Zcm16, Zcm17, Zcm18])
    refine T_brE (fun _ => ?_) (fun h => absurd rfl h)
    refine T_drop1 .last ?_
    exact T.perm (by unfold da; ac_rfl) key
  · rw [hw.2.2.1, hw.2.2.2.1]
    skip
    (dsimp only [bman_Manager_Release, Zcm0, Zcm1, Zcm2, Zcm3, Zcm4, Zcm5, Zcm6, Zcm7, Zcm8, Zcm9, Zcm10, Zcm11, Zcm12, Zcm13, Zcm14, Zcm15, Zcm16, Zcm17, Zcm18])
    refine T_brE (fun h => absurd h (by decide)) (fun _ => ?_)
    refine T_brE (fun _ => ?_) (fun h => absurd rfl h)
    refine T_ldI (n := (nn : Int)) (by rw [add_mk]) .last rfl ?_
    refine T_drop1 .last ?_
    exact T.perm (by unfold da; ac_rfl) key
theorem bman_Sound_c {hs : List Hd} {x : Sl} (hl2 : hs.length ≤ 2 ^ 30) (hx : Rd P x 3 (hds hs)) (h0 : ∀ h ∈ hs, h.1 = 0 ∨ h.1 = 1) {k : Int × Bool → K} (hk : T B P (k (0, true))) : T B P (c_bman_Sound x k) := by
  refine T_of (bman_Sound_ok x k) ?_
  refine T_rdlen hx fun hxn => ?_
  rw [hds_len] at hxn
  have hxl : x.n = hs.length := by omega
  refine T_lpX (fun _ _ => P) (fun m (z : Int × Unit) => ∃ i : Nat, z.1 = i ∧ 1 ≤ i ∧ m = hs.length - i) (hs.length - 1) rfl ⟨1, rfl, by omega, rfl⟩ ?_
  rintro m ⟨z, u⟩ cc ⟨i, e1, e2, e3⟩ hc
  simp only at e1
  subst e1 e3
  (repeat' (with_reducible refine T_brD (fun _ => ?_) (fun _ => ?_)))
  · have hlt : i < hs.length := by omega
    refine T_ixH (l := hs) hx (by omega) (by rw [Int.toNat_natCast]; exact hlt) fun a ha => ?_
    simp only [Int.toNat_natCast] at ha
    have hki := h0 _ (List.getElem_mem hlt)
    refine T_ldAt ha rfl ?_
    (repeat' (with_reducible refine T_brE (fun _ => ?_) (fun _ => ?_)))
    · exfalso; omega
    · exfalso; omega
    · refine hc (hs.length - (i + 1)) _ (by omega) ⟨i + 1, w64 (by omega) (by omega), by omega, rfl⟩
  · exact hk
theorem bman_Open_c {d n g : Nat} {c : List Int} (hg : 2 ≤ g) (hg2 : g ≤ 2 ^ 20) (ht : Tells c (List.replicate g (0, 0, 0))) {k : Option Addr × Int → K}
    (hk : ∀ m F, T B (R * LDx d n c * Mg m d g (List.replicate g (0, 0, 0)) F) (k (da m, 0))) : T B (R * LDx d n c) (c_bman_Open (da d) g k) := by
  refine T_of (bman_Open_ok _ g k) ?_
  (repeat (first | ((with_reducible apply T_ldI); (focus rfl); (focus exact hasA); (focus rfl)) | (with_reducible refine T_al ?_; intro _)))
  refine T_bring (X := LDx d n c) (.init .last) ?_
  refine LDx_open fun la hla => ?_
  refine blocks_Open_c (by omega) hg2 (by simp) ht fun a => ?_
  (repeat' (with_reducible refine T_brNE (fun _ => ?_) (fun _ => ?_)))
  · rename_i h; exact absurd rfl h
  refine blocks_All_c (hs := List.replicate g (0, 0, 0)) (by simp; omega) fun s => ?_
  refine bman_Sound_c (hs := List.replicate g (0, 0, 0)) (by simp; omega) (Rd.vec (E := 143) (s := s) .last) (fun h hh => by rw [List.eq_of_mem_replicate hh]; exact .inl rfl) ?_
  (dsimp only [bman_Open, Zct0, Zct1, Zct2, Zct3, Zct4, Zct5, Zct6, Zct7, Zct8, Zct9, Zct10, Zct11, Zct12, Zct13])
  simp only [Bool.not_true]
  refine T_drop1 .last ?_
  (repeat (first | with_reducible refine T_tick ?_ | with_reducible refine T_brF ?_ | ((with_reducible apply T_ldI); (focus rfl); (focus exact hasA); (focus rfl))))
  refine blocks_TSpans_c (hs := List.replicate g (0, 0, 0)) (by simp; omega) (by simp; omega) fun s2 => ?_
  (repeat (first | with_reducible refine T_chk0 ?_ | ((with_reducible apply T_chk); (focus rfl); (focus exact hasA); (focus rfl))))
  rw [List.length_replicate, spS_free hg]
  refine runs_Fill_c (l := [(1, (g : Int) - 1)]) (by omega) (by omega) (Rd.vec (E := 152) (s := s2) .last) (by simp) (fun p hp => by simp only [List.mem_singleton] at hp; subst hp; simp only; omega)
    (fun i j p q hij hi hj => by
      have h1 := (List.getElem?_eq_some_iff.1 hj).1
      simp at h1; omega) fun x F ok hF => ?_
  (repeat' (first | ((with_reducible apply T_ldI); (focus rfl); (focus exact hasA); (focus rfl)) | (with_reducible refine T_al ?_; intro _) | with_reducible refine T_brNE (fun _ => ?_) (fun _ => ?_)))
  · rename_i h; exact absurd rfl h
  rename_i m
  have tie : Tie g (List.replicate g (0, 0, 0)) F := ⟨ok, by simp, hg, fun y => by
    rw [hF]
    have : (List.replicate g ((0, 0, 0) : Hd)).getD y.toNat (0, 0, 0) = (0, 0, 0) := by rw [List.getD_eq_getElem?_getD, List.getElem?_replicate]; split <;> rfl
    rw [this]
    simp only [List.mem_singleton, exists_eq_left]
    constructor
    · intro h; exact ⟨by omega, by omega, trivial⟩
    · intro h; exact ⟨by omega, by omega⟩⟩
  refine T_drop1 (.init (.init .last)) ?_
  refine T_drop1 (.init (.init (.init (.init .last)))) ?_
  exact T.perm (by ac_rfl) (Mgd_close (la := la) (a := a) (x := x) (R := R) hla tie (hk m F))
end
abbrev SlotK := Int × Int
def eslot (p : SlotK) : Value := .agg #[.int .i64 p.1, .int .i64 p.2]
def esl (s : Sl) : Value := s.v
def nilS : Sl := ⟨none, 0, 0⟩
theorem kd_slot : KeyD (α := SlotK) Tryz.prog 197 201 27 eslot := by
  refine ⟨by kernel_rfl, fun a b => ?_, fun a => by kernel_rfl, fun a b h => ?_, fun a => ?_⟩
  · have : keyEq Tryz.prog 201 (eslot a) (eslot b) = some ((a.1 == b.1) && ((a.2 == b.2) && true)) := by kernel_rfl
    rw [this, Bool.and_true]
    congr 1
    rw [Bool.eq_iff_iff]
    simp only [Bool.and_eq_true, beq_iff_eq, decide_eq_true_eq]
    exact ⟨fun h => Prod.ext h.1 h.2, fun h => by rw [h]; exact ⟨rfl, rfl⟩⟩
  · unfold eslot at h
    simp only [Value.agg.injEq, Array.mk.injEq, List.cons.injEq, Value.int.injEq, true_and, and_true] at h
    exact Prod.ext h.1 h.2
  · show ((2 : Nat) == 2 && _) = true
    simp [Instr.sameBits]
def ix (m k : Nat) : Nat := 32 + (32 * m + k)
structure FlOk (S : Nat → Sl) (cs : SlotK → Option Sl) : Prop where
  eq : ∀ m k : Nat, m < 4 → k < 32 → (cs ((m : Int), (k : Int))).getD nilS = S (ix m k)
def vI (S : Nat → Sl) (L : Nat → List Int) (i : Nat) : SL := vec 3 1 (S i) (ints (L i))
def glob (S : Nat → Sl) : List Value := (List.range 32).map fun k => (S k).v
def Fl (a : Nat) (L : Nat → List Int) : SL := ex fun q : (Nat → Sl) × (SlotK → Option Sl) × Nat => pt a (.cells (glob q.1 ++ [Value.map (some q.2.2)]).toArray 199) * MpF eslot esl q.2.2 q.2.1 * bigS 160 (vI q.1 L) * pu (FlOk q.1 q.2.1)
def setN {α : Type} (f : Nat → α) (i : Nat) (x : α) : Nat → α := fun j => if j = i then x else f j
theorem setN_same {α : Type} (f : Nat → α) (i : Nat) (x : α) : setN f i x i = x := if_pos rfl
theorem setN_ne {α : Type} (f : Nat → α) {i j : Nat} (x : α) (h : j ≠ i) : setN f i x j = f j := if_neg h
theorem glob_len (S : Nat → Sl) : (glob S).length = 32 := by simp [glob]
theorem glob_at (S : Nat → Sl) (t : List Value) {k : Nat} (h : k < 32) : (glob S ++ t)[k]? = some (S k).v := by
  rw [List.getElem?_append_left (by rw [glob_len]; exact h)]
  simp [glob, h]
theorem glob_map (S : Nat → Sl) (v : Value) : (glob S ++ [v])[32]? = some v := by
  rw [List.getElem?_append_right (by rw [glob_len]; omega), glob_len]; rfl
theorem glob_set (S : Nat → Sl) (t : List Value) {k : Nat} (h : k < 32) (s : Sl) : (glob S ++ t).set k s.v = glob (setN S k s) ++ t := by
  rw [List.set_append_left _ _ (by rw [glob_len]; exact h)]
  congr 1
  apply List.ext_getElem?
  intro i
  rw [List.getElem?_set, glob_len]
  simp only [glob, List.getElem?_map, List.getElem?_range, List.length_map, List.length_range]
  by_cases e : k = i
  · subst e
    rw [if_pos rfl, if_pos h, List.getElem?_range h]; simp [setN]
  · rw [if_neg e]
    by_cases h2 : i < 32
    · rw [List.getElem?_range h2]; simp [setN, Ne.symm e]
    · rw [List.getElem?_eq_none (by simp; omega)]; rfl
theorem glob_setN (S : Nat → Sl) {k : Nat} (h : 32 ≤ k) (s : Sl) : glob (setN S k s) = glob S := by
  unfold glob
  refine List.map_congr_left fun i hi => ?_
  rw [setN_ne]
  have := List.mem_range.1 hi; omega
section
variable {B : World} {P R : SL} {t : K}
theorem clone_int_c {s : Sl} {l : List Int} (hl : l.length ≤ 2 ^ 39) (h : Rd R s 1 (ints l)) {k : Sl → K} (hk : ∀ s', T B (R * vec 3 1 s' (ints l)) (k s')) : T B R (c_slices_Clone_Sint_int s k) := by
  refine T_of (slices_Clone_Sint_int_ok s k) ?_
  refine T_rdlen h fun hn => ?_
  rw [ints_len, Nat.mul_one] at hn
  refine T_rdp h fun hp => ?_
  refine T_br (fun e => ?_) (fun e => ?_)
  · have hl0 : ints l = [] := hp (by simpa using e)
    rw [hl0] at hk
    exact T_vecN rfl rfl (hk ⟨none, 0, 0⟩)
  · (repeat ((with_reducible refine T_al ?_; intro _)))
    rename_i b
    refine T_vecN (E := 3) (sz := 1) (s := ⟨some ⟨b, 0, none⟩, 0, 0⟩) rfl rfl ?_
    refine T_append (s := ⟨some ⟨b, 0, none⟩, 0, 0⟩) kd_int h.init (ints_scal l) (by simp; omega) fun s' => ?_
    exact T_dropM (hk s')
theorem Fl_open {a : Nat} {L : Nat → List Int} (h : ∀ S cs r, FlOk S cs → T B (R * MpF eslot esl r cs * bigS 160 (vI S L) * pt a (.cells (glob S ++ [Value.map (some r)]).toArray 199)) t) : T B (R * Fl a L) t := by
  refine T_ex fun q => ?_
  rw [← sep_assoc]
  refine T_pu fun ok => T.perm ?_ (h q.1 q.2.1 q.2.2 ok)
  ac_rfl
theorem Fl_close {a r : Nat} {L : Nat → List Int} {S : Nat → Sl} {cs : SlotK → Option Sl} (ok : FlOk S cs) (h : T B (R * Fl a L) t) : T B (R * MpF eslot esl r cs * bigS 160 (vI S L) * pt a (.cells (glob S ++ [Value.map (some r)]).toArray 199)) t := by
  have h2 := T_exI (B := B) (R := R) (t := t) (X := fun q : (Nat → Sl) × (SlotK → Option Sl) × Nat => pt a (.cells (glob q.1 ++ [Value.map (some q.2.2)]).toArray 199) * MpF eslot esl q.2.2 q.2.1 * bigS 160 (vI q.1 L) * pu (FlOk q.1 q.2.1)) (S, cs, r) h
  rw [← sep_assoc] at h2
  refine T.perm ?_ (T_puI ok h2)
  ac_rfl
theorem vec_nilI (R : SL) (h : T B (R * vec 3 1 nilS (ints [])) t) : T B R t := T_vecN (s := nilS) rfl rfl h
theorem big_nil (n : Nat) (h : T B (R * bigS n (vI (fun _ => nilS) (fun _ => []))) t) : T B R t := by
  induction n generalizing t R with
  | zero => rw [show bigS 0 (vI (fun _ => nilS) (fun _ => [])) = emp from rfl, sep_emp] at h; exact h
  | succ n ih =>
    refine ih (R := R) ?_
    refine vec_nilI _ ?_
    rw [sep_assoc]
    exact h
theorem free_New_c {k : Option Addr → K} (hk : ∀ a, T B (R * Fl a (fun _ => [])) (k (da a))) : T B R (c_free_New k) := by
  refine T_of (free_New_ok k) ?_
  (dsimp only [free_New, Zdn0, Zdn1])
  refine T_al fun r => ?_
  refine MpF_close (ek := eslot) (ev := esl) (FOk_nil (α := SlotK) (β := Sl)) ?_
  refine T_al fun a => ?_
  have e : (#[.slice none 0 0, .slice none 0 0, .slice none 0 0, .slice none 0 0, .slice none 0 0, .slice none 0 0, .slice none 0 0, .slice none 0 0, .slice none 0 0, .slice none 0 0, .slice none 0 0, .slice none 0 0, .slice none 0 0, .slice none 0 0, .slice none 0 0, .slice none 0 0, .slice none 0 0, .slice none 0 0, .slice none 0 0, .slice none 0 0, .slice none 0 0, .slice none 0 0, .slice none 0 0, .slice none 0 0, .slice none 0 0, .slice none 0 0, .slice none 0 0, .slice none 0 0, .slice none 0 0, .slice none 0 0, .slice none 0 0, .slice none 0 0, Value.map (some r)] : Array Value) = (glob (fun _ => nilS) ++ [Value.map (some r)]).toArray := rfl
  rw [e]
  refine big_nil 160 ?_
  have h := Fl_close (B := B) (R := R) (a := a) (r := r) (L := fun _ => []) (S := fun _ => nilS) (cs := fun _ => none) ⟨fun _ _ _ _ => rfl⟩ (hk a)
  exact T.perm (by ac_rfl) h
theorem free_right_c {m k : Int} {kk : Bool → K} (hk : T B R (kk (decide ((0 ≤ m ∧ m < 4) ∧ 0 ≤ k ∧ k < 32)))) : T B R (c_free_right m k kk) := by
  refine T_of (free_right_ok m k kk) ?_
  (repeat' (with_reducible refine T_brD (fun _ => ?_) (fun _ => ?_)))
  · refine class_Right_c ?_
    have e : decide (0 ≤ k ∧ k < 32) = decide ((0 ≤ m ∧ m < 4) ∧ 0 ≤ k ∧ k < 32) := by rw [decide_eq_decide]; omega
    rw [e]; exact hk
  · have e : decide ((0 ≤ m ∧ m < 4) ∧ 0 ≤ k ∧ k < 32) = false := by rw [decide_eq_false_iff_not]; omega
    rw [e] at hk; exact hk
  · have e : decide ((0 ≤ m ∧ m < 4) ∧ 0 ≤ k ∧ k < 32) = false := by rw [decide_eq_false_iff_not]; omega
    rw [e] at hk; exact hk
theorem bigRd {S : Nat → Sl} {L : Nat → List Int} {i : Nat} (h : i < 160) : Rd (bigS 160 (vI S L)) (S i) 1 (ints (L i)) := Rd.perm (bigS_out h) (Rd.vec (E := 3) .last)
/-- what a mutator keeps, out of the map -/
theorem T_lkSlot {r : Nat} {cs : SlotK → Option Sl} (h : MHas eslot esl P r cs) {x y : Int} {k : Nat → Obj → Sl → Bool → K} (ht : ∀ ob b, T B P (k r ob ((cs (x, y)).getD nilS) b)) :
    T B P (lkE Tryz.prog 201 (.slice none 0 0) (.sc .slice) (some r) (.agg #[.int .i64 x, .int .i64 y]) k) := by
  refine T_lkF (ek := eslot) (ev := esl) kd_slot h (key := (x, y)) ((cs (x, y)).getD nilS) ?_ fun ob => ht ob _
  cases cs (x, y) <;> rfl
theorem free_Own_c {a : Nat} {L : Nat → List Int} {m k : Nat} (hm : m < 4) (hk2 : k < 32) {kk : Int → K} (hk : T B (R * Fl a L) (kk (L (ix m k)).length)) : T B (R * Fl a L) (c_free_Lists_Own (da a) m k kk) := by
  refine T_of (free_Lists_Own_ok _ m k kk) ?_
  refine Fl_open fun S cs r ok => ?_
  unfold da
  refine T_nn ?_
  refine T_ldM (n := some r) (by rw [add_mk]) .last (glob_map S _) ?_
  refine T_lkSlot (cs := cs) (MHas.init (MHas.init (MHas.of .last))) fun ob b => ?_
  rw [ok.eq m k hm hk2]
  have hi : ix m k < 160 := by unfold ix; omega
  refine T_rdlen (Rd.init (Rd.tail (bigRd (S := S) (L := L) hi))) fun hn => ?_
  rw [ints_len] at hn
  have e : ((S (ix m k)).n : Int) = (L (ix m k)).length := by omega
  refine Fl_close ok ?_
  rw [← e] at hk; exact hk
/-- is a cell of a class free? -/
def FHas (L : Nat → List Int) (k : Nat) (x : Int) : Prop := x ∈ L k ∨ ∃ m, m < 4 ∧ x ∈ L (ix m k)
theorem free_Has_c {a : Nat} {L : Nat → List Int} (hL : ∀ i, i < 160 → (L i).length ≤ 2 ^ 30) {k : Nat} (hk2 : k < 32) {x : Int} {kk : Bool → K} (h1 : FHas L k x → T B (R * Fl a L) (kk true)) (h0 : ¬ FHas L k x → T B (R * Fl a L) (kk false)) :
    T B (R * Fl a L) (c_free_Lists_Has (da a) k x kk) := by
  refine T_of (free_Lists_Has_ok _ k x kk) ?_
  refine class_Right_c ?_
  rw [decide_eq_true (by omega)]
  simp only [Bool.not_true]
  refine Fl_open fun S cs r ok => ?_
  unfold da
  (repeat (first | with_reducible refine T_nn ?_ | with_reducible refine T_brF ?_))
  refine T_ixA (by omega) (by omega) ?_
  rw [Int.toNat_natCast, add_mk, add_mk, Nat.mul_one]
  refine T_ldS (n := S k) rfl .last (by rw [Nat.zero_add]; exact glob_at S _ hk2) ?_
  have hl := hL k (by omega)
  refine contains_int_c (l := L k) (by omega) (Rd.init (Rd.tail (bigRd (S := S) (L := L) (by omega)))) ?_
  by_cases hin : x ∈ L k
  · rw [decide_eq_true hin]
    (repeat (with_reducible refine T_brT ?_))
    exact Fl_close ok (h1 (.inl hin))
  · rw [decide_eq_false hin]
    (repeat (with_reducible refine T_brF ?_))
    refine T_lpX (fun _ _ => R * MpF eslot esl r cs * bigS 160 (vI S L) * pt a (.cells (glob S ++ [Value.map (some r)]).toArray 199)) (fun n (z : Int × Unit) => ∃ i : Nat, z.1 = i ∧ i ≤ 4 ∧ n = 4 - i ∧ ∀ m, m < i → x ∉ L (ix m k)) 4 rfl ⟨0, rfl, by omega, rfl, fun m h => by omega⟩ ?_
    rintro n ⟨z, u⟩ c ⟨i, e1, e2, e3, e4⟩ hc
    simp only at e1
    subst e1 e3
    (repeat' (first | with_reducible refine T_nn ?_ | ((with_reducible apply T_ldM); (focus rfl); (focus exact hasA); (focus rfl)) | with_reducible refine T_brD (fun _ => ?_) (fun _ => ?_)))
    · refine T_lkSlot (cs := cs) (MHas.init (MHas.init (MHas.of .last))) fun ob b => ?_
      rw [ok.eq i k (by omega) hk2]
      have hix : ix i k < 160 := by unfold ix; omega
      have hl := hL (ix i k) hix
      refine contains_int_c (l := L (ix i k)) (by omega) (Rd.init (Rd.tail (bigRd (S := S) (L := L) hix))) ?_
      by_cases hin2 : x ∈ L (ix i k)
      · rw [decide_eq_true hin2]
        (repeat (with_reducible refine T_brT ?_))
        exact Fl_close ok (h1 (.inr ⟨i, by omega, hin2⟩))
      · rw [decide_eq_false hin2]
        (repeat (with_reducible refine T_brF ?_))
        refine hc (4 - (i + 1)) _ (by omega) ⟨i + 1, w64 (by omega) (by omega), by omega, rfl, fun m hm => ?_⟩
        by_cases e : m = i
        · subst e; exact hin2
        · exact e4 m (by omega)
    · refine Fl_close ok (h0 ?_)
      rintro (h | ⟨m, hm, h⟩)
      · exact hin h
      · exact e4 m (by omega) h
end
theorem ix_inj {m k m' k' : Nat} (h1 : k < 32) (h2 : k' < 32) (h : ix m k = ix m' k') : m = m' ∧ k = k' := by unfold ix at h; omega
theorem FlOk.glob {S : Nat → Sl} {cs : SlotK → Option Sl} (ok : FlOk S cs) {k : Nat} (hk : k < 32) (s : Sl) : FlOk (setN S k s) cs := ⟨fun m k' hm hk' => by rw [ok.eq m k' hm hk', setN_ne]; unfold ix; omega⟩
theorem FlOk.slot {S : Nat → Sl} {cs : SlotK → Option Sl} (ok : FlOk S cs) {m k : Nat} (hm : m < 4) (hk : k < 32) (s : Sl) : FlOk (setN S (ix m k) s) (updF cs ((m : Int), (k : Int)) s) := ⟨fun m' k' hm' hk' => by
  unfold updF
  by_cases e : m' = m ∧ k' = k
  · obtain ⟨rfl, rfl⟩ := e
    rw [if_pos rfl, setN_same]; rfl
  · rw [if_neg (fun h => e (by simp only [Prod.mk.injEq, Int.natCast_inj] at h; exact h)), setN_ne, ok.eq m' k' hm' hk']
    intro h; exact e (ix_inj hk' hk h)⟩
theorem FlOk.del {S : Nat → Sl} {cs : SlotK → Option Sl} (ok : FlOk S cs) {m k : Nat} (hm : m < 4) (hk : k < 32) : FlOk (setN S (ix m k) nilS) (delF cs ((m : Int), (k : Int))) := ⟨fun m' k' hm' hk' => by
  unfold delF
  by_cases e : m' = m ∧ k' = k
  · obtain ⟨rfl, rfl⟩ := e
    rw [if_pos rfl, setN_same]; rfl
  · rw [if_neg (fun h => e (by simp only [Prod.mk.injEq, Int.natCast_inj] at h; exact h)), setN_ne, ok.eq m' k' hm' hk']
    intro h; exact e (ix_inj hk' hk h)⟩
theorem bigIn {S : Nat → Sl} {L : Nat → List Int} {i : Nat} (h : i < 160) (s : Sl) (l : List Int) : bigX 160 (vI S L) i * vec 3 1 s (ints l) = bigS 160 (vI (setN S i s) (setN L i l)) := by
  have := bigS_in (f := vI S L) (f' := vI (setN S i s) (setN L i l)) h fun j _ hj => by unfold vI; rw [setN_ne S s hj, setN_ne L l hj]
  rw [← this]
  unfold vI
  rw [setN_same, setN_same]
theorem setN_self {α : Type} (f : Nat → α) (i : Nat) : setN f i (f i) = f := by
  funext j; unfold setN; split
  · rename_i h; rw [h]
  · rfl
theorem ints_append (l m : List Int) : ints (l ++ m) = ints l ++ ints m := by simp [ints]
section
variable {B : World} {P R : SL} {t : K}
/-- a list of cells out of all, to be turned -/
theorem Fl_pick {a i : Nat} {L : Nat → List Int} (hi : i < 160) (h : ∀ S cs r, FlOk S cs → T B (R * MpF eslot esl r cs * bigX 160 (vI S L) i * pt a (.cells (glob S ++ [Value.map (some r)]).toArray 199) * vec 3 1 (S i) (ints (L i))) t) : T B (R * Fl a L) t := by
  refine Fl_open fun S cs r ok => ?_
  rw [bigS_out hi]
  exact T.perm (by unfold vI; ac_rfl) (h S cs r ok)
theorem Fl_put {a i r : Nat} {L : Nat → List Int} {S : Nat → Sl} {cs : SlotK → Option Sl} {s : Sl} {l : List Int} (hi : i < 160) (ok : FlOk (setN S i s) cs) (h : T B (R * Fl a (setN L i l)) t) :
    T B (R * MpF eslot esl r cs * bigX 160 (vI S L) i * pt a (.cells (glob (setN S i s) ++ [Value.map (some r)]).toArray 199) * vec 3 1 s (ints l)) t := by
  have h2 := Fl_close (B := B) (R := R) (a := a) (r := r) ok h
  rw [← bigIn hi] at h2
  exact T.perm (by ac_rfl) h2
theorem T_gld {a k : Nat} {S : Nat → Sl} {tl : List Value} {ty : TypeId} {kk : Sl → K} (h : Has P a (.cells (glob S ++ tl).toArray ty)) (hk : k < 32) (ht : T B P (kk (S k))) : T B P (ixA (Addr.add ⟨a, 0, none⟩ 0) 32 (k : Int) 1 fun x => ldS x kk) := by
  refine T_ixA (by omega) (by omega) ?_
  refine T_ldS (i := k) (n := S k) ?_ h (glob_at S _ hk) ht
  simp only [add_mk, Int.toNat_natCast, Nat.mul_one, Nat.zero_add]
theorem T_gst {a k : Nat} {S : Nat → Sl} {tl : List Value} {ty : TypeId} {s : Sl} {P' : SL} (hk : k < 32) (h : Upd P a (.cells (glob S ++ tl).toArray ty) (.cells (glob (setN S k s) ++ tl).toArray ty) P') (ht : T B P' t) :
    T B P (ixA (Addr.add ⟨a, 0, none⟩ 0) 32 (k : Int) 1 fun x => stK (Addr.add x 0) s.v t) := by
  refine T_ixA (by omega) (by omega) ?_
  refine T_st (b := a) (i := k) (l := glob S ++ tl) (ty := ty) ?_ ?_ (by rw [List.length_append, glob_len]; omega) ht
  · simp only [add_mk, Int.toNat_natCast, Nat.mul_one, Nat.zero_add, Nat.add_zero]
  · rw [glob_set S _ hk]; exact h
theorem free_Push_c {a : Nat} {L : Nat → List Int} (hL : ∀ i, i < 160 → (L i).length ≤ 2 ^ 30) {k : Nat} (hk2 : k < 32) {x : Int} {kk : Int → K} (h1 : FHas L k x → T B (R * Fl a L) (kk 41)) (h0 : ¬ FHas L k x → T B (R * Fl a (setN L k (L k ++ [x]))) (kk 0)) :
    T B (R * Fl a L) (c_free_Lists_Push (da a) k x kk) := by
  refine T_of (free_Lists_Push_ok _ k x kk) ?_
  refine class_Right_c ?_
  rw [decide_eq_true (by omega)]
  simp only [Bool.not_true]
  (repeat (with_reducible refine T_brF ?_))
  refine free_Has_c hL hk2 (fun h => ?_) (fun h => ?_)
  · (repeat (with_reducible refine T_brT ?_))
    exact h1 h
  · (repeat (first | with_reducible refine T_tick ?_ | with_reducible refine T_brF ?_))
    have h0 := h0 h
    refine Fl_pick (i := k) (by omega) fun S cs r ok => ?_
    unfold da
    have hl := hL k (by omega)
    (repeat (with_reducible refine T_nn ?_))
    refine T_gld (.init .last) hk2 ?_
    (repeat (first | with_reducible refine T_nn ?_ | (with_reducible refine T_al ?_; intro _)))
    refine T_app1b (vs := ints (L k)) (new := [.int .i64 x]) kd_int rfl rfl (by rw [ints_len]; omega) fun s' => ?_
    refine T_gst (S := S) (s := s') hk2 (.init .last) ?_
    have e : ints (L k) ++ [Value.int .i64 x] = ints (L k ++ [x]) := (ints_append (L k) [x]).symm
    rw [e]
    exact Fl_put (i := k) (by omega) (ok.glob hk2 s') h0
theorem cutP_zero (p : Option Addr) (c : Nat) : cutP p 0 c 1 = p := by
  unfold cutP
  split
  · rfl
  · cases p with
    | none => rfl
    | some a => simp [Addr.add]
theorem take6_c {a b : Nat} {L : Nat → List Int} {m k : Nat} (hm : m < 4) (hk2 : k < 32) (hL : (L (ix m k)).length ≤ 2 ^ 30) {kk : Int × Int → K}
    (h0 : L (ix m k) = [] → T B (R * Fl a L) (kk (0, 4))) (h1 : ∀ ini x, L (ix m k) = ini ++ [x] → T B (R * Fl a (setN L (ix m k) ini)) (kk (x, 0))) :
    T B (R * pt b (.cells [.int .i64 m, .int .i64 k].toArray 201) * Fl a L) (Zdc6 (da a) kk ⟨b, 0, none⟩) := by
  have hi : ix m k < 160 := by unfold ix; omega
  refine Fl_pick hi fun S cs r ok => ?_
  unfold da
  (repeat (first | with_reducible refine T_nn ?_ | with_reducible refine T_tick ?_ | ((with_reducible apply T_ldI); (focus rfl); (focus exact hasA); (focus rfl)) | ((with_reducible apply T_ldM); (focus rfl); (focus exact hasA); (focus rfl))))
  refine T_lkSlot (cs := cs) (MHas.init (MHas.init (MHas.init (MHas.of .last)))) fun ob bb => ?_
  rw [ok.eq m k hm hk2]
  refine T_vlen .last fun hn => ?_
  rw [ints_len, Nat.mul_one] at hn
  by_cases he : L (ix m k) = []
  · have hn0 : (S (ix m k)).n = 0 := by rw [hn, he]; rfl
    (dsimp only [free_Lists_Take, Zdc0, Zdc1, Zdc2, Zdc3, Zdc4, Zdc5, Zdc6, Zdc7, Zdc8, Zdc9, Zdc10, Zdc11, Zdc12, Zdc13, Zdc14, Zdc15, Zdc16])
    rw [hn0]
    (repeat' (first | with_reducible refine T_nn ?_ | with_reducible refine T_tick ?_ | ((with_reducible apply T_ldI); (focus rfl); (focus exact hasA); (focus rfl)) | ((with_reducible apply T_ldM); (focus rfl); (focus exact hasA); (focus rfl)) | with_reducible refine T_brE (fun _ => ?_) (fun _ => ?_)))
    · refine T_drop1 (.init (.init (.init (.init .last)))) ?_
      have := Fl_put (B := B) (R := R) (a := a) (i := ix m k) (r := r) (L := L) (S := S) (cs := cs) (s := S (ix m k)) (l := L (ix m k)) hi (by rw [setN_self]; exact ok) (t := kk (0, 4)) (by rw [setN_self]; exact h0 he)
      rw [setN_self] at this
      exact this
    · rename_i h; exact absurd rfl h
  · have hpos : 0 < (L (ix m k)).length := List.length_pos_iff.2 he
    obtain ⟨ini, x, hx⟩ : ∃ ini x, L (ix m k) = ini ++ [x] := ⟨_, _, (List.dropLast_concat_getLast he).symm⟩
    have hil : (L (ix m k)).length = ini.length + 1 := by rw [hx]; simp
    (repeat' (first | with_reducible refine T_nn ?_ | with_reducible refine T_tick ?_ | ((with_reducible apply T_ldI); (focus rfl); (focus exact hasA); (focus rfl)) | ((with_reducible apply T_ldM); (focus rfl); (focus exact hasA); (focus rfl)) | with_reducible refine T_brE (fun _ => ?_) (fun _ => ?_)))
    · exfalso; omega
    have e1 : IntKind.wrap .i64 (((S (ix m k)).n : Int) - 1) = ((ini.length : Nat) : Int) := by rw [w64 (by omega) (by omega)]; omega
    (dsimp only [free_Lists_Take, Zdc0, Zdc1, Zdc2, Zdc3, Zdc4, Zdc5, Zdc6, Zdc7, Zdc8, Zdc9, Zdc10, Zdc11, Zdc12, Zdc13, Zdc14, Zdc15, Zdc16])
    rw [e1]
    refine T_vopen (s := S (ix m k)) (vs := ints (L (ix m k))) .last (by rw [hx]; simp [ints]) fun b2 rest q1 q2 q3 q4 => ?_
    refine T_vecI q1 q2 q3 q4 ?_
    rw [ints_len] at q3
    refine T_lo (by omega) (by omega) ?_
    rw [Int.toNat_natCast]
    refine T_bring (X := MpF eslot esl r cs) (.init (.init (.init .last))) ?_
    refine T_updM (ek := eslot) (ev := esl) kd_slot (v := ⟨cutP (S (ix m k)).p 0 (S (ix m k)).c 1, ini.length - 0, (S (ix m k)).c - 0⟩) (key := ((m : Int), (k : Int))) rfl rfl ?_
    refine T_ixV (i := ini.length) (n := x) (Rd.vec (E := 3) (s := S (ix m k)) (vs := ints (L (ix m k))) (.init .last)) (by omega) (by rw [Int.toNat_natCast, ints_at (by omega)]; simp [hx]) ?_
    skip
    refine T_bring (X := vec 3 1 (S (ix m k)) (ints (L (ix m k)))) (.init .last) ?_
    refine T_vcut (s' := ⟨cutP (S (ix m k)).p 0 (S (ix m k)).c 1, ini.length - 0, (S (ix m k)).c - 0⟩) (n := ini.length) (by omega) (by simp only [cutP_zero]) (by simp) (by simp) (by rw [ints_len]; omega) ?_
    have e2 : (ints (L (ix m k))).take (ini.length * 1) = ints ini := by rw [hx, ints_append, Nat.mul_one, List.take_append_of_le_length (by rw [ints_len]; omega), List.take_of_length_le (by rw [ints_len]; omega)]
    rw [e2]
    refine T_drop1 (.init (.init (.init (.init .last)))) ?_
    have h2 := Fl_put (B := B) (R := R) (a := a) (i := ix m k) (r := r) (L := L) (S := S) (cs := updF cs ((m : Int), (k : Int)) ⟨cutP (S (ix m k)).p 0 (S (ix m k)).c 1, ini.length - 0, (S (ix m k)).c - 0⟩) (l := ini) hi (ok.slot hm hk2 _) (h1 ini x hx)
    rw [glob_setN S (by unfold ix; omega)] at h2
    exact T.perm (by ac_rfl) h2
end
/-- two lists of one class turned, by one cell -/
def Turn (L L' : Nat → List Int) (m k : Nat) : Prop := ∀ i, i ≠ k → i ≠ ix m k → L' i = L i
section
variable {B : World} {P R : SL} {t : K}
theorem free_Take_c {a : Nat} {L : Nat → List Int} (hL : ∀ i, i < 160 → (L i).length ≤ 2 ^ 30) {m k : Nat} (hm : m < 4) (hk2 : k < 32) {kk : Int × Int → K}
    (h0 : L k = [] → L (ix m k) = [] → T B (R * Fl a L) (kk (0, 4)))
    (h1 : ∀ x L', Turn L L' m k → (L k ++ L (ix m k)).Perm (x :: (L' k ++ L' (ix m k))) → T B (R * Fl a L') (kk (x, 0))) :
    T B (R * Fl a L) (c_free_Lists_Take (da a) m k kk) := by
  refine T_of (free_Lists_Take_ok _ m k kk) ?_
  refine free_right_c ?_
  rw [decide_eq_true (by omega)]
  have hi : ix m k < 160 := by unfold ix; omega
  have hne : ix m k ≠ k := by unfold ix; omega
  have hlk := hL k (by omega)
  have hli := hL (ix m k) hi
  unfold da
  simp only [Bool.not_true]
  (repeat (first | with_reducible refine T_nn ?_ | with_reducible refine T_tick ?_ | with_reducible refine T_brF ?_ | (with_reducible refine T_al ?_; intro _) | ((with_reducible apply T_st); (focus rfl); (focus exact updA); (focus simp); simp only [List.set, Nat.zero_add, Nat.reduceAdd])))
  rename_i b
  refine T_bring (X := Fl a L) (.init .last) ?_
  -- the last step
  have six : ∀ L2 : Nat → List Int, (L2 (ix m k)).length ≤ 2 ^ 30 → Turn L L2 m k → (L2 k ++ L2 (ix m k) = L k ∧ L (ix m k) = [] ∨ L2 = L) → (L2 (ix m k) = [] → L2 = L ∧ L k = [] ∨ L (ix m k) ≠ []) → (L2 = L → L (ix m k) ≠ []  ∨ L k = []) →
      T B (R * pt b (.cells [.int .i64 m, .int .i64 k].toArray 201) * Fl a L2) (Zdc6 (some ⟨a, 0, none⟩) kk ⟨b, 0, none⟩) := by
    intro L2 hlen htu hsum hemp hself
    refine take6_c hm hk2 hlen (fun he => ?_) (fun ini x hx => ?_)
    · rcases hemp he with ⟨rfl, h⟩ | h
      · exact h0 h he
      · rcases hsum with ⟨_, h2⟩ | rfl
        · exact absurd h2 h
        · exact absurd he h
    · refine h1 x (setN L2 (ix m k) ini) (fun i h1 h2 => by rw [setN_ne _ _ h2]; exact htu i h1 h2) ?_
      rw [setN_same, setN_ne _ _ hne.symm]
      have hp : (L2 k ++ (ini ++ [x])).Perm (x :: (L2 k ++ ini)) := by
        rw [← List.append_assoc]; exact List.perm_append_singleton x (L2 k ++ ini)
      rcases hsum with ⟨h1, h2⟩ | rfl
      · rw [h2, List.append_nil, ← h1, hx]; exact hp
      · rw [hx]; exact hp
  refine Fl_open fun S cs r ok => ?_
  (repeat (first | ((with_reducible apply T_ldI); (focus rfl); (focus exact hasA); (focus rfl)) | ((with_reducible apply T_ldM); (focus rfl); (focus exact hasA); (focus rfl))))
  refine T_lkSlot (cs := cs) (MHas.init (MHas.init (MHas.of .last))) fun ob bb => ?_
  rw [ok.eq m k hm hk2]
  refine T_rdlen (Rd.init (Rd.tail (bigRd (S := S) (L := L) hi))) fun hn => ?_
  rw [ints_len, Nat.mul_one] at hn
  by_cases he : L (ix m k) = []
  · have hn0 : (S (ix m k)).n = 0 := by rw [hn, he]; rfl
    (dsimp only [free_Lists_Take, Zdc0, Zdc1, Zdc2, Zdc3, Zdc4, Zdc5, Zdc6, Zdc7, Zdc8, Zdc9, Zdc10, Zdc11, Zdc12, Zdc13, Zdc14, Zdc15, Zdc16])
    rw [hn0]
    refine T_brE (fun _ => ?_) (fun h => absurd rfl h)
    (repeat (with_reducible refine T_nn ?_))
    refine T_rdlen (Rd.init (Rd.tail (bigRd (S := S) (L := L) (show k < 160 by omega)))) fun hnk => ?_
    rw [ints_len, Nat.mul_one] at hnk
    refine T_gld .last hk2 ?_
    (repeat (with_reducible refine T_nn ?_))
    refine T_gld .last hk2 ?_
    obtain ⟨f, hf, hf2⟩ : ∃ f : Nat, IntKind.wrap .i64 (((S k).n : Int) - min2I ((S k).n : Int) 4) = (f : Int) ∧ f = (L k).length - min (L k).length 4 := by
      refine ⟨_, ?_, rfl⟩
      have : min2I ((S k).n : Int) 4 = ((min (L k).length 4 : Nat) : Int) := by unfold min2I; split <;> omega
      rw [this, w64 (by omega) (by omega)]; omega
    rw [hf]
    (repeat (first | with_reducible refine T_nn ?_ | with_reducible refine T_tick ?_ | ((with_reducible apply T_ldI); (focus rfl); (focus exact hasA); (focus rfl)) | ((with_reducible apply T_ldM); (focus rfl); (focus exact hasA); (focus rfl))))
    refine T_gld .last hk2 ?_
    refine T_lo (by omega) (by omega) ?_
    rw [Int.toNat_natCast]
    have hpc := (bigRd (S := S) (L := L) (show k < 160 by omega)).piece (y := ⟨cutP (S k).p f (S k).c 1, (S k).n - f, (S k).c - f⟩) (o := f) (n := (L k).length - f) (by omega) (by rw [ints_len]; omega) rfl (by simp only; omega) rfl
    have ecut : cut (ints (L k)) (f * 1) (((L k).length - f) * 1) = ints ((L k).drop f) := by
      unfold cut ints
      rw [Nat.mul_one, Nat.mul_one, List.take_of_length_le (by simp), List.map_drop]
    rw [ecut] at hpc
    refine clone_int_c (l := (L k).drop f) (by simp; omega) (Rd.init (Rd.tail hpc)) fun x57 => ?_
    (repeat (first | with_reducible refine T_chk0 ?_ | ((with_reducible apply T_chk); (focus rfl); (focus exact hasA); (focus rfl))))
    refine T_bring (X := MpF eslot esl r cs) (.init (.init (.init .last))) ?_
    refine T_updM (ek := eslot) (ev := esl) kd_slot (v := x57) (key := ((m : Int), (k : Int))) rfl rfl ?_
    -- the map's turned: closed
    rw [bigS_out hi]
    refine T.perm (Q := R * pt b (.cells [.int .i64 m, .int .i64 k].toArray 201) * MpF eslot esl r (updF cs ((m : Int), (k : Int)) x57) * bigX 160 (vI S L) (ix m k) * pt a (.cells (glob (setN S (ix m k) x57) ++ [Value.map (some r)]).toArray 199) * vec 3 1 x57 (ints ((L k).drop f)) * vI S L (ix m k)) ?_ ?_
    · rw [glob_setN S (by unfold ix; omega)]; ac_rfl
    refine T.weak ?_
    refine Fl_put hi (ok.slot hm hk2 x57) ?_
    refine Fl_pick (i := k) (by omega) fun S2 cs2 r2 ok2 => ?_
    rw [setN_ne _ _ hne.symm]
    refine T_vlen .last fun hnk2 => ?_
    rw [ints_len, Nat.mul_one] at hnk2
    (repeat (first | with_reducible refine T_nn ?_ | with_reducible refine T_tick ?_))
    refine T_gld (S := S2) (.init .last) hk2 ?_
    have hcap : ∀ t, ((S2 k).n ≤ (S2 k).c → T B (R * pt b (.cells [.int .i64 m, .int .i64 k].toArray 201) * MpF eslot esl r2 cs2 * bigX 160 (vI S2 (setN L (ix m k) ((L k).drop f))) k * pt a (.cells (glob S2 ++ [Value.map (some r2)]).toArray 199) * vec 3 1 (S2 k) (ints (L k))) t) → T B (R * pt b (.cells [.int .i64 m, .int .i64 k].toArray 201) * MpF eslot esl r2 cs2 * bigX 160 (vI S2 (setN L (ix m k) ((L k).drop f))) k * pt a (.cells (glob S2 ++ [Value.map (some r2)]).toArray 199) * vec 3 1 (S2 k) (ints (L k))) t := by
      intro t h w hw
      have := (Rd.vec (E := 3) (s := S2 k) (vs := ints (L k)) .last) B w hw
      exact h (by omega) w hw
    refine hcap _ fun hc2 => ?_
    refine T_lo (by omega) (by omega) ?_
    rw [Int.toNat_natCast]
    (repeat (with_reducible refine T_nn ?_))
    refine T_gst (S := S2) (s := ⟨cutP (S2 k).p 0 (S2 k).c 1, f - 0, (S2 k).c - 0⟩) hk2 (.init .last) ?_
    refine T_vcut (s' := ⟨cutP (S2 k).p 0 (S2 k).c 1, f - 0, (S2 k).c - 0⟩) (n := f) (by omega) (by simp only [cutP_zero]) (by simp) (by simp) (by rw [ints_len]; omega) ?_
    have e3 : (ints (L k)).take (f * 1) = ints ((L k).take f) := by unfold ints; rw [Nat.mul_one, List.map_take]
    rw [e3]
    refine Fl_put (i := k) (by omega) (ok2.glob hk2 _) ?_
    refine six _ ?_ (fun i h1 h2 => by rw [setN_ne _ _ h1, setN_ne _ _ h2]) (.inl ⟨?_, he⟩) (fun h => .inl ?_) (fun h => .inr ?_)
    · rw [setN_ne _ _ hne, setN_same]; simp; omega
    · rw [setN_same, setN_ne _ _ hne, setN_same]; exact List.take_append_drop f (L k)
    · rw [setN_ne _ _ hne, setN_same] at h
      have hlen := congrArg List.length h
      simp at hlen
      have hz : L k = [] := List.eq_nil_of_length_eq_zero (by omega)
      refine ⟨?_, hz⟩
      funext j
      by_cases hj : j = k
      · subst hj; rw [setN_same, hz]; simp
      · rw [setN_ne _ _ hj]
        by_cases hj2 : j = ix m k
        · subst hj2; rw [setN_same, he, hz]; simp
        · rw [setN_ne _ _ hj2]
    · have h2 := congrFun h (ix m k)
      rw [setN_ne _ _ hne, setN_same, he] at h2
      have hlen := congrArg List.length h2
      simp at hlen
      exact List.eq_nil_of_length_eq_zero (by omega)
  · have hpos : 0 < (L (ix m k)).length := List.length_pos_iff.2 he
    (dsimp only [free_Lists_Take, Zdc0, Zdc1, Zdc2, Zdc3, Zdc4, Zdc5, Zdc6, Zdc7, Zdc8, Zdc9, Zdc10, Zdc11, Zdc12, Zdc13, Zdc14, Zdc15, Zdc16])
    refine T_brE (fun h => by exfalso; omega) (fun _ => ?_)
    refine Fl_close ok ?_
    have := six L hli (fun _ _ _ => rfl) (.inr rfl) (fun h => absurd h he) (fun _ => .inl he)
    exact this
end
end Go.Proofs.YtdgcbapclnnkkaaGreat.X
section
namespace Go.Proofs
open Go.Shelf
def Tryz.lays189_ren : Go.Shelf.Ren := ⟨fun | 189 => 206 | 125 => 228 | 257 => 227 | 128 => 247 | 129 => 248 | 294 => 238 | 295 => 239 | 296 => 240 | 297 => 241 | 298 => 242 | 299 => 243 | 216 => 244 | 300 => 245 | 301 => 246 | 328 => 259 | 329 => 260 | 330 => 261 | 331 => 262 | 332 => 263 | 215 => 264 | 343 => 271 | n => n, fun | 28 => 27 | 3 => 3 | 46 => 111 | 0 => 0 | 51 => 220 | 53 => 109 | 4 => 4 | 183 => 269 | 182 => 268 | 131 => 132 | 5 => 5 | 9 => 9 | 218 => 282 | 222 => 286 | 228 => 293 | 229 => 82 | n => n, fun | n => n⟩
theorem Tryz.lays189 : Go.Proofs.Lays.n189 Tryz.prog Tryz.lays189_ren := {
  mixed := by kernel_rfl
  f125 := Tryz.func228.trans (congrArg some (by kernel_rfl))
  f128 := Tryz.func247.trans (congrArg some (by kernel_rfl))
  f129 := Tryz.func248.trans (congrArg some (by kernel_rfl))
  f189 := Tryz.func206.trans (congrArg some (by kernel_rfl))
  f215 := Tryz.func264.trans (congrArg some (by kernel_rfl))
  f216 := Tryz.func244.trans (congrArg some (by kernel_rfl))
  f257 := Tryz.func227.trans (congrArg some (by kernel_rfl))
  f294 := Tryz.func238.trans (congrArg some (by kernel_rfl))
  f295 := Tryz.func239.trans (congrArg some (by kernel_rfl))
  f296 := Tryz.func240.trans (congrArg some (by kernel_rfl))
  f297 := Tryz.func241.trans (congrArg some (by kernel_rfl))
  f298 := Tryz.func242.trans (congrArg some (by kernel_rfl))
  f299 := Tryz.func243.trans (congrArg some (by kernel_rfl))
  f300 := Tryz.func245.trans (congrArg some (by kernel_rfl))
  f301 := Tryz.func246.trans (congrArg some (by kernel_rfl))
  f328 := Tryz.func259.trans (congrArg some (by kernel_rfl))
  f329 := Tryz.func260.trans (congrArg some (by kernel_rfl))
  f330 := Tryz.func261.trans (congrArg some (by kernel_rfl))
  f331 := Tryz.func262.trans (congrArg some (by kernel_rfl))
  f332 := Tryz.func263.trans (congrArg some (by kernel_rfl))
  f343 := Tryz.func271.trans (congrArg some (by kernel_rfl))
  t0 := Tryz.underlying0
  a0 := Tryz.isAgg0
  z0 := Tryz.sizeOf0
  v0 := Tryz.zeroValue0
  t3 := Tryz.underlying3
  a3 := Tryz.isAgg3
  z3 := Tryz.sizeOf3
  v3 := Tryz.zeroValue3
  t4 := Tryz.underlying4
  a4 := Tryz.isAgg4
  z4 := Tryz.sizeOf4
  v4 := Tryz.zeroValue4
  t5 := Tryz.underlying5
  a5 := Tryz.isAgg5
  z5 := Tryz.sizeOf5
  v5 := Tryz.zeroValue5
  t9 := Tryz.underlying9
  a9 := Tryz.isAgg9
  z9 := Tryz.sizeOf9
  v9 := Tryz.zeroValue9
  t28 := Tryz.underlying27
  a28 := Tryz.isAgg27
  z28 := Tryz.sizeOf27
  v28 := Tryz.zeroValue27
  t46 := Tryz.underlying111
  a46 := Tryz.isAgg111
  z46 := Tryz.sizeOf111
  v46 := Tryz.zeroValue111
  t51 := Tryz.underlying220
  a51 := Tryz.isAgg220
  z51 := Tryz.sizeOf220
  v51 := Tryz.zeroValue220
  t53 := Tryz.underlying109
  a53 := Tryz.isAgg109
  z53 := Tryz.sizeOf109
  v53 := Tryz.zeroValue109
  t131 := Tryz.underlying132
  a131 := Tryz.isAgg132
  z131 := Tryz.sizeOf132
  v131 := Tryz.zeroValue132
  t182 := Tryz.underlying268
  a182 := Tryz.isAgg268
  z182 := Tryz.sizeOf268
  v182 := Tryz.zeroValue268
  t183 := Tryz.underlying269
  a183 := Tryz.isAgg269
  z183 := Tryz.sizeOf269
  v183 := Tryz.zeroValue269
  t218 := Tryz.underlying282
  a218 := Tryz.isAgg282
  z218 := Tryz.sizeOf282
  v218 := Tryz.zeroValue282
  t222 := Tryz.underlying286
  a222 := Tryz.isAgg286
  z222 := Tryz.sizeOf286
  v222 := Tryz.zeroValue286
  t228 := Tryz.underlying293
  a228 := Tryz.isAgg293
  z228 := Tryz.sizeOf293
  v228 := Tryz.zeroValue293
  t229 := Tryz.underlying82
  a229 := Tryz.isAgg82
  z229 := Tryz.sizeOf82
  v229 := Tryz.zeroValue82 }
open Go.Sort Go.RowKit in
theorem Tryz.slices_Sort_int (blk off cap : Nat) (zs : List Int) (w : World) (hH : Holds (Value.int .i64) w blk off zs.toArray) (hblk : blk < w.heap.size) (hsz : zs.length < 4611686018427387904) :
    Calls Tryz.prog 206 #[.slice (some ⟨blk, off, none⟩) zs.length cap] w fun e w' =>
      e = .returned (.tuple #[]) ∧ ∃ n os, w' = grow (putRow (Value.int .i64) (Sort.ahead w n) blk off (zs.mergeSort fun x y => decide (x ≤ y)).toArray) os := Any.slices_Sort_int Tryz.lays189 blk off cap zs w hH hblk hsz
def Tryz.laysSF6_ren : Go.Shelf.Ren := ⟨fun | 6 => 207 | 15 => 228 | 14 => 229 | 28 => 247 | 29 => 248 | 20 => 249 | 21 => 250 | 22 => 251 | 23 => 252 | 24 => 253 | 25 => 254 | 26 => 255 | 27 => 256 | 46 => 265 | 47 => 260 | 48 => 261 | 49 => 266 | 50 => 267 | 57 => 272 | n => n, fun | 22 => 150 | 24 => 152 | 25 => 248 | 3 => 3 | 39 => 111 | 0 => 0 | 53 => 220 | 55 => 109 | 4 => 4 | 46 => 269 | 45 => 268 | 50 => 132 | 5 => 5 | 9 => 9 | 66 => 282 | 70 => 286 | 76 => 293 | 77 => 82 | n => n, fun | n => n⟩
theorem Tryz.laysSF6 : Go.Proofs.SlLaysF0.n6 Tryz.prog Tryz.laysSF6_ren := {
  mixed := by kernel_rfl
  f6 := ⟨Tryz.f207.name, by decide, Tryz.func207.trans (congrArg some (by kernel_rfl))⟩
  f14 := ⟨Tryz.f229.name, by decide, Tryz.func229.trans (congrArg some (by kernel_rfl))⟩
  f15 := Tryz.func228.trans (congrArg some (by kernel_rfl))
  f20 := ⟨Tryz.f249.name, by decide, Tryz.func249.trans (congrArg some (by kernel_rfl))⟩
  f21 := ⟨Tryz.f250.name, by decide, Tryz.func250.trans (congrArg some (by kernel_rfl))⟩
  f22 := ⟨Tryz.f251.name, by decide, Tryz.func251.trans (congrArg some (by kernel_rfl))⟩
  f23 := ⟨Tryz.f252.name, by decide, Tryz.func252.trans (congrArg some (by kernel_rfl))⟩
  f24 := ⟨Tryz.f253.name, by decide, Tryz.func253.trans (congrArg some (by kernel_rfl))⟩
  f25 := ⟨Tryz.f254.name, by decide, Tryz.func254.trans (congrArg some (by kernel_rfl))⟩
  f26 := ⟨Tryz.f255.name, by decide, Tryz.func255.trans (congrArg some (by kernel_rfl))⟩
  f27 := ⟨Tryz.f256.name, by decide, Tryz.func256.trans (congrArg some (by kernel_rfl))⟩
  f28 := Tryz.func247.trans (congrArg some (by kernel_rfl))
  f29 := Tryz.func248.trans (congrArg some (by kernel_rfl))
  f46 := ⟨Tryz.f265.name, by decide, Tryz.func265.trans (congrArg some (by kernel_rfl))⟩
  f47 := Tryz.func260.trans (congrArg some (by kernel_rfl))
  f48 := Tryz.func261.trans (congrArg some (by kernel_rfl))
  f49 := ⟨Tryz.f266.name, by decide, Tryz.func266.trans (congrArg some (by kernel_rfl))⟩
  f50 := ⟨Tryz.f267.name, by decide, Tryz.func267.trans (congrArg some (by kernel_rfl))⟩
  f57 := ⟨Tryz.f272.name, by decide, Tryz.func272.trans (congrArg some (by kernel_rfl))⟩
  t0 := Tryz.underlying0
  a0 := Tryz.isAgg0
  z0 := Tryz.sizeOf0
  v0 := Tryz.zeroValue0
  t3 := Tryz.underlying3
  a3 := Tryz.isAgg3
  z3 := Tryz.sizeOf3
  v3 := Tryz.zeroValue3
  t4 := Tryz.underlying4
  a4 := Tryz.isAgg4
  z4 := Tryz.sizeOf4
  v4 := Tryz.zeroValue4
  t5 := Tryz.underlying5
  a5 := Tryz.isAgg5
  z5 := Tryz.sizeOf5
  v5 := Tryz.zeroValue5
  t9 := Tryz.underlying9
  a9 := Tryz.isAgg9
  z9 := Tryz.sizeOf9
  v9 := Tryz.zeroValue9
  t22 := Tryz.underlying150
  a22 := Tryz.isAgg150
  z22 := Tryz.sizeOf150
  v22 := Tryz.zeroValue150
  t25 := Tryz.underlying248
  a25 := Tryz.isAgg248
  z25 := Tryz.sizeOf248
  v25 := Tryz.zeroValue248
  t39 := Tryz.underlying111
  a39 := Tryz.isAgg111
  z39 := Tryz.sizeOf111
  v39 := Tryz.zeroValue111
  t45 := Tryz.underlying268
  a45 := Tryz.isAgg268
  z45 := Tryz.sizeOf268
  v45 := Tryz.zeroValue268
  t46 := Tryz.underlying269
  a46 := Tryz.isAgg269
  z46 := Tryz.sizeOf269
  v46 := Tryz.zeroValue269
  t50 := Tryz.underlying132
  a50 := Tryz.isAgg132
  z50 := Tryz.sizeOf132
  v50 := Tryz.zeroValue132
  t53 := Tryz.underlying220
  a53 := Tryz.isAgg220
  z53 := Tryz.sizeOf220
  v53 := Tryz.zeroValue220
  t55 := Tryz.underlying109
  a55 := Tryz.isAgg109
  z55 := Tryz.sizeOf109
  v55 := Tryz.zeroValue109
  t66 := Tryz.underlying282
  a66 := Tryz.isAgg282
  z66 := Tryz.sizeOf282
  v66 := Tryz.zeroValue282
  t70 := Tryz.underlying286
  a70 := Tryz.isAgg286
  z70 := Tryz.sizeOf286
  v70 := Tryz.zeroValue286
  t76 := Tryz.underlying293
  a76 := Tryz.isAgg293
  z76 := Tryz.sizeOf293
  v76 := Tryz.zeroValue293
  t77 := Tryz.underlying82
  a77 := Tryz.isAgg82
  z77 := Tryz.sizeOf82
  v77 := Tryz.zeroValue82 }
open Go.RowKit Go.Lib Go.Sort in
theorem Tryz.slices_SortFunc {α : Type} [Inhabited α] (k : Nat) (aE : ∀ w, (isAgg 152).run Tryz.prog w = .ok true w) (zE : ∀ w, (Go.sizeOf 152).run Tryz.prog w = .ok k w) (enc : α → List Value) (hk : ∀ x, (enc x).length = k) (h1 : ∀ x, ∀ v ∈ enc x, v.oneCell' = true) (cf : α → α → Int) (hO : SWO (ltOf cf)) (g : Nat) (cb : Array Value) (blk off cap : Nat) (d : Array α) (w : World) (eg : ∀ args w, (callFunc g args).run Tryz.prog w = .ok (.enter g args) w) (hcmp : CmpLays Tryz.prog g cb enc k cf blk off d.size w) (hH : HoldsK enc k w blk off d) (hblk : blk < w.heap.size) (hsz : d.size < 4611686018427387904) :
    Calls Tryz.prog 207 #[.slice (some ⟨blk, off, none⟩) d.size cap, .func (.func g) #[] cb] w fun e w' =>
      e = .returned (.tuple #[]) ∧ ∃ d' n os, PermIn 0 d.size d d' ∧ SortedIn (ltOf cf) 0 d.size d' ∧ w' = sortWorldK enc k w blk off n d' os := AnyQ.slices_SortFunc Tryz.laysSF6 k aE zE enc hk h1 cf hO g cb blk off cap d w eg hcmp hH hblk hsz
open Go.RowKit Go.Sort in
theorem Tryz.slices_Sort_int_none (p : Option Addr) (cap : Nat) (w : World) : Calls Tryz.prog 206 #[.slice p 0 cap] w fun e w' => e = .returned (.tuple #[]) ∧ w' = w := Any.slices_Sort_int_none Tryz.lays189 p cap w
theorem Tryz.slices_SortFunc_none (p : Option Addr) (cap : Nat) (fv : Value) (w : World) : Calls Tryz.prog 207 #[.slice p 0 cap, fv] w fun e w' => e = .returned (.tuple #[]) ∧ w' = w := AnyF.slices_SortFunc_none Tryz.laysSF6 p cap fv w
end Go.Proofs
end
namespace Go.Proofs.YtdgcbapclnnkkaaGreat.X
section
variable {B : World} {P Q R : SL} {t : K}
theorem Sat.grown {w : World} (s : Sat B P w) (os : Array Obj) : Sat B P (Sort.grow w os) := by
  obtain ⟨⟨x, hx, hb⟩, k⟩ := s
  refine ⟨⟨x, hx, fun y q e => ?_⟩, ⟨k.os, k.tape, k.output, by simp only [Sort.grow, Array.size_append]; have := k.size; omega, fun y hy => ?_⟩⟩
  · have h2 := hb y q e
    have hlt : y < w.heap.size := (Array.getElem?_eq_some_iff.1 h2.2).1
    refine ⟨h2.1, ?_⟩
    simp only [Sort.grow, Array.getElem?_append, hlt, if_true]; exact h2.2
  · have : y < w.heap.size := by have := k.size; omega
    simp only [Sort.grow, Array.getElem?_append, this, if_true]; exact k.block y hy
theorem put_sat {α : Type} [Inhabited α] {w : World} {b : Nat} {vs rest : List Value} {E : TypeId} {enc : α → Value} {d : Array α} (hd : d.size = vs.length) (n : Nat) (os : Array Obj)
    (s : Sat B (R * pt b (.cells (vs ++ rest).toArray E)) w) : Sat B (R * pt b (.cells (d.toList.map enc ++ rest).toArray E)) (Sort.grow (Sort.putRow enc (Sort.ahead w n) b 0 d) os) := by
  refine Sat.grown ?_ os
  have s2 : Sat B (R * pt b (.cells (vs ++ rest).toArray E)) (Sort.ahead w n) := s.drew _
  have hh := (s2.has (b := b) (o := .cells (vs ++ rest).toArray E) Has.last).1
  refine s2.upd Upd.last ?_ ?_ rfl rfl rfl (by simp [Sort.putRow, Sort.mapBlock])
  · simp only [Sort.putRow, Sort.mapBlock, Array.getElem?_modify, if_true]
    rw [hh]
    simp only [Option.map_some, Sort.onCells, Option.some.injEq, Obj.cells.injEq, and_true]
    apply Array.ext_getElem?
    intro i
    simp only [Sort.putCells, Array.getElem?_mapIdx, List.getElem?_toArray, Nat.zero_le, true_and, Nat.zero_add, Nat.sub_zero]
    by_cases hi : i < d.size
    · rw [List.getElem?_append_left (by omega), List.getElem?_append_left (by simp; exact hi), List.getElem?_eq_getElem (by omega)]
      simp only [Option.map_some, hi, if_true, List.getElem?_map]
      rw [Array.getElem?_toList, Array.getElem?_eq_getElem hi]
      simp [getElem!_pos, hi]
    · rw [List.getElem?_append_right (by omega), List.getElem?_append_right (by simp; omega)]
      simp only [List.length_map, Array.length_toList, hd]
      cases rest[i - vs.length]? with
      | none => rfl
      | some v => simp only [Option.map_some]; rw [if_neg (by omega)]
  · intro x hx
    simp only [Sort.putRow, Sort.mapBlock, Array.getElem?_modify]
    rw [if_neg (Ne.symm hx)]
end
section
variable {B : World} {P Q R : SL} {t : K}
theorem sort_holds {α : Type} [Inhabited α] {w : World} {b : Nat} {vs rest : List Value} {E : TypeId} {enc : α → Value} {d : Array α} (hd : d.toList.map enc = vs) (s : Sat B (R * pt b (.cells (vs ++ rest).toArray E)) w) :
    Sort.Holds enc w b 0 d := by
  subst hd
  intro j hj
  have hh := (s.has (b := b) (o := .cells (d.toList.map enc ++ rest).toArray E) Has.last).1
  refine ⟨?_, by simp [World.frozen?, hh]⟩
  refine s.cell (b := b) Has.last ?_
  rw [Nat.zero_add, List.getElem?_append_left (by simp; exact hj), List.getElem?_map, Array.getElem?_toList, Array.getElem?_eq_getElem hj]
  simp [getElem!_pos, hj]
/-- ascending -/
def sortI (l : List Int) : List Int := l.mergeSort fun x y => decide (x ≤ y)
theorem sort_int_c {s : Sl} {l : List Int} (hl : l.length ≤ 2 ^ 40) {k : Unit → K} (hk : T B (R * vec 3 1 s (ints (sortI l))) (k ())) : T B (R * vec 3 1 s (ints l)) (c_slices_Sort_Sint_int s k) := by
  intro w hw
  rcases vec_cases hw with ⟨h1, h2, h3, hR⟩ | ⟨b, rest, h1, h2, h3, h4, hR⟩
  · have hl : l = [] := by cases l <;> simp_all [ints]
    subst hl
    have hs : s.v = .slice s.p 0 s.c := by unfold Sl.v; rw [h1]
    unfold c_slices_Sort_Sint_int cl
    rw [hs]
    refine (Tryz.slices_Sort_int_none s.p s.c w).mono ?_
    rintro e w' ⟨rfl, rfl⟩
    have e0 : sortI [] = [] := by simp [sortI]
    rw [e0] at hk
    exact ⟨(), rfl, hk _ hw⟩
  · have hlen : s.n = l.length := by simpa [ints] using h2
    have hc := Tryz.slices_Sort_int b 0 s.c l w (sort_holds (vs := ints l) (by simp [ints]) hR) (by have := (hR.has (b := b) Has.last).1; exact (Array.getElem?_eq_some_iff.1 this).1) (by omega)
    have hs : s.v = .slice (some ⟨b, 0, none⟩) l.length s.c := by unfold Sl.v; rw [h1, hlen]
    unfold c_slices_Sort_Sint_int cl
    rw [hs]
    refine hc.mono ?_
    rintro e w' ⟨rfl, n, os, rfl⟩
    refine ⟨(), rfl, hk _ ?_⟩
    have hlen2 : (sortI l).length = l.length := List.length_mergeSort _
    have := put_sat (enc := Value.int .i64) (d := (sortI l).toArray) (by simp [hlen2, ints]) n os hR
    refine vec_mk (rest := rest) h1 (by rw [h2]; simp [ints, hlen2]) (by rw [h3]; simp [ints, hlen2]) h4 ?_
    exact this
/-- pairs whose first number is told by a difference -/
abbrev Bp := {p : Int × Int // 0 ≤ p.1 ∧ p.1 ≤ 2 ^ 40}
instance : Inhabited Bp := ⟨⟨(0, 0), by simp⟩⟩
def encB (p : Bp) : List Value := [.int .i64 p.1.1, .int .i64 p.1.2]
def cmpB (p q : Bp) : Int := p.1.1 - q.1.1
theorem cmpB_lt (p q : Bp) : ltOf cmpB p q = decide (p.1.1 < q.1.1) := by
  unfold ltOf cmpB
  rw [decide_eq_decide]; omega
theorem swoB : Sort.SWO (ltOf cmpB) where
  irrefl x := by rw [cmpB_lt]; simp
  trans x y z h1 h2 := by rw [cmpB_lt] at *; simp at *; omega
  ntrans x y z h1 h2 := by rw [cmpB_lt] at *; simp at *; omega
theorem cmp_run (p q : Bp) (w : World) : Calls Tryz.prog 208 #[.agg (encB p).toArray, .agg (encB q).toArray] w fun e w' => e = .returned (.int .i64 (cmpB p q)) ∧ ∃ os, w' = Sort.grow w os := by
  have hp := p.2
  have hq := q.2
  have h : c_runs_Index_List_1 p.1 q.1 (fun x w' => x = cmpB p q ∧ ∃ os, w' = Sort.grow w os) w := by
    refine runs_Index_List_1_ok p.1 q.1 _ w ?_
    refine ⟨p.1.1, ?_, q.1.1, ?_, ?_, #[.cells #[.int .i64 p.1.1, .int .i64 p.1.2] 152, .cells #[.int .i64 q.1.1, .int .i64 q.1.2] 152], ?_⟩
    · simp [World.cell?, Addr.add, Array.getElem?_push]
    · simp [World.cell?, Addr.add, Array.getElem_push]
    · exact w64 (by omega) (by omega)
    · simp only [Sort.grow]
      congr 1
  unfold c_runs_Index_List_1 cl at h
  refine h.mono ?_
  rintro e w' ⟨x, rfl, rfl, h⟩
  exact ⟨rfl, h⟩
theorem prs_get {l : List (Int × Int)} {i j : Nat} (hi : i < l.length) (hj : j < 2) : (prs l)[i * 2 + j]? = [Value.int .i64 l[i].1, .int .i64 l[i].2][j]? := by
  rw [← prs_cut hi, cut_get hj]
theorem flat_prs (d : Array Bp) : (Sort.flatK encB 2 d).toList = prs (d.toList.map (·.1)) := by
  apply List.ext_getElem?
  intro t
  by_cases ht : t < d.size * 2
  · have e : t = t / 2 * 2 + t % 2 := by omega
    have hi : t / 2 < (d.toList.map (·.1)).length := by simp; omega
    rw [Array.getElem?_toList, Array.getElem?_eq_getElem (by simp; exact ht)]
    have hg := Sort.get_flatK encB 2 d t ht
    rw [getElem!_pos _ t (by simp; exact ht)] at hg
    rw [hg]
    conv => rhs; rw [e]
    rw [prs_get hi (by omega)]
    have h2 : t / 2 < d.size := by omega
    rw [getElem!_pos d (t / 2) h2]
    simp only [List.getElem_map, Array.getElem_toList]
    unfold encB
    have : t % 2 = 0 ∨ t % 2 = 1 := by omega
    rcases this with h | h <;> rw [h] <;> rfl
  · rw [List.getElem?_eq_none (by simp; omega), List.getElem?_eq_none (by rw [prs_len]; simp; omega)]
theorem sort_sp_c {s : Sl} {l : List (Int × Int)} (hl : l.length ≤ 2 ^ 40) (hb : ∀ p ∈ l, 0 ≤ p.1 ∧ p.1 ≤ 2 ^ 40) {k : Unit → K} (hk : ∀ l', l'.Perm l → l'.Pairwise (fun p q => p.1 ≤ q.1) → T B (R * vec 152 2 s (prs l')) (k ())) :
    T B (R * vec 152 2 s (prs l)) (c_slices_SortFunc_Sblocks_Span_blocks_Span s ⟨.func 208, #[], #[]⟩ k) := by
  intro w hw
  have hpl := prs_len l
  rcases vec_cases hw with ⟨h1, h2, h3, hR⟩ | ⟨b, rest, h1, h2, h3, h4, hR⟩
  · have hl0 : l = [] := by
      cases l with
      | nil => rfl
      | cons p l => rw [h3] at hpl; simp at hpl
    subst hl0
    have hs : s.v = .slice s.p 0 s.c := by unfold Sl.v; rw [h1]
    unfold c_slices_SortFunc_Sblocks_Span_blocks_Span cl
    rw [hs]
    refine (Tryz.slices_SortFunc_none s.p s.c _ w).mono ?_
    rintro e w' ⟨rfl, rfl⟩
    exact ⟨(), rfl, hk [] (.refl _) .nil _ hw⟩
  · have hlen : s.n = l.length := by omega
    obtain ⟨d, hd⟩ : ∃ d : Array Bp, d.toList.map (·.1) = l := by
      refine ⟨(l.attach.map fun p => (⟨p.1, hb p.1 p.2⟩ : Bp)).toArray, ?_⟩
      rw [List.toList_toArray, List.map_map]
      exact List.attach_map_subtype_val l
    have hdl : d.size = l.length := by rw [← hd]; simp
    have hfl := flat_prs d
    rw [hd] at hfl
    have hc := Tryz.slices_SortFunc 2 (fun w => by
        obtain ⟨⟨dd, hdd⟩, _⟩ := okT_spec (P := Tryz.prog) (t := 152) (by kernel_rfl)
        rw [r_isAgg hdd w]; kernel_rfl) (fun w => by rw [r_size (by kernel_rfl) w]; kernel_rfl) encB (fun _ => rfl) (fun x v hv => by simp [encB] at hv; rcases hv with rfl | rfl <;> rfl) cmpB swoB 208 #[] b 0 s.c d w
      (enters_of Tryz.func208 (by kernel_rfl) rfl) (fun m os dk _ x y => (cmp_run x y _).mono fun e w' ⟨h1, os', h2⟩ => ⟨h1, 0, os', h2⟩)
      (sort_holds (enc := id) (vs := prs l) (by rw [List.map_id]; exact hfl) hR) (by have := (hR.has (b := b) Has.last).1; exact (Array.getElem?_eq_some_iff.1 this).1) (by omega)
    have hs : s.v = .slice (some ⟨b, 0, none⟩) d.size s.c := by unfold Sl.v; rw [h1, hlen, hdl]
    unfold c_slices_SortFunc_Sblocks_Span_blocks_Span cl
    rw [hs]
    refine Calls.mono hc ?_
    rintro e w' ⟨rfl, d', n, os, ⟨q1, _, q2⟩, q3, rfl⟩
    refine ⟨(), rfl, hk (d'.toList.map (·.1)) ?_ ?_ _ ?_⟩
    · rw [← hd]
      refine List.Perm.map _ ?_
      have e1 : (d'.extract 0 d.size) = d' := by rw [← q1]; simp
      have e2 : (d.extract 0 d.size) = d := by simp
      rw [e1, e2] at q2; exact q2
    · rw [List.pairwise_map, List.pairwise_iff_getElem]
      intro i j hi hj hij
      simp only [Array.length_toList] at hi hj
      have := q3 i j (by omega) hij (by omega)
      rw [cmpB_lt, getElem!_pos d' j hj, getElem!_pos d' i hi] at this
      simp only [Array.getElem_toList]
      simpa using this
    · have hfl' := flat_prs d'
      have hfs : (Sort.flatK encB 2 d').size = (prs l).length := by rw [Sort.size_flatK, hpl, q1, hdl]
      have := put_sat (enc := id) (d := Sort.flatK encB 2 d') hfs n os hR
      rw [List.map_id, hfl'] at this
      refine vec_mk (rest := rest) h1 ?_ ?_ h4 this
      · rw [h2, hpl, prs_len]; simp [q1, hdl]
      · rw [h3, hpl, prs_len]; simp [q1, hdl]
end
theorem bigXRd {S : Nat → Sl} {L : Nat → List Int} {i j : Nat} (h : i < 160) (hij : i ≠ j) : Rd (bigX 160 (vI S L) j) (S i) 1 (ints (L i)) := Rd.perm (bigX_out h hij) (Rd.vec (E := 3) .last)
section
variable {B : World} {P R : SL} {t : K} {Pg : Program} {α β : Type} [DecidableEq α] {mt kt et : TypeId} {ek : α → Value} {ev : β → Value}
theorem T_entF (hD : KeyD Pg mt kt et ek) {z : β} (hz : zeroP Pg et = some (ev z)) {r : Nat} {f : α → Option β} {key : α} {sh : Sh} {kv : Value} {kk : sh.T × Int → K} (x : sh.T)
    (hx : ev ((f key).getD z) = sh.enc x) (hkv : kv = ek key) (ht : ∀ (stamp : Nat) (M : SL), (∀ (R' : SL) (v : β) vv t, vv = ev v → T B (R' * MpF ek ev r (updF f key v)) t → T B (R' * M) (semU Pg (Instr.entryStore mt (.map (some r)) (.int .i64 (stamp : Int)) vv) t)) → T B (R * M) (kk (x, (stamp : Int)))) :
    T B (R * MpF ek ev r f) (semT Pg (Instr.mapEntry mt (.map (some r)) kv) (.tup [.sc sh, .sc (.int .i64)]) kk) := by
  subst hkv
  refine MpF_open fun es c ok => ?_
  obtain ⟨l, ok, hl⟩ := ok
  refine T_mapEntry hD hD.same hz ok x (by rw [hl]; exact hx) fun stamp es' c' e ok' he hb => ?_
  obtain ⟨p1, p2⟩ := entL_put l key z z
  refine ht stamp (pt r (.map es' c')) fun R' v vv t hv ht2 => ?_
  subst hb
  refine T_entryStore (mt := mt) ok' he p1 hv ?_
  rw [(entL_put l key z v).2]
  refine T_ex fun y => ?_
  rw [← sep_assoc]
  refine T_pu fun ok2 => ?_
  refine MpF_close ⟨_, ok2, fun k => ?_⟩ ht2
  rw [lkup_put, hl]; rfl
end
section
variable {B : World} {P R : SL} {t : K}
theorem put5_c {a b : Nat} {L : Nat → List Int} (hL : ∀ i, i < 160 → (L i).length ≤ 2 ^ 31) {m k : Nat} (hm : m < 4) (hk2 : k < 32) {kk : Int → K}
    (h0 : ∀ L', Turn L L' m k → (L' k ++ L' (ix m k)).Perm (L k ++ L (ix m k)) → T B (R * Fl a L') (kk 0)) :
    T B (R * pt b (.cells [.int .i64 m, .int .i64 k].toArray 201) * Fl a L) (Zcp5 (da a) k kk ⟨b, 0, none⟩) := by
  have hi : ix m k < 160 := by unfold ix; omega
  have hne : ix m k ≠ k := by unfold ix; omega
  have hlk := hL k (by omega)
  have hli := hL (ix m k) hi
  refine Fl_open fun S cs r ok => ?_
  unfold da
  (repeat (first | with_reducible refine T_nn ?_ | with_reducible refine T_tick ?_ | ((with_reducible apply T_ldI); (focus rfl); (focus exact hasA); (focus rfl)) | ((with_reducible apply T_ldM); (focus rfl); (focus exact hasA); (focus rfl))))
  refine T_lkSlot (cs := cs) (MHas.init (MHas.init (MHas.of .last))) fun ob bb => ?_
  rw [ok.eq m k hm hk2]
  refine T_rdlen (Rd.init (Rd.tail (bigRd (S := S) (L := L) hi))) fun hn => ?_
  rw [ints_len, Nat.mul_one] at hn
  have hcap : ∀ t, ((S (ix m k)).n ≤ (S (ix m k)).c → T B (R * pt b (.cells [.int .i64 m, .int .i64 k].toArray 201) * MpF eslot esl r cs * bigS 160 (vI S L) * pt a (.cells (glob S ++ [Value.map (some r)]).toArray 199)) t) → T B (R * pt b (.cells [.int .i64 m, .int .i64 k].toArray 201) * MpF eslot esl r cs * bigS 160 (vI S L) * pt a (.cells (glob S ++ [Value.map (some r)]).toArray 199)) t := by
    intro t h w hw
    have := (Rd.init (Rd.tail (bigRd (S := S) (L := L) hi))) B w hw
    exact h (by omega) w hw
  refine hcap _ fun hc2 => ?_
  (repeat' (first | with_reducible refine T_nn ?_ | with_reducible refine T_tick ?_ | with_reducible refine T_brD (fun _ => ?_) (fun _ => ?_)))
  · rename_i hgt
    obtain ⟨f, hf, hf2⟩ : ∃ f : Nat, IntKind.wrap .i64 (Int.tdiv ((S (ix m k)).n : Int) 2) = (f : Int) ∧ f = (L (ix m k)).length / 2 := by
      refine ⟨_, ?_, rfl⟩
      rw [Int.tdiv_eq_ediv_of_nonneg (by omega), w64 (by omega) (by omega)]; omega
    rw [hf]
    refine T_gld .last hk2 ?_
    refine T_lo (by omega) (by omega) ?_
    rw [Int.toNat_natCast]
    (repeat (with_reducible refine T_nn ?_))
    rw [bigS_out (i := k) (by omega)]
    refine T.perm (Q := R * pt b (.cells [.int .i64 m, .int .i64 k].toArray 201) * MpF eslot esl r cs * bigX 160 (vI S L) k * pt a (.cells (glob S ++ [Value.map (some r)]).toArray 199) * vec 3 1 (S k) (ints (L k))) (by unfold vI; ac_rfl) ?_
    have hpc := (bigXRd (S := S) (L := L) hi hne).piece (y := ⟨cutP (S (ix m k)).p 0 (S (ix m k)).c 1, f - 0, (S (ix m k)).c - 0⟩) (o := 0) (n := f) (by omega) (by rw [ints_len]; omega) rfl (by simp) rfl
    have ecut : cut (ints (L (ix m k))) (0 * 1) (f * 1) = ints ((L (ix m k)).take f) := by
      unfold cut ints; rw [Nat.mul_one, Nat.zero_mul, List.drop_zero, List.map_take]
    rw [ecut] at hpc
    refine T_append (s := S k) (vs := ints (L k)) (x := ⟨cutP (S (ix m k)).p 0 (S (ix m k)).c 1, f - 0, (S (ix m k)).c - 0⟩) (new := ints ((L (ix m k)).take f)) kd_int (Rd.init (Rd.tail hpc)) (ints_scal _) (by rw [ints_len]; simp only; omega) fun s' => ?_
    refine T_gst (S := S) (s := s') hk2 (.init .last) ?_
    rw [← ints_append]
    refine T.perm (Q := R * pt b (.cells [.int .i64 m, .int .i64 k].toArray 201) * MpF eslot esl r cs * bigS 160 (vI (setN S k s') (setN L k (L k ++ (L (ix m k)).take f))) * pt a (.cells (glob (setN S k s') ++ [Value.map (some r)]).toArray 199)) (by rw [← bigIn (by omega)]; ac_rfl) ?_
    have ok1 := ok.glob hk2 s'
    have hS1 : setN S k s' (ix m k) = S (ix m k) := setN_ne _ _ hne
    have hL1 : setN L k (L k ++ (L (ix m k)).take f) (ix m k) = L (ix m k) := setN_ne _ _ hne
    generalize hSe : setN S k s' = S1 at *
    generalize hLe : setN L k (L k ++ (L (ix m k)).take f) = L1 at *
    (repeat (first | with_reducible refine T_nn ?_ | with_reducible refine T_tick ?_ | ((with_reducible apply T_ldI); (focus rfl); (focus exact hasA); (focus rfl)) | ((with_reducible apply T_ldM); (focus rfl); (focus exact hasA); (focus rfl))))
    refine T_lo (by omega) (by omega) ?_
    rw [Int.toNat_natCast]
    have hpc2 := (bigRd (S := S1) (L := L1) hi).piece (y := ⟨cutP (S (ix m k)).p f (S (ix m k)).c 1, (S (ix m k)).n - f, (S (ix m k)).c - f⟩) (o := f) (n := (L (ix m k)).length - f) (by omega) (by rw [ints_len, hL1]; omega) (by rw [hS1]) (by simp only; omega) (by rw [hS1])
    have ecut2 : cut (ints (L1 (ix m k))) (f * 1) (((L (ix m k)).length - f) * 1) = ints ((L (ix m k)).drop f) := by
      rw [hL1]
      unfold cut ints
      rw [Nat.mul_one, Nat.mul_one, List.take_of_length_le (by simp), List.map_drop]
    rw [ecut2] at hpc2
    refine clone_int_c (l := (L (ix m k)).drop f) (by simp; omega) (Rd.init (Rd.tail hpc2)) fun x71 => ?_
    (repeat (first | with_reducible refine T_chk0 ?_ | ((with_reducible apply T_chk); (focus rfl); (focus exact hasA); (focus rfl))))
    refine T_bring (X := MpF eslot esl r cs) (.init (.init (.init .last))) ?_
    refine T_updM (ek := eslot) (ev := esl) kd_slot (v := x71) (key := ((m : Int), (k : Int))) rfl rfl ?_
    rw [bigS_out hi]
    refine T.perm (Q := R * MpF eslot esl r (updF cs ((m : Int), (k : Int)) x71) * bigX 160 (vI S1 L1) (ix m k) * pt a (.cells (glob (setN S1 (ix m k) x71) ++ [Value.map (some r)]).toArray 199) * vec 3 1 x71 (ints ((L (ix m k)).drop f)) * (pt b (.cells [.int .i64 m, .int .i64 k].toArray 201) * vI S1 L1 (ix m k))) ?_ ?_
    · rw [glob_setN S1 (by unfold ix; omega)]; ac_rfl
    refine T.weak ?_
    refine Fl_put hi (ok1.slot hm hk2 x71) ?_
    refine h0 _ (fun i h1 h2 => ?_) ?_
    · rw [setN_ne _ _ h2, ← hLe, setN_ne _ _ h1]
    · rw [setN_same, setN_ne _ _ hne.symm, ← hLe, setN_same, List.append_assoc, List.take_append_drop]
  · refine T_drop1 (.init (.init (.init .last))) ?_
    exact Fl_close ok (h0 L (fun _ _ _ => rfl) (.refl _))
theorem free_Put_c {a : Nat} {L : Nat → List Int} (hL : ∀ i, i < 160 → (L i).length ≤ 2 ^ 30) {m k : Nat} (hm : m < 4) (hk2 : k < 32) {x : Int} {kk : Int → K}
    (h1 : FHas L k x → T B (R * Fl a L) (kk 41))
    (h0 : ¬ FHas L k x → ∀ L', Turn L L' m k → (L' k ++ L' (ix m k)).Perm (x :: (L k ++ L (ix m k))) → T B (R * Fl a L') (kk 0)) :
    T B (R * Fl a L) (c_free_Lists_Put (da a) m k x kk) := by
  refine T_of (free_Lists_Put_ok _ m k x kk) ?_
  refine free_right_c ?_
  rw [decide_eq_true (by omega)]
  have hi : ix m k < 160 := by unfold ix; omega
  have hne : ix m k ≠ k := by unfold ix; omega
  have hlk := hL k (by omega)
  have hli := hL (ix m k) hi
  simp only [Bool.not_true]
  (repeat (with_reducible refine T_brF ?_))
  refine free_Has_c hL hk2 (fun h => ?_) (fun h => ?_)
  · (repeat (with_reducible refine T_brT ?_))
    exact h1 h
  have h0 := h0 h
  (repeat (first | with_reducible refine T_tick ?_ | with_reducible refine T_brF ?_ | (with_reducible refine T_al ?_; intro _) | ((with_reducible apply T_st); (focus rfl); (focus exact updA); (focus simp); simp only [List.set, Nat.zero_add, Nat.reduceAdd])))
  rename_i b
  refine T_bring (X := Fl a L) (.init .last) ?_
  refine Fl_pick hi fun S cs r ok => ?_
  unfold da
  (repeat (first | with_reducible refine T_nn ?_ | ((with_reducible apply T_ldI); (focus rfl); (focus exact hasA); (focus rfl)) | ((with_reducible apply T_ldM); (focus rfl); (focus exact hasA); (focus rfl)) | (with_reducible refine T_al ?_; intro _)))
  rename_i b1
  refine T_bring (X := MpF eslot esl r cs) (.init (.init (.init (.init .last)))) ?_
  refine T_entF (ek := eslot) (ev := esl) kd_slot (z := nilS) (by kernel_rfl) (key := ((m : Int), (k : Int))) (sh := .slice) ((cs ((m : Int), (k : Int))).getD nilS) rfl rfl fun stamp M hM => ?_
  rw [ok.eq m k hm hk2]
  refine T.perm (Q := R * pt b (.cells [.int .i64 m, .int .i64 k].toArray 201) * bigX 160 (vI S L) (ix m k) * pt a (.cells (glob S ++ [Value.map (some r)]).toArray 199) * M * vec 3 1 (S (ix m k)) (ints (L (ix m k))) * pt b1 (.cells [.int .i64 x].toArray 3)) (by ac_rfl) ?_
  refine T_app1b (vs := ints (L (ix m k))) (new := [.int .i64 x]) kd_int rfl rfl (by rw [ints_len]; omega) fun s' => ?_
  refine T_bring (X := M) (.init .last) ?_
  refine hM _ s' _ _ rfl ?_
  have e : ints (L (ix m k)) ++ [Value.int .i64 x] = ints (L (ix m k) ++ [x]) := (ints_append (L (ix m k)) [x]).symm
  rw [e]
  have hcl : ∀ t, T B (R * pt b (.cells [.int .i64 m, .int .i64 k].toArray 201) * Fl a (setN L (ix m k) (L (ix m k) ++ [x]))) t → T B (R * pt b (.cells [.int .i64 m, .int .i64 k].toArray 201) * bigX 160 (vI S L) (ix m k) * pt a (.cells (glob S ++ [Value.map (some r)]).toArray 199) * vec 3 1 s' (ints (L (ix m k) ++ [x])) * MpF eslot esl r (updF cs ((m : Int), (k : Int)) s')) t := by
    intro t ht
    have h2 := Fl_put (r := r) hi (ok.slot hm hk2 s') ht
    rw [glob_setN S (by unfold ix; omega)] at h2
    exact T.perm (by ac_rfl) h2
  refine hcl _ ?_
  refine put5_c (L := setN L (ix m k) (L (ix m k) ++ [x])) (fun i hi2 => ?_) hm hk2 fun L' ht hp => ?_
  · by_cases e : i = ix m k
    · subst e; rw [setN_same]; simp; omega
    · rw [setN_ne _ _ e]; have := hL i hi2; omega
  · refine h0 L' (fun i g1 g2 => by rw [ht i g1 g2, setN_ne _ _ g2]) (hp.trans ?_)
    rw [setN_same, setN_ne _ _ hne.symm, ← List.append_assoc]
    exact List.perm_append_singleton x _
end
def drF (L : Nat → List Int) (m : Nat) : Nat → Nat → List Int
  | 0 => L
  | i + 1 => setN (setN (drF L m i) i (drF L m i i ++ drF L m i (ix m i))) (ix m i) []
theorem drF_get (L : Nat → List Int) {m : Nat} (hm : m < 4) : ∀ i, i ≤ 32 → ∀ x, x < 160 → drF L m i x = if x < 32 then (if x < i then L x ++ L (ix m x) else L x) else if ix m 0 ≤ x ∧ x < ix m 0 + i then [] else L x := by
  intro i
  induction i with
  | zero =>
    intro _ x hx
    show L x = _
    split
    · rw [if_neg (by omega)]
    · rw [if_neg (by omega)]
  | succ i ih =>
    intro hi x hx
    have ih := ih (by omega)
    show setN (setN (drF L m i) i (drF L m i i ++ drF L m i (ix m i))) (ix m i) [] x = _
    have hix : ix m i < 160 := by unfold ix; omega
    by_cases e1 : x = ix m i
    · subst e1
      rw [setN_same, if_neg (by unfold ix; omega), if_pos (by unfold ix; omega)]
    · rw [setN_ne _ _ e1]
      by_cases e2 : x = i
      · subst e2
        rw [setN_same, ih x hx, ih (ix m x) hix, if_pos (by omega), if_neg (by omega), if_neg (by unfold ix; omega), if_neg (by unfold ix; omega), if_pos (by omega), if_pos (by omega)]
      · rw [setN_ne _ _ e2, ih x hx]
        by_cases h32 : x < 32
        · rw [if_pos h32, if_pos h32]
          by_cases h : x < i
          · rw [if_pos h, if_pos (by omega)]
          · rw [if_neg h, if_neg (by omega)]
        · rw [if_neg h32, if_neg h32]
          by_cases h : ix m 0 ≤ x ∧ x < ix m 0 + i
          · rw [if_pos h, if_pos (by omega)]
          · rw [if_neg h, if_neg (by unfold ix at *; omega)]
/-- a class's cells, with those of so many mutators -/
def accL (L : Nat → List Int) (k : Nat) : Nat → List Int
  | 0 => L k
  | i + 1 => accL L k i ++ L (ix i k)
theorem accL_len {L : Nat → List Int} (hL : ∀ i, i < 160 → (L i).length ≤ 2 ^ 30) {k : Nat} (hk : k < 32) : ∀ i, i ≤ 4 → (accL L k i).length ≤ (i + 1) * 2 ^ 30 := by
  intro i
  induction i with
  | zero => intro _; have := hL k (by omega); show (L k).length ≤ _; omega
  | succ i ih =>
    intro h
    have := ih (by omega)
    have := hL (ix i k) (by unfold ix; omega)
    show (accL L k i ++ L (ix i k)).length ≤ _
    rw [List.length_append]; omega
section
variable {B : World} {P R : SL} {t : K}
theorem free_Drain_c {a : Nat} {L : Nat → List Int} (hL : ∀ i, i < 160 → (L i).length ≤ 2 ^ 30) {m : Nat} (hm : m < 4) {kk : Unit → K} (hk : T B (R * Fl a (drF L m 32)) (kk ())) : T B (R * Fl a L) (c_free_Lists_Drain (da a) m kk) := by
  refine T_of (free_Lists_Drain_ok _ m kk) ?_
  (dsimp only [free_Lists_Drain, Zdu0, Zdu1, Zdu2, Zdu3, Zdu4, Zdu5])
  refine T_lpX (fun _ s => R * Fl a (drF L m s.1.toNat)) (fun n (z : Int × Unit) => ∃ i : Nat, z.1 = i ∧ i ≤ 32 ∧ n = 32 - i) 32 rfl ⟨0, rfl, by omega, rfl⟩ ?_
  rintro n ⟨z, u⟩ c ⟨i, e1, e2, e3⟩ hc
  simp only at e1
  subst e1 e3
  simp only [Int.toNat_natCast]
  (repeat' (first | with_reducible refine T_tick ?_ | (with_reducible refine T_al ?_; intro _) | ((with_reducible apply T_st); (focus rfl); (focus exact updA); (focus simp); simp only [List.set, Nat.zero_add, Nat.reduceAdd]) | with_reducible refine T_brD (fun _ => ?_) (fun _ => ?_)))
  · rename_i hlt b
    have hlt' : i < 32 := by omega
    have hix : ix m i < 160 := by unfold ix; omega
    have hne : ix m i ≠ i := by unfold ix; omega
    have hnext := hc (32 - (i + 1)) (IntKind.wrap .i64 ((i : Int) + 1), ()) (by omega) ⟨i + 1, w64 (by omega) (by omega), by omega, rfl⟩
    have e : (IntKind.wrap .i64 ((i : Int) + 1)).toNat = i + 1 := by rw [w64 (by omega) (by omega)]; omega
    simp only [e] at hnext
    have hl1 : (drF L m i i).length ≤ 2 ^ 30 := by rw [drF_get L hm i e2 i (by omega), if_pos hlt', if_neg (by omega)]; exact hL i (by omega)
    have hl2 : (drF L m i (ix m i)).length ≤ 2 ^ 30 := by rw [drF_get L hm i e2 _ hix, if_neg (by unfold ix; omega), if_neg (by unfold ix; omega)]; exact hL _ hix
    have hnext : T B (R * Fl a (setN (setN (drF L m i) i (drF L m i i ++ drF L m i (ix m i))) (ix m i) [])) (c (IntKind.wrap .i64 ((i : Int) + 1), ())) := hnext
    clear hc
    generalize drF L m i = L0 at *
    refine T_bring (X := Fl a L0) (.init .last) ?_
    refine Fl_pick (i := i) (by omega) fun S cs r ok => ?_
    unfold da
    (repeat (with_reducible refine T_nn ?_))
    refine T_gld (S := S) (.init .last) hlt' ?_
    (repeat (first | with_reducible refine T_nn ?_ | ((with_reducible apply T_ldI); (focus rfl); (focus exact hasA); (focus rfl)) | ((with_reducible apply T_ldM); (focus rfl); (focus exact hasA); (focus rfl))))
    refine T_lkSlot (cs := cs) (MHas.init (MHas.init (MHas.init (MHas.of .last)))) fun ob bb => ?_
    rw [ok.eq m i hm hlt']
    (repeat (with_reducible refine T_nn ?_))
    have hrd := bigXRd (S := S) (L := L0) hix hne
    refine T_rdlen (Rd.init (Rd.init (Rd.tail hrd))) fun hnn => ?_
    rw [ints_len, Nat.mul_one] at hnn
    refine T_append (s := S i) (vs := ints (L0 i)) (x := S (ix m i)) (new := ints (L0 (ix m i))) kd_int (Rd.init (Rd.tail hrd)) (ints_scal _) (by rw [ints_len]; omega) fun s' => ?_
    refine T_gst (S := S) (s := s') hlt' (.init .last) ?_
    rw [← ints_append]
    (repeat (first | with_reducible refine T_nn ?_ | with_reducible refine T_tick ?_ | ((with_reducible apply T_ldI); (focus rfl); (focus exact hasA); (focus rfl)) | ((with_reducible apply T_ldM); (focus rfl); (focus exact hasA); (focus rfl))))
    refine T_bring (X := MpF eslot esl r cs) (.init (.init (.init .last))) ?_
    refine T_delF (ek := eslot) (ev := esl) kd_slot (key := ((m : Int), (i : Int))) rfl ?_
    have ok1 := ok.glob hlt' s'
    have ok2 := ok1.del hm hlt'
    refine T.perm (Q := R * pt b (.cells [.int .i64 m, .int .i64 i].toArray 201) * MpF eslot esl r (delF cs ((m : Int), (i : Int))) * bigS 160 (vI (setN S i s') (setN L0 i (L0 i ++ L0 (ix m i)))) * pt a (.cells (glob (setN S i s') ++ [Value.map (some r)]).toArray 199)) (by rw [← bigIn (by omega)]; ac_rfl) ?_
    rw [bigS_out hix]
    refine T.perm (Q := R * MpF eslot esl r (delF cs ((m : Int), (i : Int))) * bigX 160 (vI (setN S i s') (setN L0 i (L0 i ++ L0 (ix m i)))) (ix m i) * pt a (.cells (glob (setN (setN S i s') (ix m i) nilS) ++ [Value.map (some r)]).toArray 199) * (pt b (.cells [.int .i64 m, .int .i64 i].toArray 201) * vI (setN S i s') (setN L0 i (L0 i ++ L0 (ix m i))) (ix m i))) ?_ ?_
    · rw [glob_setN (setN S i s') (by unfold ix; omega)]; ac_rfl
    refine T.weak ?_
    refine vec_nilI _ ?_
    exact Fl_put hix ok2 hnext
  · have : i = 32 := by omega
    subst this
    exact hk
theorem free_List_c {a : Nat} {L : Nat → List Int} (hL : ∀ i, i < 160 → (L i).length ≤ 2 ^ 30) {k : Nat} (hk2 : k < 32) {kk : Sl → K} (hk : ∀ s, T B (R * Fl a L * vec 3 1 s (ints (sortI (accL L k 4)))) (kk s)) : T B (R * Fl a L) (c_free_Lists_List (da a) k kk) := by
  refine T_of (free_Lists_List_ok _ k kk) ?_
  refine class_Right_c ?_
  rw [decide_eq_true (by omega)]
  simp only [Bool.not_true]
  refine Fl_open fun S cs r ok => ?_
  unfold da
  (repeat (first | with_reducible refine T_nn ?_ | with_reducible refine T_brF ?_))
  refine T_gld (S := S) .last hk2 ?_
  have hl := hL k (by omega)
  have hacc := accL_len hL hk2
  refine clone_int_c (l := L k) (by omega) (Rd.init (Rd.tail (bigRd (S := S) (L := L) (by omega)))) fun x16 => ?_
  (dsimp only [free_Lists_List, Zde0, Zde1, Zde2, Zde3, Zde4, Zde5, Zde6, Zde7, Zde8, Zde9, Zde10, Zde11])
  refine T_lpX (fun _ s => R * MpF eslot esl r cs * bigS 160 (vI S L) * pt a (.cells (glob S ++ [Value.map (some r)]).toArray 199) * vec 3 1 s.1 (ints (accL L k s.2.1.toNat))) (fun n (z : Sl × Int × Unit) => ∃ i : Nat, z.2.1 = i ∧ i ≤ 4 ∧ n = 4 - i) 4 rfl ⟨0, rfl, by omega, rfl⟩ ?_
  rintro n ⟨out, z, u⟩ c ⟨i, e1, e2, e3⟩ hc
  simp only at e1
  subst e1 e3
  simp only [Int.toNat_natCast]
  (repeat' (first | with_reducible refine T_nn ?_ | ((with_reducible apply T_ldM); (focus rfl); (focus exact hasA); (focus rfl)) | with_reducible refine T_brD (fun _ => ?_) (fun _ => ?_)))
  · have hlt : i < 4 := by omega
    have hix : ix i k < 160 := by unfold ix; omega
    refine T_lkSlot (cs := cs) (MHas.init (MHas.init (MHas.init (MHas.of .last)))) fun ob bb => ?_
    rw [ok.eq i k hlt hk2]
    have hrd := bigRd (S := S) (L := L) hix
    refine T_rdlen (Rd.init (Rd.init (Rd.tail hrd))) fun hnn => ?_
    rw [ints_len, Nat.mul_one] at hnn
    have h1 := hL _ hix
    have h2 := hacc i e2
    have h3 : (i + 1) * 2 ^ 30 ≤ 5 * 2 ^ 30 := Nat.mul_le_mul_right _ (by omega)
    refine T_append (s := out) (vs := ints (accL L k i)) (x := S (ix i k)) (new := ints (L (ix i k))) kd_int (Rd.init (Rd.tail hrd)) (ints_scal _) (by rw [ints_len]; omega) fun s' => ?_
    have := hc (4 - (i + 1)) (s', IntKind.wrap .i64 ((i : Int) + 1), ()) (by omega) ⟨i + 1, w64 (by omega) (by omega), by omega, rfl⟩
    have e : (IntKind.wrap .i64 ((i : Int) + 1)).toNat = i + 1 := by rw [w64 (by omega) (by omega)]; omega
    simp only [e] at this
    rw [← ints_append]
    exact this
  · have h4 : i = 4 := by omega
    subst h4
    have h2 := hacc 4 (by omega)
    refine sort_int_c (by omega) ?_
    have := hk out
    refine T_bring (X := vec 3 1 out (ints (sortI (accL L k 4)))) .last ?_
    refine T.perm (Q := R * vec 3 1 out (ints (sortI (accL L k 4))) * MpF eslot esl r cs * bigS 160 (vI S L) * pt a (.cells (glob S ++ [Value.map (some r)]).toArray 199)) (by ac_rfl) ?_
    refine Fl_close ok ?_
    exact T.perm (by ac_rfl) this
/-- ascending by their firsts -/
theorem runs_List_c {x : Nat} {lim : Int} {F : RF} {k : Sl → K} (ok : RunsOk lim F) (hk : ∀ s l, Cov F l → l.Pairwise (fun p q => p.1 ≤ q.1) → T B (R * Idx x lim F * vec 152 2 s (prs l)) (k s)) : T B (R * Idx x lim F) (c_runs_Index_List (da x) k) := by
  refine T_of (runs_Index_List_ok _ k) ?_
  unfold da
  refine Idx_open fun r1 r2 E hE => ?_
  (repeat (first | with_reducible refine T_nn ?_ | ((with_reducible apply T_ldM); (focus rfl); (focus exact hasA); (focus rfl))))
  (dsimp only [runs_Index_List, Zdf0, Zdf1, Zdf2, Zdf3, Zdf4, Zdf5, Zdf6, Zdf7])
  refine T_bring (X := MpF ei ei r1 F) (.init (.init .last)) ?_
  have hB := ok.big
  have cl : ∀ s l t, T B (R * Idx x lim F * vec 152 2 s (prs l)) t → T B (R * MpF ei ei r2 E * pt x (.cells [.map (some r1), .map (some r2), .int .i64 lim].toArray 242) * vec 152 2 s (prs l) * MpF ei ei r1 F) t := by
    intro s l t h
    have h2 : T B (R * vec 152 2 s (prs l) * Idx x lim F) t := T.perm (by ac_rfl) h
    exact T.perm (by ac_rfl) (Idx_close (r1 := r1) (r2 := r2) hE h2)
  refine T_rangeF (f := F) (ek := ei) (ev := ei) kd_ii (fun z sn => R * MpF ei ei r2 E * pt x (.cells [.map (some r1), .map (some r2), .int .i64 lim].toArray 242) * vec 152 2 z.1 (prs sn.reverse)) (fun z sn => Sub F sn) (fun t h => ?_) ⟨by simp, by simp⟩ ?_ ?_
  · refine T_vecN (E := 152) (sz := 2) (s := ⟨none, 0, 0⟩) rfl rfl ?_
    exact T.perm (by simp only [List.reverse_nil]; show _ = _ * vec 152 2 ⟨none, 0, 0⟩ [] * _; ac_rfl) h
  · rintro ⟨z, u⟩ sn key v It c hS hf hni hM hW hc
    have hS' := hS.cons hf hni
    have l1 := hS'.len ok
    simp only [List.length_cons] at l1
    refine T_decI key rfl ?_
    refine T_decI v rfl ?_
    (repeat ((with_reducible refine T_al ?_; intro _)))
    rename_i b
    refine T.perm (Q := R * MpF ei ei r2 E * pt x (.cells [.map (some r1), .map (some r2), .int .i64 lim].toArray 242) * It * vec 152 2 z (prs sn.reverse) * pt b (.cells [.int .i64 key, .int .i64 v].toArray 152)) (by ac_rfl) ?_
    refine T_app1b (vs := prs sn.reverse) (new := [.int .i64 key, .int .i64 v]) kd_sp rfl rfl (by rw [prs_len]; simp; omega) fun s' => ?_
    have := hc (s', ()) hS'
    rw [List.reverse_cons, prs_append] at this
    exact T.perm (by show _ = _ * vec 152 2 s' (prs sn.reverse ++ prs [(key, v)]) * It; rw [show prs [(key, v)] = [.int .i64 key, .int .i64 v] from rfl]; ac_rfl) this
  · rintro ⟨z, u⟩ sn hS hnd hcov
    simp only
    have l1 := hS.len ok
    refine T_bring (X := vec 152 2 z (prs sn.reverse)) (.init .last) ?_
    refine sort_sp_c (by simp; omega) (fun p hp => ?_) fun l' hp hs => ?_
    · have := ok.rng _ _ (hS.mem p (by simpa using hp)); omega
    · have hcov' : Cov F l' := by
        have hp2 : l'.Perm sn := hp.trans (List.reverse_perm sn)
        refine ⟨(hp2.map (·.1)).nodup_iff.2 hnd, fun key v => ?_⟩
        rw [hcov, hp2.mem_iff]
      exact T.perm (by ac_rfl) (cl z l' _ (hk z l' hcov' hs))
end
end Go.Proofs.YtdgcbapclnnkkaaGreat.X
