/- Part 4 of the proof that the law holds for every input: the theorems of this part. Conditions: each theorem bears its own; the last has none. -/
import Derived.Test.YtdgcbapclnnkkaaGreatKc
import Derived.RangeFuncNested
import Derived.RangeFuncBound
import Derived.RangeFuncCalls
import Derived.RangeFuncLeaves
import Derived.Maps.RangeRun
set_option linter.all false
set_option maxRecDepth 4000
namespace Go.Proofs.YtdgcbapclnnkkaaGreat.X
open Go
section
set_option maxRecDepth 100000
abbrev Zev0 (k : (Bool → K)) (x4 : Bool) : K :=
  k x4
abbrev Zev1 (k : (Bool → K)) (x5 : Addr) (x11_1 : Int) : K :=
  ldP (x5.add 0) fun x85 =>
  nn x85 fun x86 =>
  ldP (x86.add 0) fun x88 =>
  nn x88 fun x89 =>
  ldP (x89.add 0) fun x91 =>
  c_blocks_Table_Len x91 fun x92 =>
  Zev0 k (x11_1 == (IntKind.wrap .i64 (512 * (IntKind.wrap .i64 (x92 - 1)))))
abbrev Zev2 (x12_1 : Int) (c : ((Int × Int × Unit) → K)) (x11_3 : Int) : K :=
  c (x11_3, (IntKind.wrap .i64 (x12_1 + 1)), ())
abbrev Zev3 (x5 : Addr) (x10 : Sl) (x11_2 : Int) (x12_1 : Int) (c : ((Int × Int × Unit) → K)) : K :=
  ldP (x5.add 0) fun x75 =>
  c_alloc_Allocator_Objects x75 fun x76 =>
  c_ref16_Free x10 x12_1 x76 fun x77 =>
  c_ref06_Words x12_1 fun x80 =>
  Zev2 x12_1 c (IntKind.wrap .i64 (x11_2 + (IntKind.wrap .i64 (((x77.n : Nat) : Int) * x80))))
abbrev Zev4 (k : (Bool → K)) (x5 : Addr) (x10 : Sl) (x11_2 : Int) (x12_1 : Int) (c : ((Int × Int × Unit) → K)) (x68 : Bool) : K :=
  brK x68
  (Zev3 x5 x10 x11_2 x12_1 c)
  (Zev1 k x5 x11_2)
abbrev Zev5 (k : (Bool → K)) (x5 : Addr) (x10 : Sl) (x11_2 : Int) (x12_1 : Int) (c : ((Int × Int × Unit) → K)) : K :=
  Zev4 k x5 x10 x11_2 x12_1 c (decide (x12_1 < 32))
abbrev Zev6 (k : (Bool → K)) (x5 : Addr) (x10 : Sl) (x11 : Int) (x12 : Int) : K :=
  lp (fun (z_ : (Int × Int × Unit)) c_ => Zev5 k x5 x10 z_.1 z_.2.1 c_) (x11, x12, ())
abbrev Zev7 (k : (Bool → K)) (x5 : Addr) (x10 : Sl) (x11 : Int) : K :=
  Zev6 k x5 x10 x11 0
abbrev Zev8 (k : (Bool → K)) (x5 : Addr) (x7 : Addr) (x10 : Sl) : K :=
  ldI .i64 (x7.add 0) fun x59 =>
  ldI .i64 (x7.add 4) fun x62 =>
  ldI .i64 (x7.add 6) fun x65 =>
  Zev7 k x5 x10 (IntKind.wrap .i64 ((IntKind.wrap .i64 ((IntKind.wrap .i64 (512 * x59)) + x62)) + x65))
abbrev Zev9 (k : (Bool → K)) (x4_1 : Bool) : K :=
  k x4_1
abbrev Zev10 (k : (Bool → K)) (x5 : Addr) (x7 : Addr) (x10 : Sl) (x57 : Bool) : K :=
  brK x57
  (Zev9 k false)
  (Zev8 k x5 x7 x10)
abbrev Zev11 (k : (Bool → K)) (x5 : Addr) (x7 : Addr) (x8 : Int) (x9 : Int) (x10 : Sl) : K :=
  tick fun _ =>
  brK (x9 != 0)
  (Zev10 k x5 x7 x10 true)
  (brK (x8 != 0)
  (Zev10 k x5 x7 x10 true)
  (ldI .i64 (x7.add 0) fun x47_0 =>
  ldI .i64 (x7.add 1) fun x47_1 =>
  ldI .i64 (x7.add 2) fun x47_2 =>
  ldI .i64 (x7.add 3) fun x47_3 =>
  ldI .i64 (x7.add 4) fun x47_4 =>
  ldI .i64 (x7.add 5) fun x47_5 =>
  ldI .i64 (x7.add 6) fun x47_6 =>
  ldP (x5.add 0) fun x49_0 =>
  ldP (x5.add 1) fun x49_1 =>
  ldS (x5.add 2) fun x49_2 =>
  ldP (x5.add 0) fun x53 =>
  c_law28_report (x47_0, (x47_1, (x47_2, (x47_3, (x47_4, (x47_5, x47_6)))))) fun x48 =>
  chk [.cell (x5.add 0) (.pointer x53), .cell (x5.add 0) (.pointer x49_0), .cell (x5.add 1) (.pointer x49_1), .cell (x5.add 2) (x49_2.v)] fun _ =>
  c_law20_World_Now (x49_0, (x49_1, x49_2)) fun x50 =>
  chk [.cell (x5.add 0) (.pointer x53)] fun _ =>
  c_alloc_Allocator_Objects x53 fun x54 =>
  c_ref28_Count (x50.1, (x50.2.1, (x50.2.2.1, (x50.2.2.2.1, (x50.2.2.2.2.1, (x50.2.2.2.2.2.1, (x50.2.2.2.2.2.2.1, x50.2.2.2.2.2.2.2))))))) x10 x54 fun x55 =>
  eqA Tryz.prog 97 (.agg x48.toArray) (.agg x55.toArray) fun eq =>
  Zev10 k x5 x7 x10 (!eq)))
abbrev Zev12 (k : (Bool → K)) (x5 : Addr) (x7 : Addr) (x8 : Int) (x9 : Int) : K :=
  ldP (x5.add 0) fun x31 =>
  nn x31 fun x32 =>
  ldP (x32.add 0) fun x34 =>
  nn x34 fun x35 =>
  ldP (x35.add 0) fun x37 =>
  c_blocks_Table_All x37 fun x38 =>
  c_law07_Refs x38 fun x39 =>
  Zev11 k x5 x7 x8 x9 x39
abbrev Zev13 (k : (Bool → K)) (x5 : Addr) : K :=
  ldP (x5.add 0) fun x25 =>
  c_check_Whole x25 fun x26 =>
  alK (.cells #[.int .i64 0, .int .i64 0, .int .i64 0, .int .i64 0, .int .i64 0, .int .i64 0, .int .i64 0] 93) fun b =>
  stK (Addr.add ⟨b, 0, none⟩ 0) (.int .i64 x26.1.1) <|
  stK (Addr.add ⟨b, 0, none⟩ 1) (.int .i64 x26.1.2.1) <|
  stK (Addr.add ⟨b, 0, none⟩ 2) (.int .i64 x26.1.2.2.1) <|
  stK (Addr.add ⟨b, 0, none⟩ 3) (.int .i64 x26.1.2.2.2.1) <|
  stK (Addr.add ⟨b, 0, none⟩ 4) (.int .i64 x26.1.2.2.2.2.1) <|
  stK (Addr.add ⟨b, 0, none⟩ 5) (.int .i64 x26.1.2.2.2.2.2.1) <|
  stK (Addr.add ⟨b, 0, none⟩ 6) (.int .i64 x26.1.2.2.2.2.2.2) <|
  Zev12 k x5 ⟨b, 0, none⟩ x26.2.1 x26.2.2
abbrev Zev14 (k : (Bool → K)) (x4_2 : Bool) : K :=
  k x4_2
abbrev Zev15 (k : (Bool → K)) (x5 : Addr) (x22 : Bool) : K :=
  brK x22
  (Zev14 k false)
  (Zev13 k x5)
abbrev Zev16 (k : (Bool → K)) (x5 : Addr) (x6 : Bool) : K :=
  Zev15 k x5 (!x6)
abbrev Zev17 (x0 : Int) (x1 : Sl) (k : (Bool → K)) : K :=
  c_law28_played x0 x1 fun x18 =>
  alK (.cells #[.pointer none, .pointer none, .slice none 0 0] 29) fun b_1 =>
  stK (Addr.add ⟨b_1, 0, none⟩ 0) (.pointer x18.1.1) <|
  stK (Addr.add ⟨b_1, 0, none⟩ 1) (.pointer x18.1.2.1) <|
  stK (Addr.add ⟨b_1, 0, none⟩ 2) (x18.1.2.2.v) <|
  Zev16 k ⟨b_1, 0, none⟩ x18.2
abbrev Zev18 (k : (Bool → K)) (x4_3 : Bool) : K :=
  k x4_3
abbrev Zev19 (x0 : Int) (x1 : Sl) (k : (Bool → K)) (x14 : Bool) : K :=
  brK x14
  (Zev18 k false)
  (Zev17 x0 x1 k)
abbrev Zev20 (x0 : Int) (x1 : Sl) (k : (Bool → K)) : K :=
  c_law28_awake fun x13 =>
  Zev19 x0 x1 k (!x13)
abbrev law28_CheckWhole (x0 : Int) (x1 : Sl) : M Bool := fun k =>
  Zev20 x0 x1 k
theorem law28_CheckWhole_ok (x0 : Int) (x1 : Sl) (k : Bool → K) (w : World) (hyp_ : law28_CheckWhole x0 x1 k w) : c_law28_CheckWhole x0 x1 k w :=
  cl_of (P := Tryz.prog) Tryz.func7 rfl (by kernel_rfl)
  (Qs [] [0, 1] (fun z_ => Zev20 x0 x1 k)
  Qz
  (fun _ => Qs [] [0, 1] (fun z_ => Zev17 x0 x1 k)
  (Qs [(14, .bool)] [0, 1] (fun z_ => Zev19 x0 x1 k z_.1)
  Qz
  (fun ⟨x14, _⟩ => Qc (x14) (Zev18 k false) (Zev17 x0 x1 k) (Qs [(4, .bool)] [] (fun z_ => Zev18 k z_.1)
  Qz
  (fun ⟨x4_3, _⟩ => Qr)) Qk))
  (fun _ => Qs [(5, .addr), (6, .bool)] [] (fun z_ => Zev16 k z_.1 z_.2.1)
  Qz
  (fun ⟨x5, x6, _⟩ => Qs [] [5] (fun z_ => Zev13 k x5)
  (Qs [(22, .bool)] [5] (fun z_ => Zev15 k x5 z_.1)
  Qz
  (fun ⟨x22, _⟩ => Qc (x22) (Zev14 k false) (Zev13 k x5) (Qs [(4, .bool)] [] (fun z_ => Zev14 k z_.1)
  Qz
  (fun ⟨x4_2, _⟩ => Qr)) Qk))
  (fun _ => Qs [(7, .addr), (8, .int .i64), (9, .int .i64)] [5] (fun z_ => Zev12 k x5 z_.1 z_.2.1 z_.2.2.1)
  Qz
  (fun ⟨x7, x8, x9, _⟩ => Qs [(10, .slice)] [5, 7, 8, 9] (fun z_ => Zev11 k x5 x7 x8 x9 z_.1)
  Qz
  (fun ⟨x10, _⟩ => Qs [] [5, 7, 10] (fun z_ => Zev8 k x5 x7 x10)
  (Qs [(57, .bool)] [5, 7, 10] (fun z_ => Zev10 k x5 x7 x10 z_.1)
  (RefK.draw [2, 6] [0, 1, 3, 7, 15, 31, 63, 127, 255, 127, 1023, 127, 127, 4223, 14335, 32767, 65535, 131071] [0, 1, 2, 3, 4, 5, 6, 7, 9, 11, 12, 13, 8, 10, 14, 15, 16, 17] [0, 1, 2, 3, 4, 5, 6, 7, 8, 9, 10, 11, 12, 13, 14, 15, 16, 17] (by kernel_rfl) (by kernel_rfl))
  (fun ⟨x57, _⟩ => Qc (x57) (Zev9 k false) (Zev8 k x5 x7 x10) (Qs [(4, .bool)] [] (fun z_ => Zev9 k z_.1)
  Qz
  (fun ⟨x4_1, _⟩ => Qr)) Qk))
  (fun _ => Qs [(11, .int .i64)] [5, 10] (fun z_ => Zev7 k x5 x10 z_.1)
  Qz
  (fun ⟨x11, _⟩ => Qs [(11, .int .i64)] [5] (fun z_ => Zev1 k x5 z_.1)
  (Qs [(12, .int .i64)] [5, 10, 11] (fun z_ => Zev6 k x5 x10 x11 z_.1)
  Qz
  (fun ⟨x12, _⟩ => Qb (Ql [(11, .int .i64), (12, .int .i64)] [5, 10] (fun (z_ : (Int × Int × Unit)) c_ => Zev5 k x5 x10 z_.1 z_.2.1 c_) (x11, x12, ())
  (fun ⟨x11_2, x12_1, _⟩ c => Qs [] [5, 10, 11, 12] (fun z_ => Zev3 x5 x10 x11_2 x12_1 c)
  (Qs [(68, .bool)] [5, 10, 11, 12] (fun z_ => Zev4 k x5 x10 x11_2 x12_1 c z_.1)
  Qz
  (fun ⟨x68, _⟩ => Qc (x68) (Zev3 x5 x10 x11_2 x12_1 c) (Zev1 k x5 x11_2) Qk Qx))
  (fun _ => Qs [(11, .int .i64)] [5, 10, 12] (fun z_ => Zev2 x12_1 c z_.1)
  (Qb Qz)
  (fun ⟨x11_3, _⟩ => Qz))))))
  (fun ⟨x11_1, _⟩ => Qs [(4, .bool)] [] (fun z_ => Zev0 k z_.1)
  Qz
  (fun ⟨x4, _⟩ => Qr))))))))))) hyp_
abbrev Zew0 (k : (Sl → K)) (x2 : Sl) : K :=
  k x2
abbrev Zew1 (k : (Sl → K)) (out_1 : Sl) : K :=
  Zew0 k out_1
abbrev Zew2 (i_1 : Int) (c : ((Sl × Int × Unit) → K)) (out_3 : Sl) : K :=
  c (out_3, (IntKind.wrap .i64 (i_1 + 1)), ())
abbrev Zew3 (l : Sl) (out_2 : Sl) (i_1 : Int) (c : ((Sl × Int × Unit) → K)) : K :=
  ixS l.p l.n i_1 3 fun x14 =>
  ldI .i64 (x14.add 0) fun x15_0 =>
  ldI .i64 (x14.add 1) fun x15_1 =>
  ldI .i64 (x14.add 2) fun x15_2 =>
  c_law07_Ref (x15_0, (x15_1, x15_2)) fun x16 =>
  alK (.cells #[.int .i64 x16.1, .int .i64 x16.2.1, .int .i64 x16.2.2] 141) fun b =>
  semT Tryz.prog (Builtin.append_ #[78, 78] 78 #[out_2.v, .slice (some ⟨b, 0, none⟩) 1 1]) (.one (.sc (.slice))) fun x18 =>
  Zew2 i_1 c x18
abbrev Zew4 (l : Sl) (k : (Sl → K)) (out_2 : Sl) (i_1 : Int) (c : ((Sl × Int × Unit) → K)) (x8 : Bool) : K :=
  brK x8
  (Zew3 l out_2 i_1 c)
  (Zew1 k out_2)
abbrev Zew5 (l : Sl) (k : (Sl → K)) (out_2 : Sl) (i_1 : Int) (c : ((Sl × Int × Unit) → K)) : K :=
  Zew4 l k out_2 i_1 c (decide (i_1 < ((l.n : Nat) : Int)))
abbrev Zew6 (l : Sl) (k : (Sl → K)) (out : Sl) (i : Int) : K :=
  lp (fun (z_ : (Sl × Int × Unit)) c_ => Zew5 l k z_.1 z_.2.1 c_) (out, i, ())
abbrev Zew7 (l : Sl) (k : (Sl → K)) (out : Sl) : K :=
  Zew6 l k out 0
abbrev law07_Refs (l : Sl) : M Sl := fun k =>
  Zew7 l k ⟨none, 0, 0⟩
theorem law07_Refs_ok (l : Sl) (k : Sl → K) (w : World) (hyp_ : law07_Refs l k w) : c_law07_Refs l k w :=
  cl_of (P := Tryz.prog) Tryz.func35 rfl (by kernel_rfl)
  (Qs [] [0] (fun z_ => Zew7 l k ⟨none, 0, 0⟩)
  Qz
  (fun _ => Qs [(3, .slice)] [0] (fun z_ => Zew7 l k z_.1)
  Qz
  (fun ⟨out, _⟩ => Qs [(3, .slice)] [] (fun z_ => Zew1 k z_.1)
  (Qs [(4, .int .i64)] [0, 3] (fun z_ => Zew6 l k out z_.1)
  Qz
  (fun ⟨i, _⟩ => Qb (Ql [(3, .slice), (4, .int .i64)] [0] (fun (z_ : (Sl × Int × Unit)) c_ => Zew5 l k z_.1 z_.2.1 c_) (out, i, ())
  (fun ⟨out_2, i_1, _⟩ c => Qs [] [0, 3, 4] (fun z_ => Zew3 l out_2 i_1 c)
  (Qs [(8, .bool)] [0, 3, 4] (fun z_ => Zew4 l k out_2 i_1 c z_.1)
  Qz
  (fun ⟨x8, _⟩ => Qc (x8) (Zew3 l out_2 i_1 c) (Zew1 k out_2) Qk Qx))
  (fun _ => Qs [(3, .slice)] [0, 4] (fun z_ => Zew2 i_1 c z_.1)
  (Qb Qz)
  (fun ⟨out_3, _⟩ => Qz))))))
  (fun ⟨out_1, _⟩ => Qs [(2, .slice)] [] (fun z_ => Zew0 k z_.1)
  Qz
  (fun ⟨x2, _⟩ => Qr))))) hyp_
abbrev Zex0 (k : (Bool → K)) (x0 : Bool) : K :=
  k x0
abbrev Zex1 (k : (Bool → K)) (r : Addr) (at_1 : Int) (e : Int) : K :=
  brK (e == 0)
  (brK (at_1 == 0)
  (ldI .i64 (r.add 0) fun x26_0 =>
  ldI .i64 (r.add 1) fun x26_1 =>
  ldI .i64 (r.add 2) fun x26_2 =>
  ldI .i64 (r.add 3) fun x26_3 =>
  ldI .i64 (r.add 4) fun x26_4 =>
  ldI .i64 (r.add 5) fun x26_5 =>
  ldI .i64 (r.add 6) fun x26_6 =>
  Zex0 k ((x26_0 == 3) && ((x26_1 == 0) && ((x26_2 == 0) && ((x26_3 == 0) && ((x26_4 == 0) && ((x26_5 == 0) && ((x26_6 == 0) && true))))))))
  (Zex0 k false))
  (Zex0 k false)
abbrev Zex2 (k : (Bool → K)) (w_1 : Addr) : K :=
  ldP (w_1.add 0) fun x14 =>
  c_check_Whole x14 fun x15 =>
  alK (.cells #[.int .i64 0, .int .i64 0, .int .i64 0, .int .i64 0, .int .i64 0, .int .i64 0, .int .i64 0] 93) fun b =>
  stK (Addr.add ⟨b, 0, none⟩ 0) (.int .i64 x15.1.1) <|
  stK (Addr.add ⟨b, 0, none⟩ 1) (.int .i64 x15.1.2.1) <|
  stK (Addr.add ⟨b, 0, none⟩ 2) (.int .i64 x15.1.2.2.1) <|
  stK (Addr.add ⟨b, 0, none⟩ 3) (.int .i64 x15.1.2.2.2.1) <|
  stK (Addr.add ⟨b, 0, none⟩ 4) (.int .i64 x15.1.2.2.2.2.1) <|
  stK (Addr.add ⟨b, 0, none⟩ 5) (.int .i64 x15.1.2.2.2.2.2.1) <|
  stK (Addr.add ⟨b, 0, none⟩ 6) (.int .i64 x15.1.2.2.2.2.2.2) <|
  Zex1 k ⟨b, 0, none⟩ x15.2.1 x15.2.2
abbrev Zex3 (k : (Bool → K)) (x0_1 : Bool) : K :=
  k x0_1
abbrev Zex4 (k : (Bool → K)) (w_1 : Addr) (x11 : Bool) : K :=
  brK x11
  (Zex3 k false)
  (Zex2 k w_1)
abbrev Zex5 (k : (Bool → K)) (w_1 : Addr) (ok : Bool) : K :=
  Zex4 k w_1 (!ok)
abbrev Zex6 (k : (Bool → K)) : K :=
  c_law20_Begun 4 fun x7 =>
  alK (.cells #[.pointer none, .pointer none, .slice none 0 0] 29) fun b_1 =>
  stK (Addr.add ⟨b_1, 0, none⟩ 0) (.pointer x7.1.1) <|
  stK (Addr.add ⟨b_1, 0, none⟩ 1) (.pointer x7.1.2.1) <|
  stK (Addr.add ⟨b_1, 0, none⟩ 2) (x7.1.2.2.v) <|
  Zex5 k ⟨b_1, 0, none⟩ x7.2
abbrev law28_awake : M Bool := fun k =>
  Zex6 k
theorem law28_awake_ok (k : Bool → K) (w : World) (hyp_ : law28_awake k w) : c_law28_awake k w :=
  cl_of (P := Tryz.prog) Tryz.func45 rfl (by kernel_rfl)
  (Qs [] [] (fun z_ => Zex6 k)
  Qz
  (fun _ => Qs [(1, .addr), (2, .bool)] [] (fun z_ => Zex5 k z_.1 z_.2.1)
  Qz
  (fun ⟨w_1, ok, _⟩ => Qs [] [1] (fun z_ => Zex2 k w_1)
  (Qs [(11, .bool)] [1] (fun z_ => Zex4 k w_1 z_.1)
  Qz
  (fun ⟨x11, _⟩ => Qc (x11) (Zex3 k false) (Zex2 k w_1) (Qs [(0, .bool)] [] (fun z_ => Zex3 k z_.1)
  Qz
  (fun ⟨x0_1, _⟩ => Qr)) Qk))
  (fun _ => Qs [(3, .addr), (4, .int .i64), (5, .int .i64)] [] (fun z_ => Zex1 k z_.1 z_.2.1 z_.2.2.1)
  Qz
  (fun ⟨r, at_1, e, _⟩ => Qs [(0, .bool)] [] (fun z_ => Zex0 k z_.1)
  (Qp [2, 6])
  (fun ⟨x0, _⟩ => Qr)))))) hyp_
abbrev Zey0 (k : (((OA × (OA × Sl)) × Bool) → K)) (x4 : Addr) (x5 : Bool) : K :=
  ldP (x4.add 0) fun x4_0 =>
  ldP (x4.add 1) fun x4_1 =>
  ldS (x4.add 2) fun x4_2 =>
  k ((x4_0, (x4_1, x4_2)), x5)
abbrev Zey1 (k : (((OA × (OA × Sl)) × Bool) → K)) (x4 : Addr) (x6 : Addr) (x7 : Bool) : K :=
  ldP (x6.add 0) fun x86_0 =>
  ldP (x6.add 1) fun x86_1 =>
  ldS (x6.add 2) fun x86_2 =>
  stK (x4.add 0) (.pointer x86_0) <|
  stK (x4.add 1) (.pointer x86_1) <|
  stK (x4.add 2) (x86_2.v) <|
  Zey0 k x4 x7
abbrev Zey2 (x6 : Addr) (x8_1 : Int) (c : ((Int × Unit) → K)) (x9 : Addr) (x10 : Sl) : K :=
  tick fun _ =>
  ldP (x6.add 0) fun x67 =>
  ldI .i64 (x9.add 1) fun x69 =>
  ldI .i64 (x9.add 2) fun x72 =>
  nz ((x10.n : Nat) : Int) <|
  ixS x10.p x10.n (Int.tmod x72 ((x10.n : Nat) : Int)) 1 fun x76 =>
  ldI .i64 x76 fun x77 =>
  c_alloc_Allocator_Free x67 x69 x77 fun x78 =>
  c ((IntKind.wrap .i64 (x8_1 + 1)), ())
abbrev Zey3 (x6 : Addr) (x8_1 : Int) (c : ((Int × Unit) → K)) (x9 : Addr) (x10 : Sl) (x65 : Bool) : K :=
  brK x65
  (Zey2 x6 x8_1 c x9 x10)
  (c ((IntKind.wrap .i64 (x8_1 + 1)), ()))
abbrev Zey4 (x6 : Addr) (x8_1 : Int) (c : ((Int × Unit) → K)) (x9 : Addr) : K :=
  ldP (x6.add 0) fun x82 =>
  ldI .i64 (x9.add 2) fun x84 =>
  c_alloc_Allocator_Trim x82 x84 fun x85 =>
  c ((IntKind.wrap .i64 (x8_1 + 1)), ())
abbrev Zey5 (x6 : Addr) (x8_1 : Int) (c : ((Int × Unit) → K)) (x9 : Addr) (x79 : Bool) : K :=
  brK x79
  (Zey4 x6 x8_1 c x9)
  (c ((IntKind.wrap .i64 (x8_1 + 1)), ()))
abbrev Zey6 (x6 : Addr) (x8_1 : Int) (c : ((Int × Unit) → K)) (x9 : Addr) (x10 : Sl) : K :=
  brK (decide (((x10.n : Nat) : Int) > 0))
  (ldI .i64 (x9.add 2) fun x63 =>
  Zey3 x6 x8_1 c x9 x10 (decide (x63 ≥ 0)))
  (Zey3 x6 x8_1 c x9 x10 false)
abbrev Zey7 (x6 : Addr) (x8_1 : Int) (c : ((Int × Unit) → K)) (x9 : Addr) (x10 : Sl) (x40 : Int) (x56 : Bool) : K :=
  brK x56
  (Zey6 x6 x8_1 c x9 x10)
  (Zey5 x6 x8_1 c x9 (x40 == 2))
abbrev Zey8 (x6 : Addr) (x8_1 : Int) (c : ((Int × Unit) → K)) (x9 : Addr) : K :=
  ldP (x6.add 0) fun x44 =>
  ldI .i64 (x9.add 1) fun x46 =>
  ldI .i64 (x9.add 2) fun x48 =>
  ldI .i64 (x9.add 3) fun x52 =>
  c_alloc_Allocator_Alloc x44 x46 (min2I (max2I x48 0) 63) (min2I (max2I x52 0) 1500) fun x55 =>
  c ((IntKind.wrap .i64 (x8_1 + 1)), ())
abbrev Zey9 (x6 : Addr) (x8_1 : Int) (c : ((Int × Unit) → K)) (x9 : Addr) (x10 : Sl) (x40 : Int) (x41 : Bool) : K :=
  brK x41
  (Zey8 x6 x8_1 c x9)
  (Zey7 x6 x8_1 c x9 x10 x40 (x40 == 1))
abbrev Zey10 (x6 : Addr) (x8_1 : Int) (c : ((Int × Unit) → K)) (x9 : Addr) (x10 : Sl) (x40 : Int) : K :=
  Zey9 x6 x8_1 c x9 x10 x40 (x40 == 0)
abbrev Zey11 (x6 : Addr) (x8_1 : Int) (c : ((Int × Unit) → K)) (x9 : Addr) (x10 : Sl) : K :=
  ldI .i64 (x9.add 0) fun x40_1 =>
  Zey10 x6 x8_1 c x9 x10 x40_1
abbrev Zey12 (x6 : Addr) (x8_1 : Int) (c : ((Int × Unit) → K)) (x9 : Addr) : K :=
  ldP (x6.add 0) fun x37 =>
  c_alloc_Allocator_Objects x37 fun x38 =>
  Zey11 x6 x8_1 c x9 x38
abbrev Zey13 (x1 : Sl) (x6 : Addr) (x8_1 : Int) (c : ((Int × Unit) → K)) : K :=
  ixS x1.p x1.n x8_1 4 fun x34 =>
  ldI .i64 (x34.add 0) fun x35_0 =>
  ldI .i64 (x34.add 1) fun x35_1 =>
  ldI .i64 (x34.add 2) fun x35_2 =>
  ldI .i64 (x34.add 3) fun x35_3 =>
  alK (.cells #[.int .i64 0, .int .i64 0, .int .i64 0, .int .i64 0] 137) fun b =>
  stK (Addr.add ⟨b, 0, none⟩ 0) (.int .i64 x35_0) <|
  stK (Addr.add ⟨b, 0, none⟩ 1) (.int .i64 x35_1) <|
  stK (Addr.add ⟨b, 0, none⟩ 2) (.int .i64 x35_2) <|
  stK (Addr.add ⟨b, 0, none⟩ 3) (.int .i64 x35_3) <|
  Zey12 x6 x8_1 c ⟨b, 0, none⟩
abbrev Zey14 (x1 : Sl) (k : (((OA × (OA × Sl)) × Bool) → K)) (x4 : Addr) (x6 : Addr) (x7 : Bool) (x8_1 : Int) (c : ((Int × Unit) → K)) (x29 : Bool) : K :=
  brK x29
  (Zey13 x1 x6 x8_1 c)
  (Zey1 k x4 x6 x7)
abbrev Zey15 (x1 : Sl) (k : (((OA × (OA × Sl)) × Bool) → K)) (x4 : Addr) (x6 : Addr) (x7 : Bool) (x8_1 : Int) (c : ((Int × Unit) → K)) : K :=
  brK x7
  (brK (decide (x8_1 < ((x1.n : Nat) : Int)))
  (Zey14 x1 k x4 x6 x7 x8_1 c (decide (x8_1 < 50)))
  (Zey14 x1 k x4 x6 x7 x8_1 c false))
  (Zey14 x1 k x4 x6 x7 x8_1 c false)
abbrev Zey16 (x1 : Sl) (k : (((OA × (OA × Sl)) × Bool) → K)) (x4 : Addr) (x6 : Addr) (x7 : Bool) (x8 : Int) : K :=
  lp (fun (z_ : (Int × Unit)) c_ => Zey15 x1 k x4 x6 x7 z_.1 c_) (x8, ())
abbrev Zey17 (x1 : Sl) (k : (((OA × (OA × Sl)) × Bool) → K)) (x4 : Addr) (x6 : Addr) (x7 : Bool) : K :=
  Zey16 x1 k x4 x6 x7 0
abbrev Zey18 (x0 : Int) (x1 : Sl) (k : (((OA × (OA × Sl)) × Bool) → K)) (x4 : Addr) : K :=
  c_law20_Begun (IntKind.wrap .i64 (2 + (IntKind.wrap .i64 (Int.tmod x0 7)))) fun x16 =>
  alK (.cells #[.pointer none, .pointer none, .slice none 0 0] 29) fun b_1 =>
  stK (Addr.add ⟨b_1, 0, none⟩ 0) (.pointer x16.1.1) <|
  stK (Addr.add ⟨b_1, 0, none⟩ 1) (.pointer x16.1.2.1) <|
  stK (Addr.add ⟨b_1, 0, none⟩ 2) (x16.1.2.2.v) <|
  Zey17 x1 k x4 ⟨b_1, 0, none⟩ x16.2
abbrev law28_played (x0 : Int) (x1 : Sl) : M ((OA × (OA × Sl)) × Bool) := fun k =>
  alK (.cells #[.pointer none, .pointer none, .slice none 0 0] 29) fun b_2 =>
  Zey18 x0 x1 k ⟨b_2, 0, none⟩
theorem law28_played_ok (x0 : Int) (x1 : Sl) (k : ((OA × (OA × Sl)) × Bool) → K) (w : World) (hyp_ : law28_played x0 x1 k w) : c_law28_played x0 x1 k w :=
  cl_of (P := Tryz.prog) Tryz.func46 rfl (by kernel_rfl)
  (Qs [(4, .addr)] [0, 1] (fun z_ => Zey18 x0 x1 k z_.1)
  Qz
  (fun ⟨x4, _⟩ => Qs [(6, .addr), (7, .bool)] [1, 4] (fun z_ => Zey17 x1 k x4 z_.1 z_.2.1)
  Qz
  (fun ⟨x6, x7, _⟩ => Qs [] [4, 6, 7] (fun z_ => Zey1 k x4 x6 x7)
  (Qs [(8, .int .i64)] [1, 4, 6, 7] (fun z_ => Zey16 x1 k x4 x6 x7 z_.1)
  Qz
  (fun ⟨x8, _⟩ => Qb (Ql [(8, .int .i64)] [1, 4, 6, 7] (fun (z_ : (Int × Unit)) c_ => Zey15 x1 k x4 x6 x7 z_.1 c_) (x8, ())
  (fun ⟨x8_1, _⟩ c => Qs [] [1, 4, 6, 7, 8] (fun z_ => Zey13 x1 x6 x8_1 c)
  (Qs [(29, .bool)] [1, 4, 6, 7, 8] (fun z_ => Zey14 x1 k x4 x6 x7 x8_1 c z_.1)
  (Qp [1, 7])
  (fun ⟨x29, _⟩ => Qc (x29) (Zey13 x1 x6 x8_1 c) (Zey1 k x4 x6 x7) Qk Qx))
  (fun _ => Qs [] [1, 4, 6, 7, 8] (fun z_ => c ((IntKind.wrap .i64 (x8_1 + 1)), ()))
  (Qb (Qs [(9, .addr)] [1, 4, 6, 7, 8] (fun z_ => Zey12 x6 x8_1 c z_.1)
  Qz
  (fun ⟨x9, _⟩ => Qs [(10, .slice)] [1, 4, 6, 7, 8, 9] (fun z_ => Zey11 x6 x8_1 c x9 z_.1)
  Qz
  (fun ⟨x10, _⟩ => Qs [(40, .int .i64)] [1, 4, 6, 7, 8, 9, 10] (fun z_ => Zey10 x6 x8_1 c x9 x10 z_.1)
  Qz
  (fun ⟨x40, _⟩ => Qb (Qs [(41, .bool)] [1, 4, 6, 7, 8, 9, 10, 40] (fun z_ => Zey9 x6 x8_1 c x9 x10 x40 z_.1)
  Qz
  (fun ⟨x41, _⟩ => Qc (x41) (Zey8 x6 x8_1 c x9) (Zey7 x6 x8_1 c x9 x10 x40 (x40 == 1)) Qz (Qs [(56, .bool)] [1, 4, 6, 7, 8, 9, 10, 40] (fun z_ => Zey7 x6 x8_1 c x9 x10 x40 z_.1)
  Qz
  (fun ⟨x56, _⟩ => Qc (x56) (Zey6 x6 x8_1 c x9 x10) (Zey5 x6 x8_1 c x9 (x40 == 2)) (Qs [(65, .bool)] [1, 4, 6, 7, 8, 9, 10] (fun z_ => Zey3 x6 x8_1 c x9 x10 z_.1)
  (Qp [3])
  (fun ⟨x65, _⟩ => Qc (x65) (Zey2 x6 x8_1 c x9 x10) (c ((IntKind.wrap .i64 (x8_1 + 1)), ())) (RefK.draw [] [0, 1, 0, 4, 0, 0, 32, 0, 128, 480, 1008, 2032, 4095] [0, 1, 2, 3, 4, 5, 6, 7, 8, 9, 10, 11, 12] [0, 1, 2, 3, 4, 5, 6, 7, 8, 9, 10, 11, 12] (by kernel_rfl) (by kernel_rfl)) Qk)) (Qs [(79, .bool)] [1, 4, 6, 7, 8, 9] (fun z_ => Zey5 x6 x8_1 c x9 z_.1)
  Qz
  (fun ⟨x79, _⟩ => Qc (x79) (Zey4 x6 x8_1 c x9) (c ((IntKind.wrap .i64 (x8_1 + 1)), ())) Qz Qk)))))))))))
  (fun _ => Qz))))))
  (fun _ => Qs [(5, .bool)] [4] (fun z_ => Zey0 k x4 z_.1)
  Qz
  (fun ⟨x5, _⟩ => Qr))))) hyp_
abbrev Zez0 (k : ((List Value) → K)) (x2 : Addr) : K :=
  ldBlob x2 7 fun x2_1 =>
  k x2_1
abbrev Zez1 (k : ((List Value) → K)) (r_1 : Addr) (x2 : Addr) : K :=
  ldI .i64 (r_1.add 0) fun x4 =>
  ldI .i64 (r_1.add 1) fun x6 =>
  ldI .i64 (r_1.add 2) fun x8 =>
  ldI .i64 (r_1.add 3) fun x10 =>
  ldI .i64 (r_1.add 4) fun x12 =>
  ldI .i64 (r_1.add 5) fun x14 =>
  ldI .i64 (r_1.add 6) fun x16 =>
  semU Tryz.prog (Instr.storeAt 97 (.pointer (some x2)) (.agg #[.int .i64 x4, .int .i64 x6, .int .i64 x8, .int .i64 x10, .int .i64 x12, .int .i64 x14, .int .i64 x16])) <|
  Zez0 k x2
abbrev law28_report (r : (Int × (Int × (Int × (Int × (Int × (Int × Int))))))) : M (List Value) := fun k =>
  alK (.cells #[.int .i64 r.1, .int .i64 r.2.1, .int .i64 r.2.2.1, .int .i64 r.2.2.2.1, .int .i64 r.2.2.2.2.1, .int .i64 r.2.2.2.2.2.1, .int .i64 r.2.2.2.2.2.2] 93) fun b =>
  alK (.cells #[.int .i64 0, .int .i64 0, .int .i64 0, .int .i64 0, .int .i64 0, .int .i64 0, .int .i64 0] 97) fun b_1 =>
  Zez1 k ⟨b, 0, none⟩ ⟨b_1, 0, none⟩
theorem law28_report_ok (r : (Int × (Int × (Int × (Int × (Int × (Int × Int))))))) (k : (List Value) → K) (w : World) (hyp_ : law28_report r k w) : c_law28_report r k w :=
  cl_of (P := Tryz.prog) Tryz.func48 rfl (by kernel_rfl)
  (Qs [(1, .addr), (2, .addr)] [] (fun z_ => Zez1 k z_.1 z_.2.1)
  Qz
  (fun ⟨r_1, x2, _⟩ => Qs [] [2] (fun z_ => Zez0 k x2)
  Qz
  (fun _ => Qr))) hyp_
abbrev Zfa0 (k : ((Sl × (Sl × (Sl × (Sl × (Sl × (Int × (Int × Bool))))))) → K)) (x2 : Addr) : K :=
  ldS (x2.add 0) fun x2_0 =>
  ldS (x2.add 1) fun x2_1 =>
  ldS (x2.add 2) fun x2_2 =>
  ldS (x2.add 3) fun x2_3 =>
  ldS (x2.add 4) fun x2_4 =>
  ldI .i64 (x2.add 5) fun x2_5 =>
  ldI .i64 (x2.add 6) fun x2_6 =>
  ldB (x2.add 7) fun x2_7 =>
  k (x2_0, (x2_1, (x2_2, (x2_3, (x2_4, (x2_5, (x2_6, x2_7)))))))
abbrev Zfa1 (k : ((Sl × (Sl × (Sl × (Sl × (Sl × (Int × (Int × Bool))))))) → K)) (x2 : Addr) (out_1 : Sl) : K :=
  c_ref03_Load out_1 fun x24 =>
  stK (x2.add 0) (x24.1.v) <|
  stK (x2.add 1) (x24.2.1.v) <|
  stK (x2.add 2) (x24.2.2.1.v) <|
  stK (x2.add 3) (x24.2.2.2.1.v) <|
  stK (x2.add 4) (x24.2.2.2.2.1.v) <|
  stK (x2.add 5) (.int .i64 x24.2.2.2.2.2.1) <|
  stK (x2.add 6) (.int .i64 x24.2.2.2.2.2.2.1) <|
  stK (x2.add 7) (.bool x24.2.2.2.2.2.2.2) <|
  Zfa0 k x2
abbrev Zfa2 (i_1 : Int) (c : ((Sl × Int × Unit) → K)) (out_3 : Sl) : K :=
  c (out_3, (IntKind.wrap .i64 (i_1 + 1)), ())
abbrev Zfa3 (w_2 : Addr) (out_2 : Sl) (i_1 : Int) (c : ((Sl × Int × Unit) → K)) : K :=
  ldP (w_2.add 1) fun x18 =>
  c_nvm_Device_Get x18 i_1 fun x20 =>
  alK (.cells #[.int .u64 x20] 109) fun b =>
  semT Tryz.prog (Builtin.append_ #[162, 162] 162 #[out_2.v, .slice (some ⟨b, 0, none⟩) 1 1]) (.one (.sc (.slice))) fun x22 =>
  Zfa2 i_1 c x22
abbrev Zfa4 (k : ((Sl × (Sl × (Sl × (Sl × (Sl × (Int × (Int × Bool))))))) → K)) (w_2 : Addr) (x2 : Addr) (out_2 : Sl) (i_1 : Int) (c : ((Sl × Int × Unit) → K)) (x13 : Bool) : K :=
  brK x13
  (Zfa3 w_2 out_2 i_1 c)
  (Zfa1 k x2 out_2)
abbrev Zfa5 (k : ((Sl × (Sl × (Sl × (Sl × (Sl × (Int × (Int × Bool))))))) → K)) (w_2 : Addr) (x2 : Addr) (out_2 : Sl) (i_1 : Int) (c : ((Sl × Int × Unit) → K)) : K :=
  ldP (w_2.add 1) fun x7 =>
  c_nvm_Device_Len x7 fun x8 =>
  brK (decide (i_1 < x8))
  (Zfa4 k w_2 x2 out_2 i_1 c (decide (i_1 < 8192)))
  (Zfa4 k w_2 x2 out_2 i_1 c false)
abbrev Zfa6 (k : ((Sl × (Sl × (Sl × (Sl × (Sl × (Int × (Int × Bool))))))) → K)) (w_2 : Addr) (x2 : Addr) (out : Sl) (i : Int) : K :=
  lp (fun (z_ : (Sl × Int × Unit)) c_ => Zfa5 k w_2 x2 z_.1 z_.2.1 c_) (out, i, ())
abbrev Zfa7 (k : ((Sl × (Sl × (Sl × (Sl × (Sl × (Int × (Int × Bool))))))) → K)) (w_2 : Addr) (x2 : Addr) (out : Sl) : K :=
  Zfa6 k w_2 x2 out 0
abbrev Zfa8 (k : ((Sl × (Sl × (Sl × (Sl × (Sl × (Int × (Int × Bool))))))) → K)) (w_2 : Addr) (x2 : Addr) : K :=
  Zfa7 k w_2 x2 ⟨none, 0, 0⟩
abbrev law20_World_Now (w_1 : (OA × (OA × Sl))) : M (Sl × (Sl × (Sl × (Sl × (Sl × (Int × (Int × Bool))))))) := fun k =>
  alK (.cells #[.pointer w_1.1, .pointer w_1.2.1, w_1.2.2.v] 29) fun b_1 =>
  alK (.cells #[.slice none 0 0, .slice none 0 0, .slice none 0 0, .slice none 0 0, .slice none 0 0, .int .i64 0, .int .i64 0, .bool false] 103) fun b_2 =>
  Zfa8 k ⟨b_1, 0, none⟩ ⟨b_2, 0, none⟩
theorem law20_World_Now_ok (w_1 : (OA × (OA × Sl))) (k : (Sl × (Sl × (Sl × (Sl × (Sl × (Int × (Int × Bool))))))) → K) (w : World) (hyp_ : law20_World_Now w_1 k w) : c_law20_World_Now w_1 k w :=
  cl_of (P := Tryz.prog) Tryz.func50 rfl (by kernel_rfl)
  (Qs [(1, .addr), (2, .addr)] [] (fun z_ => Zfa8 k z_.1 z_.2.1)
  Qz
  (fun ⟨w_2, x2, _⟩ => Qs [(3, .slice)] [1, 2] (fun z_ => Zfa7 k w_2 x2 z_.1)
  Qz
  (fun ⟨out, _⟩ => Qs [(3, .slice)] [2] (fun z_ => Zfa1 k x2 z_.1)
  (Qs [(4, .int .i64)] [1, 2, 3] (fun z_ => Zfa6 k w_2 x2 out z_.1)
  Qz
  (fun ⟨i, _⟩ => Qb (Ql [(3, .slice), (4, .int .i64)] [1, 2] (fun (z_ : (Sl × Int × Unit)) c_ => Zfa5 k w_2 x2 z_.1 z_.2.1 c_) (out, i, ())
  (fun ⟨out_2, i_1, _⟩ c => Qs [] [1, 2, 3, 4] (fun z_ => Zfa3 w_2 out_2 i_1 c)
  (Qs [(13, .bool)] [1, 2, 3, 4] (fun z_ => Zfa4 k w_2 x2 out_2 i_1 c z_.1)
  (Qp [5])
  (fun ⟨x13, _⟩ => Qc (x13) (Zfa3 w_2 out_2 i_1 c) (Zfa1 k x2 out_2) Qk Qx))
  (fun _ => Qs [(3, .slice)] [1, 2, 4] (fun z_ => Zfa2 i_1 c z_.1)
  (Qb Qz)
  (fun ⟨out_3, _⟩ => Qz))))))
  (fun ⟨out_1, _⟩ => Qs [] [2] (fun z_ => Zfa0 k x2)
  Qz
  (fun _ => Qr))))) hyp_
abbrev Zfb0 (k : (((OA × (OA × Sl)) × Bool) → K)) (x2 : Addr) (x3 : Bool) : K :=
  ldP (x2.add 0) fun x2_0 =>
  ldP (x2.add 1) fun x2_1 =>
  ldS (x2.add 2) fun x2_2 =>
  k ((x2_0, (x2_1, x2_2)), x3)
abbrev Zfb1 (k : (((OA × (OA × Sl)) × Bool) → K)) (x2 : Addr) (d : OA) (e_1 : Int) (a : OA) : K :=
  tick fun _ =>
  brK (e_1 == 0)
  (brK (!(Option.isNone a))
  (nn a fun x53 =>
  ldP (x53.add 0) fun x55 =>
  stK (x2.add 0) (.pointer a) <|
  stK (x2.add 1) (.pointer d) <|
  stK (x2.add 2) (.slice none 0 0) <|
  chk [.cell (x53.add 0) (.pointer x55)] fun _ =>
  Zfb0 k x2 (!(Option.isNone x55)))
  (stK (x2.add 0) (.pointer a) <|
  stK (x2.add 1) (.pointer d) <|
  stK (x2.add 2) (.slice none 0 0) <|
  Zfb0 k x2 false))
  (stK (x2.add 0) (.pointer a) <|
  stK (x2.add 1) (.pointer d) <|
  stK (x2.add 2) (.slice none 0 0) <|
  Zfb0 k x2 false)
abbrev Zfb2 (k : (((OA × (OA × Sl)) × Bool) → K)) (x2 : Addr) (d : OA) (m : OA) : K :=
  c_alloc_New d m ⟨none, 0, 0⟩ fun x39 =>
  Zfb1 k x2 d x39.2 x39.1
abbrev Zfb3 (k : (((OA × (OA × Sl)) × Bool) → K)) (x2 : Addr) (x3_1 : Bool) : K :=
  ldP (x2.add 0) fun x2_0_1 =>
  ldP (x2.add 1) fun x2_1_1 =>
  ldS (x2.add 2) fun x2_2_1 =>
  k ((x2_0_1, (x2_1_1, x2_2_1)), x3_1)
abbrev Zfb4 (k : (((OA × (OA × Sl)) × Bool) → K)) (x2 : Addr) : K :=
  stK (x2.add 0) (.pointer none) <|
  stK (x2.add 1) (.pointer none) <|
  stK (x2.add 2) (.slice none 0 0) <|
  Zfb3 k x2 false
abbrev Zfb5 (k : (((OA × (OA × Sl)) × Bool) → K)) (x2 : Addr) (d : OA) (m : OA) (x34 : Bool) : K :=
  brK x34
  (Zfb4 k x2)
  (Zfb2 k x2 d m)
abbrev Zfb6 (k : (((OA × (OA × Sl)) × Bool) → K)) (x2 : Addr) (d : OA) (m : OA) (e : Int) : K :=
  brK (e != 0)
  (Zfb5 k x2 d m true)
  (Zfb5 k x2 d m (Option.isNone m))
abbrev Zfb7 (k : (((OA × (OA × Sl)) × Bool) → K)) (x2 : Addr) (g : Addr) (d : OA) : K :=
  ldI .i64 (g.add 0) fun x25_0 =>
  c_bman_Open d x25_0 fun x26 =>
  Zfb6 k x2 d x26.1 x26.2
abbrev Zfb8 (k : (((OA × (OA × Sl)) × Bool) → K)) (x2 : Addr) (x3_2 : Bool) : K :=
  ldP (x2.add 0) fun x2_0_2 =>
  ldP (x2.add 1) fun x2_1_2 =>
  ldS (x2.add 2) fun x2_2_2 =>
  k ((x2_0_2, (x2_1_2, x2_2_2)), x3_2)
abbrev Zfb9 (k : (((OA × (OA × Sl)) × Bool) → K)) (x2 : Addr) : K :=
  stK (x2.add 0) (.pointer none) <|
  stK (x2.add 1) (.pointer none) <|
  stK (x2.add 2) (.slice none 0 0) <|
  Zfb8 k x2 false
abbrev Zfb10 (k : (((OA × (OA × Sl)) × Bool) → K)) (x2 : Addr) (g : Addr) (d : OA) (x21 : Bool) : K :=
  brK x21
  (Zfb9 k x2)
  (Zfb7 k x2 g d)
abbrev Zfb11 (k : (((OA × (OA × Sl)) × Bool) → K)) (x2 : Addr) (g : Addr) (d : OA) : K :=
  brK (Option.isNone d)
  (Zfb10 k x2 g d true)
  (ldI .i64 (g.add 0) fun x18_0 =>
  c_blocks_Format d x18_0 fun x19 =>
  Zfb10 k x2 g d (x19 != 0))
abbrev Zfb12 (k : (((OA × (OA × Sl)) × Bool) → K)) (x2 : Addr) (g : Addr) : K :=
  ldI .i64 (g.add 0) fun x11_0 =>
  c_geom_Geometry_Words x11_0 fun x12 =>
  c_nvm_New x12 fun x13 =>
  Zfb11 k x2 g x13
abbrev Zfb13 (n : Int) (k : (((OA × (OA × Sl)) × Bool) → K)) (x2 : Addr) : K :=
  alK (.cells #[.int .i64 0] 43) fun b =>
  stK (Addr.add ⟨b, 0, none⟩ 0) (.int .i64 n) <|
  Zfb12 k x2 ⟨b, 0, none⟩
abbrev law20_Begun (n : Int) : M ((OA × (OA × Sl)) × Bool) := fun k =>
  alK (.cells #[.pointer none, .pointer none, .slice none 0 0] 29) fun b_1 =>
  Zfb13 n k ⟨b_1, 0, none⟩
theorem law20_Begun_ok (n : Int) (k : ((OA × (OA × Sl)) × Bool) → K) (w : World) (hyp_ : law20_Begun n k w) : c_law20_Begun n k w :=
  cl_of (P := Tryz.prog) Tryz.func59 rfl (by kernel_rfl)
  (Qs [(2, .addr)] [0] (fun z_ => Zfb13 n k z_.1)
  Qz
  (fun ⟨x2, _⟩ => Qs [(4, .addr)] [2] (fun z_ => Zfb12 k x2 z_.1)
  Qz
  (fun ⟨g, _⟩ => Qs [(5, .ptr)] [2, 4] (fun z_ => Zfb11 k x2 g z_.1)
  Qz
  (fun ⟨d, _⟩ => Qs [] [2, 4, 5] (fun z_ => Zfb7 k x2 g d)
  (Qs [(21, .bool)] [2, 4, 5] (fun z_ => Zfb10 k x2 g d z_.1)
  (Qp [2])
  (fun ⟨x21, _⟩ => Qc (x21) (Zfb9 k x2) (Zfb7 k x2 g d) (Qs [(3, .bool)] [2] (fun z_ => Zfb8 k x2 z_.1)
  Qz
  (fun ⟨x3_2, _⟩ => Qr)) Qk))
  (fun _ => Qs [(6, .ptr), (7, .int .i64)] [2, 5] (fun z_ => Zfb6 k x2 d z_.1 z_.2.1)
  Qz
  (fun ⟨m, e, _⟩ => Qs [] [2, 5, 6] (fun z_ => Zfb2 k x2 d m)
  (Qs [(34, .bool)] [2, 5, 6] (fun z_ => Zfb5 k x2 d m z_.1)
  (Qp [2])
  (fun ⟨x34, _⟩ => Qc (x34) (Zfb4 k x2) (Zfb2 k x2 d m) (Qs [(3, .bool)] [2] (fun z_ => Zfb3 k x2 z_.1)
  Qz
  (fun ⟨x3_1, _⟩ => Qr)) Qk))
  (fun _ => Qs [(7, .int .i64), (8, .ptr)] [2, 5] (fun z_ => Zfb1 k x2 d z_.1 z_.2.1)
  Qz
  (fun ⟨e_1, a, _⟩ => Qs [(3, .bool)] [2] (fun z_ => Zfb0 k x2 z_.1)
  (RefK.draw [5, 9] [0, 0, 3, 0, 8, 24, 56, 120, 248, 504, 1016, 2040, 4088, 8184, 16376, 32760, 1023, 131071] [0, 1, 2, 3, 4, 5, 6, 7, 8, 9, 10, 11, 12, 13, 14, 15, 16, 17] [0, 1, 2, 3, 4, 5, 6, 7, 8, 9, 16, 10, 11, 12, 13, 14, 15, 17] (by kernel_rfl) (by kernel_rfl))
  (fun ⟨x3, _⟩ => Qr))))))))) hyp_
abbrev Zfc0 (k : ((Int × (Int × Int)) → K)) (x2 : Addr) : K :=
  ldI .i64 (x2.add 0) fun x2_0 =>
  ldI .i64 (x2.add 1) fun x2_1 =>
  ldI .i64 (x2.add 2) fun x2_2 =>
  k (x2_0, (x2_1, x2_2))
abbrev Zfc1 (k : ((Int × (Int × Int)) → K)) (h_1 : Addr) (x2 : Addr) : K :=
  ldI .i64 (h_1.add 0) fun x4 =>
  ldI .i64 (h_1.add 1) fun x6 =>
  ldI .i64 (h_1.add 2) fun x8 =>
  stK (x2.add 0) (.int .i64 x4) <|
  stK (x2.add 1) (.int .i64 x6) <|
  stK (x2.add 2) (.int .i64 x8) <|
  Zfc0 k x2
abbrev law07_Ref (h : (Int × (Int × Int))) : M (Int × (Int × Int)) := fun k =>
  alK (.cells #[.int .i64 h.1, .int .i64 h.2.1, .int .i64 h.2.2] 143) fun b =>
  alK (.cells #[.int .i64 0, .int .i64 0, .int .i64 0] 141) fun b_1 =>
  Zfc1 k ⟨b, 0, none⟩ ⟨b_1, 0, none⟩
theorem law07_Ref_ok (h : (Int × (Int × Int))) (k : (Int × (Int × Int)) → K) (w : World) (hyp_ : law07_Ref h k w) : c_law07_Ref h k w :=
  cl_of (P := Tryz.prog) Tryz.func92 rfl (by kernel_rfl)
  (Qs [(1, .addr), (2, .addr)] [] (fun z_ => Zfc1 k z_.1 z_.2.1)
  Qz
  (fun ⟨h_1, x2, _⟩ => Qs [] [2] (fun z_ => Zfc0 k x2)
  Qz
  (fun _ => Qr))) hyp_
end
theorem kd_hd7 : Kd Tryz.prog 78 141 3 := ⟨by kernel_rfl, by kernel_rfl, by kernel_rfl, by kernel_rfl, by kernel_rfl, by decide +kernel, by decide +kernel⟩
section
variable {B : World} {P R : SL} {t : K}
theorem ref06_Sizes_c {k : Sl → K} (hk : ∀ b, T B (R * pt b (.cells (ints szs).toArray 3)) (k ⟨some ⟨b, 0, none⟩, 32, 32⟩)) : T B R (c_ref06_Sizes k) := by
  refine T_of (ref06_Sizes_ok k) ?_
  refine T_al fun b => ?_
  exact hk b
theorem szs_rd (b : Nat) : Rd (R * pt b (.cells (ints szs).toArray 3)) ⟨some ⟨b, 0, none⟩, 32, 32⟩ 1 (ints szs) := Rd.one Has.last rfl (Nat.le_refl _)
theorem ref06_Words_c {c : Int} {k : Int → K} (hk : T B R (k (clsW c))) : T B R (c_ref06_Words c k) := by
  refine T_of (ref06_Words_ok c k) ?_
  unfold clsW at hk
  (repeat' (first | with_reducible refine T_brT ?_ | with_reducible refine T_brD (fun _ => ?_) (fun _ => ?_)))
  · rw [if_neg (by omega)] at hk; exact hk
  · rw [if_neg (by omega)] at hk; exact hk
  · rw [if_pos (by omega)] at hk
    refine ref06_Sizes_c fun b => ?_
    have hl : c.toNat < szs.length := by show c.toNat < 32; omega
    refine T_ixV (szs_rd b) (by omega) (n := szs[c.toNat]) (ints_at hl) ?_
    refine T.weak ?_
    rw [List.getD_eq_getElem?_getD, List.getElem?_eq_getElem hl] at hk
    exact hk
theorem cls_step (c : Int) (h : 0 ≤ c ∧ c < 32) (n : Int) : (n + 1) * clsW c ≤ 512 ↔ n + 1 ≤ cls c := by
  have hp := clsW_pos h
  have : cls c = 512 / clsW c := by unfold cls; rw [if_pos h]
  rw [this]
  exact (Int.le_ediv_iff_mul_le (by omega)).symm
theorem ref06_Cells_c {c : Int} {k : Int → K} (hk : T B R (k (cls c))) : T B R (c_ref06_Cells c k) := by
  refine T_of (ref06_Cells_ok c k) ?_
  by_cases h : 0 ≤ c ∧ c < 32
  · have hp := clsW_pos h
    have hc : cls c = 512 / clsW c := by unfold cls; rw [if_pos h]
    have hc1 : 0 ≤ cls c := by rw [hc]; exact Int.ediv_nonneg (by omega) (by omega)
    have hc2 : cls c ≤ 512 := by rw [hc]; exact Int.ediv_le_self _ (by omega)
    refine T_lpX (fun _ _ => R) (fun m (s : Int × Unit) => ∃ i : Nat, s.1 = i ∧ (i : Int) ≤ cls c ∧ m = (cls c - i).toNat) (cls c).toNat rfl ⟨0, rfl, by omega, by omega⟩ ?_
    rintro m ⟨s1, u⟩ cc ⟨i, e1, e2, e3⟩ hcc
    simp only at e1
    subst e1 e3
    skip
    refine ref06_Words_c ?_
    refine T_brD (fun _ => ?_) (fun h => absurd (show clsW c > 0 by omega) h)
    refine ref06_Words_c ?_
    have hm0 : 0 ≤ ((i : Int) + 1) * clsW c := Int.mul_nonneg (by omega) (by omega)
    have hm1 : ((i : Int) + 1) * clsW c ≤ 513 * 256 := Int.mul_le_mul (by omega) (by omega) (by omega) (by omega)
    rw [w64 (n := (i : Int) + 1) (by omega) (by omega), w64 (by omega) (by omega)]
    have hs := cls_step c h i
    refine T_brD (fun hle => ?_) (fun hle => ?_)
    · have := hs.1 hle
      refine hcc _ _ ?_ ⟨i + 1, w64 (by omega) (by omega), by omega, rfl⟩
      omega
    · have : ¬ ((i : Int) + 1 ≤ cls c) := fun h => hle (hs.2 h)
      have e : cls c = i := by omega
      rw [e] at hk
      exact hk
  · have e0 : clsW c = 0 := by unfold clsW; rw [if_neg h]
    have e1 : cls c = 0 := by unfold cls; rw [if_neg h]
    rw [e1] at hk
    refine T_lpX (fun _ _ => R) (fun m (s : Int × Unit) => s.1 = 0) 0 rfl rfl ?_
    rintro m ⟨s1, u⟩ cc e hcc
    simp only at e
    subst e
    skip
    refine ref06_Words_c ?_
    rw [e0]
    refine T_brD (fun h => absurd h (by omega)) (fun _ => ?_)
    (repeat (with_reducible refine T_brF ?_))
    exact hk
theorem ref06_Of_c {w : Int} {k : Int → K} (hk : T B R (k (if (kOf w).2 = true then (kOf w).1 else -1))) : T B R (c_ref06_Of w k) := by
  refine T_of (ref06_Of_ok w k) ?_
  refine T_lpX (fun _ _ => R) (fun m (s : Int × Unit) => ∃ i : Nat, s.1 = i ∧ i ≤ 32 ∧ m = 32 - i ∧ ∀ d : Int, 0 ≤ d → d < i → clsW d < w) 32 rfl ⟨0, rfl, by omega, rfl, fun d h0 h1 => by omega⟩ ?_
  rintro m ⟨s1, u⟩ cc ⟨i, e1, e2, e3, e4⟩ hcc
  simp only at e1
  subst e1 e3
  have neg : ¬ (1 ≤ w ∧ w ≤ 256) → T B R (k (-1)) := fun h => by
    unfold kOf at hk
    rw [if_neg h] at hk
    exact hk
  have c31 : clsW 31 = 256 := by decide
  (repeat' (first | with_reducible refine T_brF ?_ | with_reducible refine T_brD (fun _ => ?_) (fun _ => ?_)))
  · refine ref06_Sizes_c fun b => ?_
    have hl : i < szs.length := by show i < 32; omega
    refine T_ixV (szs_rd b) (by omega) (n := szs[i]) (by rw [Int.toNat_natCast]; exact ints_at hl) ?_
    refine T.weak ?_
    have hw : clsW i = szs[i] := by
      unfold clsW
      rw [if_pos (by omega), Int.toNat_natCast, List.getD_eq_getElem?_getD, List.getElem?_eq_getElem hl]; rfl
    rw [← hw]
    have hp := clsW_pos (c := i) (by omega)
    refine T_brD (fun hge => ?_) (fun hge => ?_)
    · have ho : IsOf w i := ⟨by omega, by omega, hge, e4⟩
      have e : kOf w = ((i : Int), true) := by
        unfold kOf
        rw [if_pos (by omega), ofC_eq ho]
      rw [e] at hk
      exact hk
    · refine hcc _ _ ?_ ⟨i + 1, w64 (by omega) (by omega), by omega, rfl, fun d h0 h1 => ?_⟩
      · omega
      · by_cases h : d < i
        · exact e4 d h0 h
        · have : d = i := by omega
          subst this; omega
  · exact neg (by omega)
  · have h31 := e4 31 (by omega) (by omega)
    exact neg (by omega)
theorem ref04_Need_c {w : Int} {k : Int → K} (h : 1 ≤ w) (h2 : w ≤ 2 ^ 40) (hk : T B R (k ((w + 511) / 512))) : T B R (c_ref04_Need w k) := by
  refine T_of (ref04_Need_ok w k) ?_
  skip
  refine T_brD (fun h => absurd h (by omega)) (fun _ => ?_)
  (dsimp only [ref04_Need, Zca0, Zca1, Zca2, Zca3, Zca4, Zca5])
  rw [Int.tdiv_eq_ediv_of_nonneg (by omega), Int.tmod_eq_emod_of_nonneg (by omega), w64 (n := w / 512) (by omega) (by omega)]
  refine T_brNE (fun h => ?_) (fun h => ?_)
  · rw [w64 (by omega) (by omega), show w / 512 + 1 = (w + 511) / 512 by omega]
    exact hk
  · rw [show w / 512 = (w + 511) / 512 by omega]
    exact hk
def kC (o : Int × Int) : Int := if (kOf (oSize o)).2 = true then (kOf (oSize o)).1 else -1
end
theorem wu8n (a : Nat) (h : a < 256) : IntKind.wrap .u8 (a : Int) = a := by show (a : Int) % (2 ^ 8 : Int) = a; omega
theorem wu8m (a : Nat) : IntKind.wrap .u8 (a : Int) = ((a % 256 : Nat) : Int) := by show (a : Int) % (2 ^ 8 : Int) = _; omega
theorem wu32n (a : Nat) (h : a < 4294967296) : IntKind.wrap .u32 (a : Int) = a := by rw [wu32']; omega
theorem xor32 {a b : Nat} (ha : a < 2 ^ 32) (hb : b < 2 ^ 32) : bitI .xor .u32 a b = ((a ^^^ b : Nat) : Int) := by
  show IntKind.wrap .u32 ((BitVec.ofInt 32 a ^^^ BitVec.ofInt 32 b).toNat : Int) = _
  rw [BitVec.ofInt_natCast, BitVec.ofInt_natCast, BitVec.toNat_xor, BitVec.toNat_ofNat, BitVec.toNat_ofNat, Nat.mod_eq_of_lt ha, Nat.mod_eq_of_lt hb]
  exact wu32n _ (Nat.xor_lt_two_pow ha hb)
theorem xor8 {a b : Nat} (ha : a < 2 ^ 8) (hb : b < 2 ^ 8) : bitI .xor .u8 a b = ((a ^^^ b : Nat) : Int) := by
  show IntKind.wrap .u8 ((BitVec.ofInt 8 a ^^^ BitVec.ofInt 8 b).toNat : Int) = _
  rw [BitVec.ofInt_natCast, BitVec.ofInt_natCast, BitVec.toNat_xor, BitVec.toNat_ofNat, BitVec.toNat_ofNat, Nat.mod_eq_of_lt ha, Nat.mod_eq_of_lt hb]
  exact wu8n _ (Nat.xor_lt_two_pow ha hb)
theorem and8 {a : Nat} (ha : a < 2 ^ 8) : bitI .and .u8 a 15 = ((a % 16 : Nat) : Int) := by
  show IntKind.wrap .u8 ((BitVec.ofInt 8 a &&& BitVec.ofInt 8 15).toNat : Int) = _
  rw [BitVec.ofInt_natCast, show BitVec.ofInt 8 15 = BitVec.ofNat 8 15 from rfl, BitVec.toNat_and, BitVec.toNat_ofNat, BitVec.toNat_ofNat, Nat.mod_eq_of_lt ha, Nat.mod_eq_of_lt (by decide)]
  have : a &&& 15 = a % 16 := Nat.and_two_pow_sub_one_eq_mod a 4
  rw [this]
  exact wu8n _ (by omega)
theorem shr_m {k : IntKind} {a s : Nat} (hs : s ≤ k.bits) : shrI k a s = ((a / 2 ^ s : Nat) : Int) := by
  unfold shrI
  have : min ((s : Int)).toNat k.bits = s := by rw [Int.toNat_natCast]; omega
  have e : (2 : Int) ^ s = ((2 ^ s : Nat) : Int) := by rw [Int.natCast_pow]; rfl
  rw [this, e, Int.fdiv_eq_ediv_of_nonneg _ (Int.natCast_nonneg _)]
  rfl
theorem tabN_lt : ∀ i, i < 16 → tabN i < 2 ^ 32 := by decide +kernel
theorem tabI_tab : ∀ i : Nat, i < 16 → crcTab.getD i 0 = ((tabN i : Nat) : Int) := by decide +kernel
theorem tabI_nat {i : Nat} (h : i < 256) : tabI (i : Int) = ((tabN (i % 16) : Nat) : Int) := by
  unfold tabI
  rw [and8 h, Int.toNat_natCast]
  exact tabI_tab _ (Nat.mod_lt _ (by omega))
theorem crcB_nat {s b : Nat} (hs : s < 2 ^ 32) (hb : b < 256) : crcB s b = ((bit4 (bit4 (s ^^^ b)) : Nat) : Int) := by
  rw [← tabB_eq hb]
  unfold crcB tabB
  have h4 : shrI .u32 (s : Int) 4 = ((s / 16 : Nat) : Int) := shr_m (k := .u32) (s := 4) (by decide)
  have hb4 : shrI .u8 (b : Int) 4 = ((b / 16 : Nat) : Int) := shr_m (k := .u8) (s := 4) (by decide)
  rw [wu8m, xor8 (by omega) (by omega), h4, hb4]
  have l1 : s % 256 ^^^ b < 2 ^ 8 := Nat.xor_lt_two_pow (by omega) (by omega)
  rw [tabI_nat l1]
  have l2 := tabN_lt ((s % 256 ^^^ b) % 16) (Nat.mod_lt _ (by omega))
  generalize tabN ((s % 256 ^^^ b) % 16) = t1 at *
  have l3 : s / 16 < 2 ^ 32 := by omega
  rw [xor32 l2 l3]
  have l4 : t1 ^^^ s / 16 < 2 ^ 32 := Nat.xor_lt_two_pow l2 l3
  generalize t1 ^^^ s / 16 = u at *
  have l5 : u % 256 ^^^ b / 16 < 2 ^ 8 := Nat.xor_lt_two_pow (by omega) (by omega)
  rw [wu8m, xor8 (by omega) (by omega), tabI_nat l5]
  have h5 : shrI .u32 (u : Int) 4 = ((u / 16 : Nat) : Int) := shr_m (k := .u32) (s := 4) (by decide)
  rw [h5, xor32 (tabN_lt _ (Nat.mod_lt _ (by omega))) (by omega)]
theorem bit4_lt {x : Nat} (h : x < 2 ^ 32) : bit4 x < 2 ^ 32 := bitN_lt (bitN_lt (bitN_lt (bitN_lt h)))
def bitsN : Nat → Nat → Nat
  | 0, x => x
  | i + 1, x => bitN (bitsN i x)
theorem bitsN_lt {x : Nat} (h : x < 2 ^ 32) : ∀ i, bitsN i x < 2 ^ 32
  | 0 => h
  | i + 1 => bitN_lt (bitsN_lt h i)
theorem not32 {a : Nat} (h : a < 4294967296) : notI .u32 (a : Int) = 4294967295 - (a : Int) := by
  unfold notI
  have hm : (if IntKind.signed .u32 then (-1 : Int) else IntKind.max .u32) = ((4294967295 : Nat) : Int) := by decide
  rw [hm, xor32 (by omega) (by omega)]
  have : 4294967295 ^^^ a = 4294967295 - a := by
    have h2 := BitVec.toNat_not (x := BitVec.ofNat 32 a)
    have h3 : ~~~ (BitVec.ofNat 32 a) = BitVec.ofNat 32 4294967295 ^^^ BitVec.ofNat 32 a := by
      rw [show BitVec.ofNat 32 4294967295 = BitVec.allOnes 32 from rfl, BitVec.allOnes_xor]
    rw [h3, BitVec.toNat_xor, BitVec.toNat_ofNat, BitVec.toNat_ofNat, Nat.mod_eq_of_lt (by omega), Nat.mod_eq_of_lt (by omega)] at h2
    rw [h2]
  rw [this]; omega
section
variable {B : World} {P R : SL} {t : K}
theorem ref02_More_c {data : Sl} {l : List Int} (hl : l.length ≤ 2 ^ 40) (hr : ∀ b ∈ l, 0 ≤ b ∧ b < 256) (hd : Rd R data 1 (l.map fun b => .int .u8 b)) {k : Int → K} (hk : T B R (k (crcMore 0 l))) : T B R (c_ref02_More 0 data k) := by
  refine T_of (ref02_More_ok 0 data k) ?_
  refine T_rdlen hd fun hn => ?_
  simp only [Nat.mul_one, List.length_map] at hn
  (dsimp only [ref02_More, Zch0, Zch1, Zch2, Zch3, Zch4, Zch5, Zch6, Zch7, Zch8, Zch9, Zch10, Zch11, Zch12, Zch13, Zch14, Zch15])
  have h0 : IntKind.wrap .u32 (4294967295 - 0) = notI .u32 0 := by rw [show (0 : Int) = ((0 : Nat) : Int) from rfl, not32 (by decide)]; rfl
  rw [h0]
  refine T_lpX (fun _ _ => R) (fun n (s : Int × Int × Unit) => ∃ i v : Nat, i ≤ l.length ∧ s.2.1 = i ∧ s.1 = v ∧ v < 4294967296 ∧ s.1 = (l.take i).foldl crcB (notI .u32 0) ∧ n = l.length - i) l.length rfl ⟨0, 4294967295, by omega, rfl, by rw [show (0 : Int) = ((0 : Nat) : Int) from rfl, not32 (by decide)]; rfl, by omega, rfl, by omega⟩ ?_
  rintro n ⟨s1, s2, u⟩ c ⟨i, v, hi, h1, h2, hv, h3, h4⟩ hc
  simp only at h1 h2 h3
  subst h1 h4
  dsimp only
  (repeat' (with_reducible refine T_brD (fun _ => ?_) (fun _ => ?_)))
  · rename_i hlt
    have hlt' : i < l.length := by omega
    refine T_ixV hd (by omega) (n := l[i]) (by simp [hlt']) ?_
    obtain ⟨b, hb⟩ := Int.eq_ofNat_of_zero_le (hr _ (List.getElem_mem hlt')).1
    have hb2 := (hr _ (List.getElem_mem hlt')).2
    have hnx := hc (l.length - (i + 1)) (crcB s1 l[i], IntKind.wrap .i64 ((i : Int) + 1), ()) (by omega)
    rw [hb] at hb2 hnx ⊢
    subst h2
    rw [crcB_nat (by omega) (by omega)] at hnx
    have hx : v ^^^ b < 2 ^ 32 := Nat.xor_lt_two_pow (by omega) (by omega)
    try (dsimp only [ref02_More, Zch0, Zch1, Zch2, Zch3, Zch4, Zch5, Zch6, Zch7, Zch8, Zch9, Zch10, Zch11, Zch12, Zch13, Zch14, Zch15])
    rw [wu32n b (by omega), xor32 (by omega) (by omega)]
    refine T_lpX (fun _ _ => R) (fun n (s : Int × Int × Unit) => ∃ j : Nat, j ≤ 8 ∧ s.2.1 = j ∧ s.1 = ((bitsN j (v ^^^ b) : Nat) : Int) ∧ n = 8 - j) 8 rfl ⟨0, by omega, rfl, rfl, rfl⟩ ?_
    rintro n ⟨q1, q2, u⟩ c2 ⟨j, hj, e1, e2, e3⟩ hc2
    simp only at e1 e2
    subst e1 e2 e3
    dsimp only
    have hlt2 := bitsN_lt hx j
    have hnx2 := hc2 (8 - (j + 1)) (((bitsN (j + 1) (v ^^^ b) : Nat) : Int), IntKind.wrap .i64 ((j : Int) + 1), ())
    (repeat' (first | with_reducible refine T_brD (fun _ => ?_) (fun _ => ?_) | with_reducible refine T_brE (fun _ => ?_) (fun _ => ?_)))
    · rename_i hj8 hodd
      have e : ((bitsN (j + 1) (v ^^^ b) : Nat) : Int) = bitI .xor .u32 (IntKind.wrap .u32 (Int.tdiv ((bitsN j (v ^^^ b) : Nat) : Int) 2)) 3988292384 := by
        rw [Int.tdiv_eq_ediv_of_nonneg (by omega), show ((bitsN j (v ^^^ b) : Nat) : Int) / 2 = ((bitsN j (v ^^^ b) / 2 : Nat) : Int) by omega, wu32n _ (by omega), show (3988292384 : Int) = ((3988292384 : Nat) : Int) from rfl, xor32 (by omega) (by omega)]
        rw [Int.tmod_eq_emod_of_nonneg (by omega)] at hodd
        show ((bitN (bitsN j (v ^^^ b)) : Nat) : Int) = _
        unfold bitN
        rw [if_pos (by omega)]
      rw [← e]
      exact hnx2 (by omega) ⟨j + 1, by omega, w64 (by omega) (by omega), rfl, rfl⟩
    · rename_i hj8 hodd
      have e : ((bitsN (j + 1) (v ^^^ b) : Nat) : Int) = IntKind.wrap .u32 (Int.tdiv ((bitsN j (v ^^^ b) : Nat) : Int) 2) := by
        rw [Int.tdiv_eq_ediv_of_nonneg (by omega), show ((bitsN j (v ^^^ b) : Nat) : Int) / 2 = ((bitsN j (v ^^^ b) / 2 : Nat) : Int) by omega, wu32n _ (by omega)]
        rw [Int.tmod_eq_emod_of_nonneg (by omega)] at hodd
        show ((bitN (bitsN j (v ^^^ b)) : Nat) : Int) = _
        unfold bitN
        rw [if_neg (by omega), Nat.xor_zero]
      rw [← e]
      exact hnx2 (by omega) ⟨j + 1, by omega, w64 (by omega) (by omega), rfl, rfl⟩
    · have : j = 8 := by omega
      subst this
      refine hnx ⟨i + 1, bit4 (bit4 (v ^^^ b)), by omega, w64 (by omega) (by omega), rfl, bit4_lt (bit4_lt hx), ?_, rfl⟩
      simp only
      rw [List.take_succ_eq_append_getElem hlt', List.foldl_append, ← h3, hb]
      show _ = crcB v b
      rw [crcB_nat (by omega) (by omega)]
  · have : i = l.length := by omega
    subst this
    rw [List.take_length] at h3
    have e : IntKind.wrap .u32 (4294967295 - s1) = crcMore 0 l := by
      unfold crcMore
      rw [← h3, h2, not32 hv, wu32']; omega
    try (dsimp only [ref02_More, Zch0, Zch1, Zch2, Zch3, Zch4, Zch5, Zch6, Zch7, Zch8, Zch9, Zch10, Zch11, Zch12, Zch13, Zch14, Zch15])
    rw [e]
    exact hk
theorem byteL_rng (l : List Int) (hl : ∀ w ∈ l, 0 ≤ w ∧ w < 18446744073709551616) : ∀ b ∈ l.flatMap byteL, 0 ≤ b ∧ b < 256 := by
  intro b hb
  obtain ⟨w, hw, hb⟩ := List.mem_flatMap.1 hb
  unfold byteL at hb
  obtain ⟨i, hi, rfl⟩ := List.mem_map.1 hb
  unfold byteI
  have : ∀ x : Int, 0 ≤ IntKind.wrap .u8 x ∧ IntKind.wrap .u8 x < 256 := fun x => by show 0 ≤ x % (2 ^ 8 : Int) ∧ x % (2 ^ 8 : Int) < 256; omega
  exact this _
theorem byteI_eq {w i : Nat} (hi : i < 8) : byteI (w : Int) i = ((w / 256 ^ i % 256 : Nat) : Int) := by
  unfold byteI
  rw [shr_m (k := .u64) (s := 8 * i) (by show 8 * i ≤ 64; omega), wu8m]
  congr 2
  rw [show 256 = 2 ^ 8 from rfl, ← Nat.pow_mul]
theorem ref01_Bytes_c {x : Sl} {l : List Int} (hl : l.length ≤ 2 ^ 20) (hr : ∀ w ∈ l, 0 ≤ w ∧ w < 18446744073709551616) (hx : Rd R x 1 (l.map fun b => .int .u64 b)) {k : Sl → K}
    (hk : ∀ s, T B (R * vec 5 1 s ((l.flatMap byteL).map fun b => .int .u8 b)) (k s)) : T B R (c_ref01_Bytes x k) := by
  refine T_of (ref01_Bytes_ok x k) ?_
  refine T_rdlen hx fun hn => ?_
  simp only [Nat.mul_one, List.length_map] at hn
  refine T_vecN (E := 5) (sz := 1) (s := ⟨none, 0, 0⟩) rfl rfl ?_
  (dsimp only [ref01_Bytes, Zci0, Zci1, Zci2, Zci3, Zci4, Zci5, Zci6, Zci7, Zci8, Zci9, Zci10, Zci11, Zci12, Zci13, Zci14])
  refine T_lpX (fun _ s => R * vec 5 1 s.1 (((l.take s.2.1.toNat).flatMap byteL).map fun b => .int .u8 b))
    (fun n (s : Sl × Int × Unit) => ∃ i : Nat, i ≤ l.length ∧ s.2.1 = i ∧ n = l.length - i) l.length rfl ⟨0, by omega, rfl, by omega⟩ ?_
  rintro n ⟨s1, s2, u⟩ c ⟨i, hi, h1, h2⟩ hc
  simp only at h1
  subst h1 h2
  simp only [Int.toNat_natCast]
  (repeat' (with_reducible refine T_brD (fun _ => ?_) (fun _ => ?_)))
  · rename_i hlt
    have hlt' : i < l.length := by omega
    refine T_ixV hx.init (by omega) (n := l[i]) (by simp [hlt']) ?_
    obtain ⟨w, hw⟩ := Int.eq_ofNat_of_zero_le (hr _ (List.getElem_mem hlt')).1
    have hw2 := (hr _ (List.getElem_mem hlt')).2
    rw [hw] at hw2 ⊢
    refine T_lpX (fun _ s => R * vec 5 1 s.1 (((l.take i).flatMap byteL ++ (List.range s.2.2.1.toNat).map (byteI (w : Int))).map fun b => .int .u8 b))
      (fun n (s : Sl × Int × Int × Unit) => ∃ j : Nat, j ≤ 8 ∧ s.2.2.1 = j ∧ s.2.1 = ((w / 256 ^ j : Nat) : Int) ∧ n = 8 - j) 8 (by simp) ⟨0, by omega, rfl, by simp, by omega⟩ ?_
    rintro n ⟨s1, q2, q3, u⟩ c' ⟨j, hj, h1, h2, h3⟩ hc'
    simp only at h1 h2
    subst h1 h2 h3
    simp only [Int.toNat_natCast]
    (repeat' (first | (with_reducible refine T_al ?_; intro _) | with_reducible refine T_brD (fun _ => ?_) (fun _ => ?_)))
    · rename_i hj8
      have hj8 : j < 8 := by omega
      have hdl : w / 256 ^ j ≤ w := Nat.div_le_self _ _
      have e1 : IntKind.wrap .u8 (Int.tmod ((w / 256 ^ j : Nat) : Int) 256) = byteI (w : Int) j := by
        rw [byteI_eq hj8]
        generalize w / 256 ^ j = q
        rw [Int.tmod_eq_emod_of_nonneg (by omega), show (q : Int) % 256 = ((q % 256 : Nat) : Int) by omega, wu8n _ (by omega)]
      have e2 : IntKind.wrap .u64 (Int.tdiv ((w / 256 ^ j : Nat) : Int) 256) = ((w / 256 ^ (j + 1) : Nat) : Int) := by
        rw [Nat.pow_succ, ← Nat.div_div_eq_div_mul]
        generalize w / 256 ^ j = q at hdl ⊢
        rw [Int.tdiv_eq_ediv_of_nonneg (by omega), show (q : Int) / 256 = ((q / 256 : Nat) : Int) by omega, wu64 (by omega) (by omega)]
      rw [e1]
      refine T_app1b (new := [.int .u8 (byteI (w : Int) j)]) kd_u8 rfl rfl ?_ fun s' => ?_
      · have := byteL_len (l.take i)
        simp only [List.length_map, List.length_append, List.length_range, List.length_take, Nat.div_one] at this ⊢
        omega
      · rw [e2]
        refine T.perm ?_ (hc' (8 - (j + 1)) (s', ((w / 256 ^ (j + 1) : Nat) : Int), IntKind.wrap .i64 ((j : Int) + 1), ()) (by omega) ⟨j + 1, by omega, w64 (by omega) (by omega), rfl, rfl⟩)
        have e : (IntKind.wrap .i64 ((j : Int) + 1)).toNat = j + 1 := by rw [w64 (by omega) (by omega)]; omega
        simp only [e, List.range_succ, List.map_append, List.map_cons, List.map_nil, List.append_assoc]
    · have : j = 8 := by omega
      subst this
      refine T.perm ?_ (hc (l.length - (i + 1)) (s1, IntKind.wrap .i64 (i + 1), ()) (by omega) ⟨i + 1, by omega, w64 (by omega) (by omega), rfl⟩)
      have e : (IntKind.wrap .i64 ((i : Int) + 1)).toNat = i + 1 := by rw [w64 (by omega) (by omega)]; omega
      simp only [e]
      rw [List.take_succ_eq_append_getElem hlt', List.flatMap_append, hw]
      simp [byteL]
  · have : i = l.length := by omega
    subst this
    simp only [List.take_length]
    exact hk s1
theorem ref02_Seal_c {n p : Int} (h0 : 0 ≤ n) (h1 : n < 4294967296) {k : Int → K} (hk : T B R (k (sealI n p))) : T B R (c_ref02_Seal n p k) := by
  refine T_of (ref02_Seal_ok n p k) ?_
  (repeat ((with_reducible refine T_al ?_; intro _)))
  rename_i b
  rw [wu64 (n := n) h0 (by omega)]
  have hp : 0 ≤ IntKind.wrap .u64 p ∧ IntKind.wrap .u64 p < 18446744073709551616 := by
    have : IntKind.wrap .u64 p = p % 18446744073709551616 := by
      unfold IntKind.wrap
      simp only [IntKind.bits, IntKind.signed, Bool.false_and, Bool.false_eq_true, if_false]
      rfl
    rw [this]; omega
  have hr : ∀ w ∈ [n, IntKind.wrap .u64 p], 0 ≤ w ∧ w < 18446744073709551616 := by
    intro w hw
    simp only [List.mem_cons, List.not_mem_nil, or_false] at hw
    rcases hw with rfl | rfl
    · omega
    · exact hp
  refine T_of (ref02_Words_ok _ _) ?_
  refine ref01_Bytes_c (x := ⟨some ⟨b, 0, none⟩, 2, 2⟩) (l := [n, IntKind.wrap .u64 p]) (by simp) hr (Rd.one Has.last rfl (Nat.le_refl _)) fun s => ?_
  refine ref02_More_c (l := [n, IntKind.wrap .u64 p].flatMap byteL) (by rw [byteL_len]; simp) (byteL_rng _ hr) (Rd.vec Frm.last) ?_
  (dsimp only [ref02_Words, Zcg0, Zcg1])
  (dsimp only [ref02_Seal, Zcf0, Zcf1])
  have hc := crcW_rng [n, IntKind.wrap .u64 p]
  rw [show crcMore 0 ([n, IntKind.wrap .u64 p].flatMap byteL) = crcW [n, IntKind.wrap .u64 p] from rfl]
  unfold sealI at hk
  rw [wu64 (n := crcW _) (by omega) (by omega), wu64 (n := crcW _ * 4294967296) (by omega) (by omega), Int.mul_comm, Int.add_comm, wu64 (n := n + 4294967296 * crcW _) (by omega) (by omega)]
  exact hk.weak.weak
theorem ref02_Open_c {w p : Int} (hw : 0 ≤ w ∧ w < 18446744073709551616) {k : Int × Bool → K} (hk : T B R (k (openI w p))) : T B R (c_ref02_Open w p k) := by
  refine T_of (ref02_Open_ok w p k) ?_
  unfold openI at hk
  (dsimp only [ref02_Open, Zcd0, Zcd1, Zcd2, Zcd3])
  have e : IntKind.wrap .u32 (Int.tmod w 4294967296) = w % 4294967296 := by rw [Int.tmod_eq_emod_of_nonneg hw.1, wu32']; omega
  rw [e]
  refine ref02_Seal_c (by omega) (by omega) ?_
  refine T_brE (fun h => ?_) (fun h => ?_)
  · rw [if_pos h] at hk; exact hk
  · rw [if_neg h] at hk; exact hk
end
def rfOf : Code → Option Code
  | .rangeFunc _ _ _ b => some b
  | .seq a b => (match rfOf a with | some x => some x | none => rfOf b)
  | .block _ c => rfOf c
  | .loop c => rfOf c
  | .scope c => rfOf c
  | .cond _ a b => (match rfOf a with | some x => some x | none => rfOf b)
  | _ => none
def rfBody (f : Func) : Code := match f.body with | some c => (match rfOf c with | some b => b | none => .skip) | none => .skip
def rfQ (kN kR : K) : Exit → Env → K
  | .normal, _ => kN
  | .ret, _ => kR
  | _, _ => kF
section
variable {B : World} {P R : SL} {t : K}
theorem Sat.perm {Q : SL} {w : World} (e : P = Q) (h : Sat B P w) : Sat B Q w := e ▸ h
theorem putObj_sat {w : World} {r : Nat} {o o' : Obj} (s : Sat B (R * pt r o) w) : Sat B (R * pt r o') (w.putObj r o') := by
  have hr := (s.has (b := r) (o := o) Has.last).1
  have hlt : r < w.heap.size := (Array.getElem?_eq_some_iff.1 hr).1
  refine s.upd Upd.last (World.putObj_heap_same hlt) (fun x hx => World.putObj_heap_other hx) rfl rfl rfl (by simp)
theorem sat_ex {α : Type} {X : α → SL} {w : World} (h : Sat B (ex X) w) : ∃ x, Sat B (X x) w := by
  obtain ⟨⟨g, ⟨x, hx⟩, hb⟩, k⟩ := h
  exact ⟨x, ⟨g, hx, hb⟩, k⟩
theorem ex_sat {α : Type} {X : α → SL} {w : World} (x : α) (h : Sat B (X x) w) : Sat B (ex X) w := by
  obtain ⟨⟨g, hx, hb⟩, k⟩ := h
  exact ⟨⟨g, ⟨x, hx⟩, hb⟩, k⟩
theorem T_exP {α : Type} {X : α → SL} {φ : α → Prop} (h : ∀ s, φ s → T B (X s) t) : T B (ex fun s => X s * pu (φ s)) t := by
  intro w hw
  obtain ⟨s, hw⟩ := sat_ex hw
  have k : T B (X s * pu (φ s)) t := T_pu fun hφ => h s hφ
  exact k w hw
/-- how a loop's yield answers: on, or no more -/
def Yld (B : World) (Pg : Program) {β : Type} (l : Nat) (enc : β → Array Value) (ok : List β → β → Prop) (I : List β → SL) (J : SL) : Prop :=
  ∀ m pre x W, ok pre x → Sat B (I pre) W → YieldAt Fence.wide m Pg l (enc x) W fun e W' => (e = .returned (.bool true) ∧ Sat B (I (pre ++ [x])) W') ∨ (e = .returned (.bool false) ∧ Sat B J W')
theorem T_yield {Pg : Program} {β : Type} {l : Nat} {enc : β → Array Value} {ok : List β → β → Prop} {I : List β → SL} {J : SL} (hy : Yld B Pg l enc ok I J) {pre : List β} {x : β} (hok : ok pre x) {k : Bool → K}
    (h1 : T B (I (pre ++ [x])) (k true)) (h0 : T B J (k false)) : T B (I pre) (dyn Pg (Fv.v ⟨.yield l, #[], #[]⟩) (enc x) (.one (.sc .bool)) k) := by
  intro w hw
  refine .inr ⟨l, rfl, (hy 0 pre x w hok hw).mono ?_⟩
  rintro e W' (⟨rfl, hs⟩ | ⟨rfl, hs⟩)
  · exact ⟨true, rfl, h1 _ hs⟩
  · exact ⟨false, rfl, h0 _ hs⟩
theorem wp_rangeF {Pg : Program} {β : Type} {g : Operand} {ps : Array Tmp} {assign body : Code} {Q : Exit → Act → World → Prop} {a : Act} {w : World} {n gf : Nat} {lb : Array Value} (hn : 1 ≤ n)
    (hg : a.eval g = .func (.func gf) #[] lb) (eg : ∀ args w, (callFunc gf args).run Pg w = .ok (.enter gf args) w) (enc : β → Array Value) (hps : ∀ x, (enc x).size = ps.size) (ok : List β → β → Prop)
    (I : List β → SL) (J : SL) (all : List β) (h0 : Sat B (I []) w) (Ag : β → Act → Prop)
    (hseq : ∀ (l : Nat) (X X' : SL), Yld B Pg l enc ok (fun pre => I pre * X) (J * X') →
      ∀ W, Sat B (I [] * X) W → CallsIn Fence.wide (n - 1) Pg gf (#[.func (.yield l) #[] #[]] ++ lb) W fun e W' => (∃ v, e = .returned v) ∧ (Sat B (I all * X) W' ∨ Sat B (J * X') W'))
    (hassign : ∀ (m l : Nat) (x : β) (W : World) (K : Act → World → Prop), (∀ a', Ag x a' → K a' W) → assign.wpIn (Fence.wide.inRound l) m Pg (Exit.then K (fun _ _ _ => False)) { tmps := (ps.zip (enc x)).foldl (fun t (p, v) => t.setIfInBounds p v) a.tmps, defers := [] } W)
    (hbody : ∀ (m l : Nat) (pre : List β) (x : β) (W : World) (X : SL) (a' : Act), Ag x a' → ok pre x → Sat B (I pre * X) W → body.wpIn (Fence.wide.inRound l) m Pg (fun e _ W' => (e = .normal ∧ Sat B (I (pre ++ [x]) * X) W') ∨ (e = .ret ∧ Sat B (J * X) W')) a' W)
    (hdone : ∀ (D : Nat) (W : World), Sat B (I all * pt D (.deferred (some []))) W → Q .normal { a with defers := { target := .collected D, args := #[] } :: a.defers } W)
    (hret : ∀ (D : Nat) (W : World), Sat B (J * pt D (.deferred (some []))) W → Q .ret { a with defers := { target := .collected D, args := #[] } :: a.defers } W) :
    (Code.rangeFunc g ps assign body).wpIn Fence.wide n Pg Q a w := by
  refine wpIn_rangeFunc ?_
  intro fn hfn
  rw [show Fence.wide.round = none from rfl]
  obtain ⟨rec, hrec⟩ : ∃ rec : LoopState → Option Code → Loop, rec = fun st pe => { state := st, pending := pe, fn, tmps := a.tmps, params := ps, assign, body, defers := w.heap.size } := ⟨_, rfl⟩
  have s1 : Sat B (I [] * pt w.heap.size (.deferred (some []))) (w.alloc (.deferred (some []))) := h0.alloc
  have s2 : Sat B (I [] * pt w.heap.size (.deferred (some [])) * pt (w.heap.size + 1) (.loop (rec .ready none))) ((w.alloc (.deferred (some []))).alloc (.loop (rec .ready none))) := by
    have := s1.alloc (o := .loop (rec .ready none))
    rwa [World.size_alloc] at this
  obtain ⟨W1, hW1⟩ : ∃ W1, (w.alloc (.deferred (some []))).alloc (.loop (rec .ready none)) = W1 := ⟨_, rfl⟩
  rw [hW1] at s2
  have sw : ∀ o (W : World) (Y : SL), Sat B (Y * (pt w.heap.size (.deferred (some [])) * pt (w.heap.size + 1) o)) W ↔ Sat B (Y * pt w.heap.size (.deferred (some [])) * pt (w.heap.size + 1) o) W := fun o W Y => by rw [sep_assoc]
  refine ⟨w.heap.size + 1, [{ target := .collected w.heap.size, args := #[] }], W1, { target := .fn (.func gf) lb, args := #[.func (.yield (w.heap.size + 1)) #[] #[]] }, W1, gf,
    #[.func (.yield (w.heap.size + 1)) #[] #[]] ++ lb, W1, ?_, ?_, fun _ _ => trivial, ?_, fun _ => hn, ?_⟩
  · rw [← hW1, hrec]; exact run_enterLoop_outer _ _ _ _ _
  · simp only [resolve, hg]
    simp [go_sem]
  · simp [invoke, go_sem, eg]
  · refine (hseq (w.heap.size + 1) (pt w.heap.size (.deferred (some [])) * pt (w.heap.size + 1) (.loop (rec .ready none))) (pt w.heap.size (.deferred (some [])) * pt (w.heap.size + 1) (.loop (rec .done (some .ret)))) ?_ W1 ((sw _ _ _).2 s2)).mono ?_
    · intro m pre x W hx hs
      rw [sw] at hs
      have hl : W.heap[w.heap.size + 1]? = some (.loop (rec .ready none)) := (hs.has Has.last).1
      have hy := run_yield (P := Pg) (args := enc x) hl (by rw [hrec]; exact hps x)
      rw [hrec] at hy
      refine ⟨fn, _, assign, body, hy, roundIn_of_wpIn hfn (hassign _ _ x W _ fun a' hAg => ⟨_, run_beginRound hl (by rw [hrec]), ?_⟩)⟩
      have hs2 := putObj_sat (o' := .loop { rec .ready none with state := .busy }) hs
      rw [← sw] at hs2
      refine wpIn_mono (hbody _ _ pre x _ _ a' hAg hx hs2) ?_
      rintro e a3 W3 (⟨rfl, hs3⟩ | ⟨rfl, hs3⟩)
      · rw [sw] at hs3
        have hl3 : W3.heap[w.heap.size + 1]? = some (.loop { rec .ready none with state := .busy }) := (hs3.has Has.last).1
        have hend := run_endRound (P := Pg) none hl3
        refine ⟨_, _, hend, .inl ⟨rfl, ?_⟩⟩
        have hs4 := putObj_sat (o' := .loop (rec .ready none)) hs3
        rw [sw]
        rw [hrec] at hs4 ⊢
        exact hs4
      · rw [sw] at hs3
        have hl3 : W3.heap[w.heap.size + 1]? = some (.loop { rec .ready none with state := .busy }) := (hs3.has Has.last).1
        have hend := run_endRound (P := Pg) (some .ret) hl3
        refine ⟨_, _, hend, .inr ⟨rfl, ?_⟩⟩
        have hs4 := putObj_sat (o' := .loop (rec .done (some .ret))) hs3
        rw [sw]
        rw [hrec] at hs4 ⊢
        exact hs4
    · rintro e W2 ⟨⟨v, rfl⟩, hs | hs⟩
      · rw [sw] at hs
        have hl : W2.heap[w.heap.size + 1]? = some (.loop (rec .ready none)) := (hs.has Has.last).1
        refine ⟨none, _, by have := run_endLoop (P := Pg) hl (by rw [hrec]; simp); rw [hrec] at this; exact this, ?_⟩
        exact hdone _ _ (putObj_sat hs).left
      · rw [sw] at hs
        have hl : W2.heap[w.heap.size + 1]? = some (.loop (rec .done (some .ret))) := (hs.has Has.last).1
        refine ⟨some .ret, _, by have := run_endLoop (P := Pg) hl (by rw [hrec]; simp); rw [hrec] at this; exact this, ?_⟩
        exact wpIn_ret (hret _ _ (putObj_sat hs).left)
/-- one piece of code behind another one, with slots known -/
theorem rk_seq {Pg : Program} {m n : Nat} {D : List Deferred} {E : Env} {a : Act} {w : World} {c d : Code} {t : K} {Q : Exit → Act → World → Prop} (l : List (Nat × Sg)) (cl : List Nat) (t2 : Tup l → K)
    (h1 : RefK Pg m c E t (thenQ (fun E' => getAll l E' t2) (fun _ _ => kF))) (ha : Agree D m E a) (ht : t w) (hc : clean (wr c) cl = true)
    (h2 : ∀ x a' w', Agree D m (encE l x ++ pick E cl) a' → t2 x w' → d.wpIn Fence.wide n Pg Q a' w') : (Code.seq c d).wpIn Fence.wide n Pg Q a w := by
  refine wpIn_seq (h1 none n D _ a w ha ht fun e E' a' w' ha' hf h => ?_)
  cases e <;> try exact h.elim
  obtain ⟨x, hs, h⟩ := getAll_spec h
  exact h2 x a' w' (carry ha (ha'.sub hs) hf hc) h
/-- the round's parameter, assigned -/
theorem rk_assign {Pg : Program} {m n lp p : Nat} {D : List Deferred} {E : Env} {a : Act} {W : World} {c : Code} {v : Value} {K : Act → World → Prop} (l : List (Nat × Sg)) (cl : List Nat) (z : Tup l) (ha : Agree D n E a) (hp : p < n)
    (h1 : RefK Pg n c (E.put (some p) v) (fun w => z = z ∧ w = W) (thenQ (fun E' => getAll l E' (fun x w => x = z ∧ w = W)) (fun _ _ => kF)))
    (hc : clean (wr c) cl = true) (hK : ∀ a', Agree [] n (encE l z ++ pick (E.put (some p) v) cl) a' → K a' W) {T : Array Value} (hT : T = a.tmps.setIfInBounds p v) :
    c.wpIn (Fence.wide.inRound lp) m Pg (Exit.then K (fun _ _ _ => False)) { tmps := T, defers := [] } W := by
  subst hT
  have ha0 : Agree [] n E { tmps := a.tmps, defers := [] } := ⟨rfl, ha.2.1, ha.2.2⟩
  have ha1 : Agree [] n (E.put (some p) v) { tmps := a.tmps.setIfInBounds p v, defers := [] } := ha0.put (dst := some p) fun d hd => by cases hd; exact hp
  refine h1 (some lp) m [] _ _ W ha1 ⟨rfl, rfl⟩ fun e E' a' w' ha' hf h => ?_
  cases e <;> try exact h.elim
  obtain ⟨x, hs, rfl, rfl⟩ := getAll_spec h
  exact hK a' (carry ha1 (ha'.sub hs) hf hc)
/-- behind a range over a function: the mark is come to, the results are read -/
theorem leave_T {Pg : Program} {fn : Func} {m n D : Nat} {a : Act} {E : Env} {S : SL} {W : World} {r : RSh} {k : r.T → K} (ha : Agree [{ target := .collected D, args := #[] }] m E a) (hs : Sat B (S * pt D (.deferred (some []))) W)
    (hk : T B S (resK Pg fn.results.toList E [] fun vs => decR r (packR vs) k)) :
    LeavesInM Fence.wide n Pg fn a.tmps (fun e w' => ∃ x : r.T, e = .returned (r.enc x) ∧ k x w') a.defers .returning W := by
  have hK : W.heap[D]? = some (.deferred (some [])) := (hs.has Has.last).1
  have hs2 := (putObj_sat (o' := .deferred none) hs).left
  obtain ⟨v, hr, hd⟩ := fin_run (fn := fn) (k := fun v => decR r v k) ha (hk _ hs2)
  obtain ⟨x, hx, hkx⟩ := decR_spec hd
  rw [ha.1]
  refine ⟨by simp, .inl ⟨_, _, rfl, run_takeDeferred hK, ?_⟩⟩
  exact ⟨_, hr, x, by rw [hx], hkx⟩
end
def nts (l : List Nat) : List Int := l.map fun (n : Nat) => (n : Int)
def Uof (ws : List Nat) (a : Nat) : Bool := (ws.getD (a / 64) 0).testBit (a % 64)
structure BmOk (lim : Nat) (U : Nat → Bool) (ws : List Nat) : Prop where
  len : ws.length = (lim + 63) / 64
  big : lim ≤ 2 ^ 40
  lt : ∀ w ∈ ws, w < 2 ^ 64
  eq : ∀ a, U a = Uof ws a
  off : ∀ a, lim ≤ a → U a = false
abbrev BmX := Sl × List Nat × Int
def BmQ (s lim : Nat) (x : BmX) : SL := vec 109 1 x.1 (wds (nts x.2.1)) * pt s (.cells [x.1.v, .int .i64 lim, .int .i64 x.2.2].toArray 191)
def Bm (s lim : Nat) (U : Nat → Bool) : SL := ex fun x : BmX => BmQ s lim x * pu (BmOk lim U x.2.1)
theorem bit_andN {a b : Nat} (ha : a < 2 ^ 64) (hb : b < 2 ^ 64) : ∃ m : Nat, bitI .andNot .u64 a b = m ∧ m < 2 ^ 64 ∧ ∀ j, j < 64 → m.testBit j = (a.testBit j && !b.testBit j) := by
  refine ⟨(BitVec.ofInt 64 a &&& ~~~ BitVec.ofInt 64 b).toNat, ?_, (BitVec.ofInt 64 a &&& ~~~ BitVec.ofInt 64 b).isLt, fun j hj => ?_⟩
  · exact wu64n _ (BitVec.ofInt 64 a &&& ~~~ BitVec.ofInt 64 b).isLt
  · rw [← BitVec.getLsbD, BitVec.getLsbD_and, BitVec.getLsbD_not, BitVec.ofInt_natCast, BitVec.ofInt_natCast, BitVec.getLsbD_ofNat, BitVec.getLsbD_ofNat]
    simp [hj]
section
variable {B : World} {P R : SL} {t : K}
theorem Bm_open {s lim : Nat} {U : Nat → Bool} (h : ∀ (q : Sl) (ws : List Nat) (m : Int), BmOk lim U ws → T B (R * vec 109 1 q (wds (nts ws)) * pt s (.cells [q.v, .int .i64 lim, .int .i64 m].toArray 191)) t) : T B (R * Bm s lim U) t := by
  refine T_ex fun x => ?_
  rw [← sep_assoc]
  refine T_pu fun ok => T.perm ?_ (h x.1 x.2.1 x.2.2 ok)
  unfold BmQ; simp only [sep_assoc]
theorem Bm_close {s lim : Nat} {U : Nat → Bool} {q : Sl} {ws : List Nat} {m : Int} (ok : BmOk lim U ws) (h : T B (R * Bm s lim U) t) : T B (R * vec 109 1 q (wds (nts ws)) * pt s (.cells [q.v, .int .i64 lim, .int .i64 m].toArray 191)) t := by
  have h2 : T B (R * (BmQ s lim (q, ws, m) * pu (BmOk lim U ws))) t := T_exI (X := fun x : BmX => BmQ s lim x * pu (BmOk lim U x.2.1)) (q, ws, m) h
  rw [← sep_assoc] at h2
  refine T.perm ?_ (T_puI ok h2)
  unfold BmQ; simp only [sep_assoc]
theorem bitmap_New_c {lim : Nat} (hl : lim ≤ 2 ^ 40) {k : Option Addr → K} (hk : ∀ s, T B (R * Bm s lim (fun _ => false)) (k (da s))) : T B R (c_bitmap_New lim k) := by
  refine T_of (bitmap_New_ok lim k) ?_
  have e0 : max2I (lim : Int) 0 = lim := by unfold max2I; split <;> omega
  (dsimp only [bitmap_New, Zeg0, Zeg1])
  rw [e0]
  refine bits_Up_c (by omega) (by omega) (by omega) ?_
  have e1 : ((lim : Int) + 64 - 1) / 64 = (((lim + 63) / 64 : Nat) : Int) := by omega
  rw [e1]
  refine T_mkV kd_u64 (by omega) (by omega) (by omega) fun b => ?_
  rw [Int.toNat_natCast, repZ_wds]
  (repeat ((with_reducible refine T_al ?_; intro _)))
  rename_i s
  have e2 : List.replicate ((lim + 63) / 64) (0 : Int) = nts (List.replicate ((lim + 63) / 64) 0) := by simp [nts]
  rw [e2]
  refine Bm_close (q := ⟨some ⟨b, 0, none⟩, (lim + 63) / 64, (lim + 63) / 64⟩) ⟨by simp, hl, fun w hw => ?_, fun a => ?_, fun a _ => rfl⟩ (hk s)
  · rw [List.eq_of_mem_replicate hw]; exact Nat.two_pow_pos _
  · unfold Uof
    rw [List.getD_eq_getElem?_getD, List.getElem?_replicate]
    split <;> simp
theorem bitmap_in_c {s lim : Nat} {U : Nat → Bool} {a : Int} {k : Bool → K} (hk : T B (R * Bm s lim U) (k (decide (0 ≤ a ∧ a < lim)))) : T B (R * Bm s lim U) (c_bitmap_Set_in (da s) a k) := by
  refine T_of (bitmap_Set_in_ok _ a k) ?_
  unfold da
  (repeat' (first | with_reducible refine T_nn ?_ | with_reducible refine T_brD (fun _ => ?_) (fun _ => ?_)))
  · rename_i h
    refine Bm_open fun q ws m ok => ?_
    (repeat (((with_reducible apply T_ldI); (focus rfl); (focus exact hasA); (focus rfl))))
    refine Bm_close ok ?_
    have e : decide (a < (lim : Int)) = decide (0 ≤ a ∧ a < lim) := by simp; omega
    rw [e]; exact hk
  · rename_i h
    have e : decide (0 ≤ a ∧ a < (lim : Int)) = false := by simp; omega
    rw [e] at hk; exact hk
def has (U : Nat → Bool) (a : Int) : Bool := decide (0 ≤ a) && U a.toNat
theorem nts_at {ws : List Nat} {i : Nat} (h : i < ws.length) : (wds (nts ws))[i]? = some (.int .u64 (ws[i] : Nat)) := by simp [wds, nts, h]
theorem bitmap_Has_c {s lim : Nat} {U : Nat → Bool} {a : Int} {k : Bool → K} (hk : T B (R * Bm s lim U) (k (has U a))) : T B (R * Bm s lim U) (c_bitmap_Set_Has (da s) a k) := by
  refine T_of (bitmap_Set_Has_ok _ a k) ?_
  refine bitmap_in_c ?_
  unfold da has at *
  by_cases h0 : 0 ≤ a ∧ a < (lim : Int)
  · rw [decide_eq_true h0]
    rw [decide_eq_true h0.1, Bool.true_and] at hk
    (repeat (first | with_reducible refine T_nn ?_ | with_reducible refine T_brT ?_))
    refine Bm_open fun q ws m ok => ?_
    obtain ⟨n, rfl⟩ := Int.eq_ofNat_of_zero_le h0.1
    have hb := ok.big
    have hlen := ok.len
    have hlt : n / 64 < ws.length := by omega
    (repeat (((with_reducible apply T_ldS); (focus rfl); (focus exact hasA); (focus rfl))))
    have e1 : IntKind.wrap .i64 (Int.tdiv (n : Int) 64) = ((n / 64 : Nat) : Int) := by rw [Int.tdiv_eq_ediv_of_nonneg (by omega), w64 (by omega) (by omega)]; omega
    have e2 : IntKind.wrap .u64 (Int.tmod (n : Int) 64) = ((n % 64 : Nat) : Int) := by rw [Int.tmod_eq_emod_of_nonneg (by omega), wu64 (by omega) (by omega)]; omega
    rw [e1]
    refine T_ixV (Rd.vec (E := 109) (s := q) (vs := wds (nts ws)) (.init .last)) (by omega) (by rw [Int.toNat_natCast]; exact nts_at hlt) ?_
    rw [e2]
    refine T_nneg (by omega) ?_
    have hw : ws[n / 64] < 2 ^ 64 := ok.lt _ (List.getElem_mem hlt)
    have e3 : (bitI .and .u64 (shrI .u64 ((ws[n / 64] : Nat) : Int) ((n % 64 : Nat) : Int)) 1 == 1) = U n := by
      rw [ok.eq n, shr_n (by omega)]
      have := bit_and (a := ws[n / 64] / 2 ^ (n % 64)) (b := 1) (Nat.lt_of_le_of_lt (Nat.div_le_self _ _) hw) (by omega)
      rw [show ((1 : Nat) : Int) = 1 from rfl] at this
      rw [this, Nat.and_one_is_mod]
      unfold Uof
      rw [List.getD_eq_getElem?_getD, List.getElem?_eq_getElem hlt, Option.getD_some, Nat.testBit_eq_decide_div_mod_eq]
      rw [Bool.eq_iff_iff]; simp only [beq_iff_eq, decide_eq_true_eq]; omega
    (dsimp only [bitmap_Set_Has, Zdf0, Zdf1])
    rw [e3]
    refine Bm_close ok ?_
    rw [Int.toNat_natCast] at hk; exact hk
  · rw [decide_eq_false h0]
    (repeat (with_reducible refine T_brF ?_))
    by_cases h1 : 0 ≤ a
    · refine Bm_open fun q ws m ok => ?_
      have := ok.off a.toNat (by omega)
      rw [this, Bool.and_false] at hk
      exact Bm_close ok hk
    · rw [decide_eq_false h1, Bool.false_and] at hk; exact hk
end
def uAdd (U : Nat → Bool) (a : Nat) : Nat → Bool := fun x => x == a || U x
def uDrop (U : Nat → Bool) (a : Nat) : Nat → Bool := fun x => x != a && U x
theorem nts_set (ws : List Nat) (i m : Nat) : (wds (nts ws)).set i (.int .u64 (m : Int)) = wds (nts (ws.set i m)) := by simp [wds, nts, List.map_set]
theorem Uof_set {ws : List Nat} {i m : Nat} (h : i < ws.length) (a : Nat) : Uof (ws.set i m) a = if a / 64 = i then m.testBit (a % 64) else Uof ws a := by
  unfold Uof
  rw [List.getD_eq_getElem?_getD, List.getElem?_set]
  by_cases e : a / 64 = i
  · rw [if_pos e, if_pos e.symm, if_pos (by omega)]; rfl
  · rw [if_neg e, if_neg (Ne.symm e), List.getD_eq_getElem?_getD]
theorem BmOk.set {lim : Nat} {U U' : Nat → Bool} {ws : List Nat} (ok : BmOk lim U ws) {a m : Nat} (ha : a < lim) (hm : m < 2 ^ 64)
    (h1 : ∀ j, j < 64 → j ≠ a % 64 → m.testBit j = (ws.getD (a / 64) 0).testBit j) (h2 : U' a = m.testBit (a % 64)) (h3 : ∀ x, x ≠ a → U' x = U x) : BmOk lim U' (ws.set (a / 64) m) := by
  have hlt : a / 64 < ws.length := by have := ok.len; omega
  refine ⟨by rw [List.length_set]; exact ok.len, ok.big, fun w hw => ?_, fun x => ?_, fun x hx => ?_⟩
  · rcases List.mem_or_eq_of_mem_set hw with h | h
    · exact ok.lt w h
    · rw [h]; exact hm
  · rw [Uof_set hlt]
    by_cases e : x = a
    · subst e; rw [if_pos rfl]; exact h2
    · rw [h3 x e, ok.eq x]
      split
      · rename_i e2
        rw [h1 (x % 64) (by omega) (by omega), ← e2]; rfl
      · rfl
  · rw [h3 x (by omega)]; exact ok.off x hx
section
variable {B : World} {P R : SL} {t : K}
theorem bitmap_Add_c {s lim : Nat} {U : Nat → Bool} {a : Int} {k : Bool → K} (h0 : ¬ (0 ≤ a ∧ a < lim ∧ U a.toNat = false) → T B (R * Bm s lim U) (k false))
    (h1 : 0 ≤ a → a < lim → U a.toNat = false → T B (R * Bm s lim (uAdd U a.toNat)) (k true)) : T B (R * Bm s lim U) (c_bitmap_Set_Add (da s) a k) := by
  refine T_of (bitmap_Set_Add_ok _ a k) ?_
  refine bitmap_in_c ?_
  by_cases hin : 0 ≤ a ∧ a < (lim : Int)
  · rw [decide_eq_true hin]
    skip
    simp only [Bool.not_true]
    (repeat (with_reducible refine T_brF ?_))
    refine bitmap_Has_c ?_
    obtain ⟨n, rfl⟩ := Int.eq_ofNat_of_zero_le hin.1
    rw [Int.toNat_natCast] at h1 h0
    have hh : has U (n : Int) = U n := by unfold has; rw [decide_eq_true hin.1, Bool.true_and, Int.toNat_natCast]
    rw [hh]
    cases hu : U n
    · have hk := h1 hin.1 hin.2 hu
      unfold da
      (repeat (first | with_reducible refine T_nn ?_ | with_reducible refine T_brF ?_))
      refine Bm_open fun q ws m ok => ?_
      have hb := ok.big
      have hlen := ok.len
      have hlt : n / 64 < ws.length := by omega
      (repeat (((with_reducible apply T_ldS); (focus rfl); (focus exact hasA); (focus rfl))))
      have e1 : IntKind.wrap .i64 (Int.tdiv (n : Int) 64) = ((n / 64 : Nat) : Int) := by rw [Int.tdiv_eq_ediv_of_nonneg (by omega), w64 (by omega) (by omega)]; omega
      have e2 : IntKind.wrap .u64 (Int.tmod (n : Int) 64) = ((n % 64 : Nat) : Int) := by rw [Int.tmod_eq_emod_of_nonneg (by omega), wu64 (by omega) (by omega)]; omega
      rw [e1]
      refine T_ixV (Rd.vec (E := 109) (s := q) (vs := wds (nts ws)) (.init .last)) (by omega) (by rw [Int.toNat_natCast]; exact nts_at hlt) ?_
      rw [e2]
      refine T_nneg (by omega) ?_
      have hw : ws[n / 64] < 2 ^ 64 := ok.lt _ (List.getElem_mem hlt)
      have h2p : 1 * 2 ^ (n % 64) < 2 ^ 64 := by rw [Nat.one_mul]; exact Nat.pow_lt_pow_right (by omega) (by omega)
      have e3 : shlI .u64 1 ((n % 64 : Nat) : Int) = ((1 * 2 ^ (n % 64) : Nat) : Int) := shl_n (a := 1) (by omega) h2p
      rw [e3, bit_or hw h2p]
      refine T_stV (E := 109) (i := ((n / 64 : Nat) : Int)) (s := q) (vs := wds (nts ws)) (.init .last) (by omega) (by rw [Int.toNat_natCast]; simp [wds, nts]; omega) ?_
      rw [Int.toNat_natCast, nts_set]
      have hg : ws.getD (n / 64) 0 = ws[n / 64] := by rw [List.getD_eq_getElem?_getD, List.getElem?_eq_getElem hlt]; rfl
      have ok' : BmOk lim (uAdd U n) (ws.set (n / 64) (ws[n / 64] ||| 1 * 2 ^ (n % 64))) := by
        refine ok.set (by omega) (Nat.or_lt_two_pow hw h2p) (fun j hj hne => ?_) ?_ (fun x hx => ?_)
        · rw [hg, Nat.testBit_or, Nat.one_mul, Nat.testBit_two_pow_of_ne (Ne.symm hne), Bool.or_false]
        · unfold uAdd; rw [Nat.testBit_or, Nat.one_mul, Nat.testBit_two_pow_self]; simp
        · unfold uAdd; simp [hx]
      (repeat (first | with_reducible refine T_nn ?_ | ((with_reducible apply T_ldI); (focus rfl); (focus exact hasA); (focus rfl)) | ((with_reducible apply T_st); (focus rfl); (focus exact updA); (focus simp); simp only [List.set, Nat.zero_add, Nat.reduceAdd])))
      refine T_bring (X := pt s (.cells [q.v, .int .i64 lim, .int .i64 (IntKind.wrap .i64 (m + 1))].toArray 191)) (.init .last) ?_
      exact Bm_close ok' hk
    · (repeat (with_reducible refine T_brT ?_))
      exact h0 (fun h => by rw [hu] at h; cases h.2.2)
  · rw [decide_eq_false hin]
    simp only [Bool.not_false]
    (repeat (with_reducible refine T_brT ?_))
    exact h0 (fun h => hin ⟨h.1, h.2.1⟩)
theorem bitmap_Drop_c {s lim : Nat} {U : Nat → Bool} {a : Int} {k : Bool → K} (h0 : has U a = false → T B (R * Bm s lim U) (k false))
    (h1 : 0 ≤ a → U a.toNat = true → T B (R * Bm s lim (uDrop U a.toNat)) (k true)) : T B (R * Bm s lim U) (c_bitmap_Set_Drop (da s) a k) := by
  refine T_of (bitmap_Set_Drop_ok _ a k) ?_
  refine bitmap_Has_c ?_
  cases hu : has U a
  · simp only [Bool.not_false]
    (repeat (with_reducible refine T_brT ?_))
    exact h0 hu
  · simp only [Bool.not_true]
    unfold has at hu
    simp only [Bool.and_eq_true, decide_eq_true_eq] at hu
    obtain ⟨hin, hu⟩ := hu
    obtain ⟨n, rfl⟩ := Int.eq_ofNat_of_zero_le hin
    rw [Int.toNat_natCast] at h1 hu
    have hk := h1 hin hu
    unfold da
    (repeat (first | with_reducible refine T_nn ?_ | with_reducible refine T_brF ?_))
    refine Bm_open fun q ws m ok => ?_
    have hb := ok.big
    have hlen := ok.len
    have hnl : n < lim := by
      rcases Nat.lt_or_ge n lim with h | h
      · exact h
      · rw [ok.off n h] at hu; cases hu
    have hlt : n / 64 < ws.length := by omega
    (repeat (((with_reducible apply T_ldS); (focus rfl); (focus exact hasA); (focus rfl))))
    have e1 : IntKind.wrap .i64 (Int.tdiv (n : Int) 64) = ((n / 64 : Nat) : Int) := by rw [Int.tdiv_eq_ediv_of_nonneg (by omega), w64 (by omega) (by omega)]; omega
    have e2 : IntKind.wrap .u64 (Int.tmod (n : Int) 64) = ((n % 64 : Nat) : Int) := by rw [Int.tmod_eq_emod_of_nonneg (by omega), wu64 (by omega) (by omega)]; omega
    rw [e1]
    refine T_ixV (Rd.vec (E := 109) (s := q) (vs := wds (nts ws)) (.init .last)) (by omega) (by rw [Int.toNat_natCast]; exact nts_at hlt) ?_
    rw [e2]
    refine T_nneg (by omega) ?_
    have hw : ws[n / 64] < 2 ^ 64 := ok.lt _ (List.getElem_mem hlt)
    have h2p : 1 * 2 ^ (n % 64) < 2 ^ 64 := by rw [Nat.one_mul]; exact Nat.pow_lt_pow_right (by omega) (by omega)
    have e3 : shlI .u64 1 ((n % 64 : Nat) : Int) = ((1 * 2 ^ (n % 64) : Nat) : Int) := shl_n (a := 1) (by omega) h2p
    obtain ⟨w', e4, e5, e6⟩ := bit_andN hw h2p
    rw [e3, e4]
    refine T_stV (E := 109) (i := ((n / 64 : Nat) : Int)) (s := q) (vs := wds (nts ws)) (.init .last) (by omega) (by rw [Int.toNat_natCast]; simp [wds, nts]; omega) ?_
    rw [Int.toNat_natCast, nts_set]
    have hg : ws.getD (n / 64) 0 = ws[n / 64] := by rw [List.getD_eq_getElem?_getD, List.getElem?_eq_getElem hlt]; rfl
    have ok' : BmOk lim (uDrop U n) (ws.set (n / 64) w') := by
      refine ok.set hnl e5 (fun j hj hne => ?_) ?_ (fun x hx => ?_)
      · rw [hg, e6 j hj, Nat.one_mul, Nat.testBit_two_pow_of_ne (Ne.symm hne)]; simp
      · unfold uDrop; rw [e6 _ (by omega), Nat.one_mul, Nat.testBit_two_pow_self]; simp
      · unfold uDrop; simp [hx]
    (repeat (first | with_reducible refine T_nn ?_ | ((with_reducible apply T_ldI); (focus rfl); (focus exact hasA); (focus rfl)) | ((with_reducible apply T_st); (focus rfl); (focus exact updA); (focus simp); simp only [List.set, Nat.zero_add, Nat.reduceAdd])))
    refine T_bring (X := pt s (.cells [q.v, .int .i64 lim, .int .i64 (IntKind.wrap .i64 (m - 1))].toArray 191)) (.init .last) ?_
    exact Bm_close ok' hk
end
def cnt0 (w : Int) : Int := IntKind.wrap .u64 (w - (bitI .and .u64 (shrI .u64 w 1) 6148914691236517205))
def cnt1 (w : Int) : Int := IntKind.wrap .u64 ((bitI .and .u64 w 3689348814741910323) + (bitI .and .u64 (shrI .u64 w 2) 3689348814741910323))
def cnt2 (w : Int) : Int := bitI .and .u64 (IntKind.wrap .u64 (w + (shrI .u64 w 4))) 1085102592571150095
def cnt3 (w : Int) : Int := IntKind.wrap .i64 (shrI .u64 (IntKind.wrap .u64 (w * 72340172838076673)) 56)
def cnt (w : Int) : Int := cnt3 (cnt2 (cnt1 (cnt0 w)))
theorem cnt_ones : ∀ i : Fin 64, cnt ((2 ^ i.val - 1 : Nat) : Int) = ((i.val : Nat) : Int) := by decide +kernel
theorem low_and {w i : Nat} (hw : w < 2 ^ 64) (hi : i < 64) (h0 : ∀ j, j < i → w.testBit j = false) (h1 : w.testBit i = true) : w &&& (2 ^ 64 - w) = 2 ^ i := by
  have hpos : 0 < w := by
    rcases Nat.eq_zero_or_pos w with h | h
    · subst h; simp at h1
    · exact h
  obtain ⟨m, hm⟩ : ∃ m, w = 2 ^ i * m := by
    refine ⟨w / 2 ^ i, ?_⟩
    have : w % 2 ^ i = 0 := by
      apply Nat.eq_of_testBit_eq
      intro j
      rw [Nat.testBit_mod_two_pow, Nat.zero_testBit]
      by_cases hj : j < i
      · rw [h0 j hj, Bool.and_false]
      · simp [hj]
    have := Nat.div_add_mod w (2 ^ i)
    omega
  have hodd : m.testBit 0 = true := by
    have := h1
    rw [hm, Nat.testBit_two_pow_mul] at this
    simpa using this
  have hm1 : m % 2 = 1 := by simpa [Nat.testBit_zero] using hodd
  have hw1 : w - 1 = 2 ^ i * (m - 1) + (2 ^ i - 1) := by
    have hp : 0 < 2 ^ i := Nat.two_pow_pos i
    rw [hm, Nat.mul_sub, Nat.mul_one]
    have : 2 ^ i * 1 ≤ 2 ^ i * m := Nat.mul_le_mul_left _ (by omega)
    omega
  apply Nat.eq_of_testBit_eq
  intro j
  rw [Nat.testBit_and, show 2 ^ 64 - w = 2 ^ 64 - ((w - 1) + 1) by omega, Nat.testBit_two_pow_sub_succ (by omega)]
  rcases Nat.lt_trichotomy j i with h | h | h
  · rw [h0 j h, Bool.false_and, Nat.testBit_two_pow_of_ne (by omega)]
  · subst h
    rw [h1, Nat.testBit_two_pow_self]
    have : (w - 1).testBit j = false := by
      rw [hw1, Nat.testBit_two_pow_mul_add _ (by have := Nat.two_pow_pos j; omega)]
      simp only [Nat.lt_irrefl, if_false, Nat.sub_self, Nat.testBit_zero, decide_eq_false_iff_not]
      omega
    rw [this]; simp [hi]
  · rw [Nat.testBit_two_pow_of_ne (by omega)]
    have : (w - 1).testBit j = w.testBit j := by
      rw [hw1, Nat.testBit_two_pow_mul_add _ (by have := Nat.two_pow_pos i; omega), if_neg (by omega)]
      rw [hm, Nat.testBit_two_pow_mul]
      obtain ⟨c, hc⟩ : ∃ c, j - i = c + 1 := ⟨j - i - 1, by omega⟩
      rw [hc, Nat.testBit_succ, Nat.testBit_succ, show (m - 1) / 2 = m / 2 by omega]
      simp; omega
    rw [this]
    cases w.testBit j <;> simp
section
variable {B : World} {P R : SL} {t : K}
theorem bits_Count_c {w : Int} {k : Int → K} (hk : T B R (k (cnt w))) : T B R (c_bits_Count w k) := T_of (bits_Count_ok w k) hk
theorem bits_Lowest_c {w i : Nat} (hw : w < 2 ^ 64) (hi : i < 64) (h0 : ∀ j, j < i → w.testBit j = false) (h1 : w.testBit i = true) {k : Int → K} (hk : T B R (k i)) : T B R (c_bits_Lowest w k) := by
  refine T_of (bits_Lowest_ok w k) ?_
  have hpos : 0 < w := by
    rcases Nat.eq_zero_or_pos w with h | h
    · subst h; simp at h1
    · exact h
  have e1 : IntKind.wrap .u64 (0 - (w : Int)) = ((2 ^ 64 - w : Nat) : Int) := by
    unfold IntKind.wrap
    simp only [IntKind.bits, IntKind.signed, Bool.false_and, Bool.false_eq_true, if_false]
    omega
  (dsimp only [bits_Lowest, Zbh0, Zbh1])
  rw [e1, bit_and hw (by omega), low_and hw hi h0 h1]
  have hp : 1 ≤ 2 ^ i := Nat.two_pow_pos i
  have hlt : 2 ^ i < 2 ^ 64 := Nat.pow_lt_pow_right (by omega) hi
  rw [wu64 (by omega) (by omega), show ((2 ^ i : Nat) : Int) - 1 = ((2 ^ i - 1 : Nat) : Int) by omega]
  refine bits_Count_c ?_
  rw [cnt_ones ⟨i, hi⟩]
  exact hk
end
theorem least {p : Nat → Bool} {n : Nat} (h : p n = true) : ∃ m, m ≤ n ∧ p m = true ∧ ∀ j, j < m → p j = false := by
  induction n using Nat.strongRecOn with
  | ind n ih =>
    by_cases hx : ∃ j, j < n ∧ p j = true
    · obtain ⟨j, h1, h2⟩ := hx
      obtain ⟨m, h3, h4, h5⟩ := ih j h1 h2
      exact ⟨m, by omega, h4, h5⟩
    · refine ⟨n, Nat.le_refl _, h, fun j hj => ?_⟩
      cases hp : p j
      · rfl
      · exact absurd ⟨j, hj, hp⟩ hx
theorem low_ex {w : Nat} (hw : w < 2 ^ 64) (h : w ≠ 0) : ∃ i, i < 64 ∧ w.testBit i = true ∧ ∀ j, j < i → w.testBit j = false := by
  obtain ⟨i, hi⟩ : ∃ i, w.testBit i = true := by
    refine Classical.byContradiction fun hn => h ?_
    apply Nat.eq_of_testBit_eq
    intro i
    rw [Nat.zero_testBit]
    cases hb : w.testBit i
    · rfl
    · exact absurd ⟨i, hb⟩ hn
  obtain ⟨m, h1, h2, h3⟩ := least (p := w.testBit) hi
  refine ⟨m, ?_, h2, h3⟩
  rcases Nat.lt_or_ge m 64 with hm | hm
  · exact hm
  · rw [Nat.testBit_lt_two_pow (Nat.lt_of_lt_of_le hw (Nat.pow_le_pow_right (by omega) hm))] at h2; cases h2
section
variable {B : World} {P R : SL} {t : K}
theorem bitmap_Next_c {s lim : Nat} {U : Nat → Bool} {a : Int} {k : Int × Bool → K} (h0 : (∀ x : Nat, a ≤ x → U x = false) → T B (R * Bm s lim U) (k (0, false)))
    (h1 : ∀ x : Nat, a ≤ x → U x = true → x < lim → (∀ y : Nat, a ≤ y → y < x → U y = false) → T B (R * Bm s lim U) (k ((x : Int), true))) : T B (R * Bm s lim U) (c_bitmap_Set_Next (da s) a k) := by
  refine T_of (bitmap_Set_Next_ok _ a k) ?_
  obtain ⟨n, hn, hna⟩ : ∃ n : Nat, max2I a 0 = n ∧ ∀ x : Nat, a ≤ x ↔ n ≤ x := by
    refine ⟨a.toNat, ?_, fun x => by omega⟩
    unfold max2I; split <;> omega
  simp only [hna] at h0 h1
  (dsimp only [bitmap_Set_Next, Zej0, Zej1, Zej2, Zej3, Zej4, Zej5, Zej6, Zej7, Zej8, Zej9, Zej10, Zej11, Zej12])
  rw [hn]
  unfold da
  refine Bm_open fun q ws m ok => ?_
  have hb := ok.big
  have hlen := ok.len
  (repeat' (first | with_reducible refine T_nn ?_ | ((with_reducible apply T_ldI); (focus rfl); (focus exact hasA); (focus rfl)) | ((with_reducible apply T_ldS); (focus rfl); (focus exact hasA); (focus rfl)) | with_reducible refine T_brD (fun _ => ?_) (fun _ => ?_)))
  · rename_i hge
    exact Bm_close ok (h0 fun x hx => ok.off x (by omega))
  rename_i hlt0
  have hnl : n < lim := by omega
  have e1 : IntKind.wrap .i64 (Int.tdiv (n : Int) 64) = ((n / 64 : Nat) : Int) := by rw [Int.tdiv_eq_ediv_of_nonneg (by omega), w64 (by omega) (by omega)]; omega
  have e2 : IntKind.wrap .u64 (Int.tmod (n : Int) 64) = ((n % 64 : Nat) : Int) := by rw [Int.tmod_eq_emod_of_nonneg (by omega), wu64 (by omega) (by omega)]; omega
  have hlt : n / 64 < ws.length := by omega
  rw [e1]
  refine T_ixV (Rd.vec (E := 109) (s := q) (vs := wds (nts ws)) (.init .last)) (by omega) (by rw [Int.toNat_natCast]; exact nts_at hlt) ?_
  rw [e2]
  refine T_nneg (by omega) ?_
  refine T_nneg (by omega) ?_
  have hw : ws[n / 64] < 2 ^ 64 := ok.lt _ (List.getElem_mem hlt)
  have hsl : ws[n / 64] / 2 ^ (n % 64) * 2 ^ (n % 64) ≤ ws[n / 64] := Nat.div_mul_le_self _ _
  rw [shr_n (by omega), shl_n (by omega) (by omega)]
  have hU : ∀ x : Nat, x / 64 < ws.length → U x = (ws.getD (x / 64) 0).testBit (x % 64) := fun x _ => ok.eq x
  refine T_lpX (fun _ _ => R * vec 109 1 q (wds (nts ws)) * pt s (.cells [q.v, .int .i64 lim, .int .i64 m].toArray 191))
    (fun mm (st : Int × Int × Unit) => ∃ i w : Nat, st.1 = i ∧ st.2.1 = w ∧ n / 64 ≤ i ∧ i < ws.length ∧ w < 2 ^ 64 ∧ mm = ws.length - i ∧ (∀ x : Nat, n ≤ x → x / 64 < i → U x = false) ∧ (∀ x : Nat, x / 64 = i → w.testBit (x % 64) = (decide (n ≤ x) && U x))) (ws.length - n / 64) rfl
    ⟨n / 64, _, rfl, rfl, Nat.le_refl _, hlt, by omega, rfl, fun x hx h => by omega, fun x hx => ?_⟩ ?_
  · rw [ok.eq x]; unfold Uof
    rw [hx, List.getD_eq_getElem?_getD, List.getElem?_eq_getElem hlt, Option.getD_some, Nat.testBit_mul_two_pow, Nat.testBit_div_two_pow]
    by_cases hnx : n ≤ x
    · rw [decide_eq_true hnx, decide_eq_true (show n % 64 ≤ x % 64 by omega)]
      rw [show x % 64 - n % 64 + n % 64 = x % 64 by omega]
    · rw [decide_eq_false hnx, decide_eq_false (show ¬ n % 64 ≤ x % 64 by omega)]; simp
  rintro mm ⟨s1, s2, u⟩ c ⟨i, w, f1, f2, f8, f3, f4, f5, f6, f7⟩ hc
  simp only at f1 f2
  subst f1 f2 f5
  refine T_vlen (E := 109) (sz := 1) (s := q) (vs := wds (nts ws)) (.init .last) fun hq => ?_
  have hqn : q.n = ws.length := by simpa [wds, nts] using hq
  (repeat' (first | with_reducible refine T_nn ?_ | ((with_reducible apply T_ldS); (focus rfl); (focus exact hasA); (focus rfl)) | with_reducible refine T_brD (fun _ => ?_) (fun _ => ?_) | with_reducible refine T_brE (fun _ => ?_) (fun _ => ?_)))
  · rename_i hz hge
    refine Bm_close ok (h0 fun x hx => ?_)
    rw [w64 (by omega) (by omega)] at hge
    by_cases hxl : x < lim
    · rcases Nat.lt_trichotomy (x / 64) i with h | h | h
      · exact f6 x hx h
      · have := f7 x h
        have hw0 : w = 0 := by simp only at hz; omega
        rw [hw0, decide_eq_true hx, Bool.true_and, Nat.zero_testBit] at this
        exact this.symm
      · omega
    · exact ok.off x (by omega)
  · rename_i hz hlt2
    have hw0 : w = 0 := by simp only at hz; omega
    rw [w64 (by omega) (by omega)] at hlt2
    have hi : i + 1 < ws.length := by omega
    have e3 : IntKind.wrap .i64 ((i : Int) + 1) = ((i + 1 : Nat) : Int) := by rw [w64 (by omega) (by omega)]; omega
    (dsimp only [bitmap_Set_Next, Zej0, Zej1, Zej2, Zej3, Zej4, Zej5, Zej6, Zej7, Zej8, Zej9, Zej10, Zej11, Zej12])
    rw [e3]
    refine T_ixV (Rd.vec (E := 109) (s := q) (vs := wds (nts ws)) (.init .last)) (by omega) (by rw [Int.toNat_natCast]; exact nts_at hi) ?_
    refine hc (ws.length - (i + 1)) _ (by omega) ⟨i + 1, ws[i + 1], rfl, rfl, by omega, hi, ok.lt _ (List.getElem_mem hi), rfl, fun x hx hxi => ?_, fun x hx => ?_⟩
    · by_cases hxe : x / 64 = i
      · have := f7 x hxe
        rw [hw0, decide_eq_true hx, Bool.true_and, Nat.zero_testBit] at this
        exact this.symm
      · exact f6 x hx (by omega)
    · rw [ok.eq x]; unfold Uof
      rw [hx, List.getD_eq_getElem?_getD, List.getElem?_eq_getElem hi, Option.getD_some, decide_eq_true (show n ≤ x by omega), Bool.true_and]
  · rename_i hne
    have hw0 : w ≠ 0 := by simp only at hne; omega
    obtain ⟨j, g1, g2, g3⟩ := low_ex f4 hw0
    refine bits_Lowest_c f4 g1 g3 g2 ?_
    (dsimp only [bitmap_Set_Next, Zej0, Zej1, Zej2, Zej3, Zej4, Zej5, Zej6, Zej7, Zej8, Zej9, Zej10, Zej11, Zej12])
    have e3 : IntKind.wrap .i64 ((IntKind.wrap .i64 ((i : Int) * 64)) + j) = ((64 * i + j : Nat) : Int) := by rw [w64 (n := (i : Int) * 64) (by omega) (by omega), w64 (by omega) (by omega)]; omega
    rw [e3]
    have hx := f7 (64 * i + j) (by omega)
    rw [show (64 * i + j) % 64 = j by omega, g2] at hx
    have hx' := (Bool.and_eq_true_iff.1 hx.symm)
    have hnx : n ≤ 64 * i + j := by simpa using hx'.1
    refine Bm_close ok (h1 _ hnx hx'.2 ?_ fun y hy hyx => ?_)
    · rcases Nat.lt_or_ge (64 * i + j) lim with h | h
      · exact h
      · rw [ok.off _ h] at hx'; cases hx'.2
    · by_cases hyi : y / 64 < i
      · exact f6 y hy hyi
      · have := f7 y (by omega)
        rw [g3 _ (by omega), decide_eq_true hy, Bool.true_and] at this
        exact this.symm
end
section
set_option maxRecDepth 100000
abbrev Zfd0 (k : (Sl → K)) (x2 : Sl) : K :=
  k x2
abbrev Zfd1 (a : OA) (k : (Sl → K)) : K :=
  nn a fun x4 =>
  ldP (x4.add 3) fun x6 =>
  c_bitmap_Set_List x6 fun x7 =>
  Zfd0 k x7
abbrev alloc_Allocator_Objects (a : OA) : M Sl := fun k =>
  Zfd1 a k
theorem alloc_Allocator_Objects_ok (a : OA) (k : Sl → K) (w : World) (hyp_ : alloc_Allocator_Objects a k w) : c_alloc_Allocator_Objects a k w :=
  cl_of (P := Tryz.prog) Tryz.func12 rfl (by kernel_rfl)
  (Qs [] [0] (fun z_ => Zfd1 a k)
  Qz
  (fun _ => Qs [(2, .slice)] [] (fun z_ => Zfd0 k z_.1)
  Qz
  (fun ⟨x2, _⟩ => Qr))) hyp_
abbrev Zfe0 (k : (Int → K)) (x6 : Int) : K :=
  k x6
abbrev Zfe1 (x0 : OA) (x1 : Int) (x2 : Int) (k : (Int → K)) (x9 : Int) : K :=
  nn x0 fun x76 =>
  ldP (x76.add 4) fun x78 =>
  c_free_Lists_Put x78 x1 x9 x2 fun x82 =>
  Zfe0 k x82
abbrev Zfe2 (k : (Int → K)) (x6_1 : Int) : K :=
  k x6_1
abbrev Zfe3 (x0 : OA) (x2 : Int) (k : (Int → K)) (x9 : Int) : K :=
  nn x0 fun x69 =>
  ldP (x69.add 4) fun x71 =>
  c_free_Lists_Push x71 x9 x2 fun x74 =>
  Zfe2 k x74
abbrev Zfe4 (x0 : OA) (x1 : Int) (x2 : Int) (k : (Int → K)) (x9 : Int) (x67 : Bool) : K :=
  brK x67
  (Zfe3 x0 x2 k x9)
  (Zfe1 x0 x1 x2 k x9)
abbrev Zfe5 (x0 : OA) (x1 : Int) (x2 : Int) (k : (Int → K)) (x9 : Int) : K :=
  brK (decide (x1 < 0))
  (Zfe4 x0 x1 x2 k x9 true)
  (Zfe4 x0 x1 x2 k x9 (decide (x1 ≥ 4)))
abbrev Zfe6 (x0 : OA) (x1 : Int) (x2 : Int) (k : (Int → K)) (x9 : Int) : K :=
  nn x0 fun x57 =>
  ldP (x57.add 3) fun x59 =>
  c_bitmap_Set_Drop x59 x2 fun x61 =>
  Zfe5 x0 x1 x2 k x9
abbrev Zfe7 (k : (Int → K)) (x6_2 : Int) : K :=
  k x6_2
abbrev Zfe8 (x0 : OA) (x2 : Int) (k : (Int → K)) : K :=
  nn x0 fun x51 =>
  ldP (x51.add 3) fun x53 =>
  c_bitmap_Set_Drop x53 x2 fun x55 =>
  Zfe7 k 0
abbrev Zfe9 (k : (Int → K)) (x6_3 : Int) : K :=
  k x6_3
abbrev Zfe10 (x0 : OA) (x2 : Int) (k : (Int → K)) (x11 : Int) (x48 : Bool) : K :=
  brK x48
  (Zfe9 k x11)
  (Zfe8 x0 x2 k)
abbrev Zfe11 (x0 : OA) (x2 : Int) (k : (Int → K)) (x11 : Int) : K :=
  Zfe10 x0 x2 k x11 (x11 != 0)
abbrev Zfe12 (x0 : OA) (x2 : Int) (k : (Int → K)) : K :=
  tick fun _ =>
  nn x0 fun x37 =>
  ldP (x37.add 0) fun x39 =>
  nn x0 fun x41 =>
  ldI .i64 (Addr.add (x41.add 2) 0) fun x43_0 =>
  c_geom_Geometry_BlockOf x43_0 x2 fun x45 =>
  chk [.cell (x37.add 0) (.pointer x39)] fun _ =>
  c_bman_Manager_Release x39 x45 fun x46 =>
  Zfe11 x0 x2 k x46
abbrev Zfe13 (x0 : OA) (x1 : Int) (x2 : Int) (k : (Int → K)) (x9 : Int) (x35 : Bool) : K :=
  brK x35
  (Zfe12 x0 x2 k)
  (Zfe6 x0 x1 x2 k x9)
abbrev Zfe14 (x0 : OA) (x1 : Int) (x2 : Int) (k : (Int → K)) (x9 : Int) (x10 : Bool) : K :=
  Zfe13 x0 x1 x2 k x9 (!x10)
abbrev Zfe15 (x0 : OA) (x1 : Int) (x2 : Int) (k : (Int → K)) (x7 : Addr) : K :=
  ldI .i64 (x7.add 0) fun x30_0 =>
  ldI .i64 (x7.add 1) fun x30_1 =>
  c_ohead_Object_Small (x30_0, x30_1) fun x31 =>
  Zfe14 x0 x1 x2 k x31.1 x31.2
abbrev Zfe16 (k : (Int → K)) (x6_4 : Int) : K :=
  k x6_4
abbrev Zfe17 (x0 : OA) (x1 : Int) (x2 : Int) (k : (Int → K)) (x7 : Addr) (x28 : Bool) : K :=
  brK x28
  (Zfe16 k 42)
  (Zfe15 x0 x1 x2 k x7)
abbrev Zfe18 (x0 : OA) (x1 : Int) (x2 : Int) (k : (Int → K)) (x7 : Addr) (x8 : Bool) : K :=
  brK (!x8)
  (Zfe17 x0 x1 x2 k x7 true)
  (nn x0 fun x22 =>
  ldP (x22.add 3) fun x24 =>
  c_bitmap_Set_Has x24 x2 fun x26 =>
  Zfe17 x0 x1 x2 k x7 (!x26))
abbrev Zfe19 (x0 : OA) (x1 : Int) (x2 : Int) (k : (Int → K)) : K :=
  c_alloc_Allocator_Place x0 x2 fun x15 =>
  alK (.cells #[.int .i64 0, .int .i64 0] 68) fun b =>
  stK (Addr.add ⟨b, 0, none⟩ 0) (.int .i64 x15.1.1) <|
  stK (Addr.add ⟨b, 0, none⟩ 1) (.int .i64 x15.1.2) <|
  Zfe18 x0 x1 x2 k ⟨b, 0, none⟩ x15.2
abbrev alloc_Allocator_Free (x0 : OA) (x1 : Int) (x2 : Int) : M Int := fun k =>
  Zfe19 x0 x1 x2 k
theorem alloc_Allocator_Free_ok (x0 : OA) (x1 : Int) (x2 : Int) (k : Int → K) (w : World) (hyp_ : alloc_Allocator_Free x0 x1 x2 k w) : c_alloc_Allocator_Free x0 x1 x2 k w :=
  cl_of (P := Tryz.prog) Tryz.func24 rfl (by kernel_rfl)
  (Qs [] [0, 1, 2] (fun z_ => Zfe19 x0 x1 x2 k)
  Qz
  (fun _ => Qs [(7, .addr), (8, .bool)] [0, 1, 2] (fun z_ => Zfe18 x0 x1 x2 k z_.1 z_.2.1)
  Qz
  (fun ⟨x7, x8, _⟩ => Qs [] [0, 1, 2, 7] (fun z_ => Zfe15 x0 x1 x2 k x7)
  (Qs [(28, .bool)] [0, 1, 2, 7] (fun z_ => Zfe17 x0 x1 x2 k x7 z_.1)
  (Qp [2])
  (fun ⟨x28, _⟩ => Qc (x28) (Zfe16 k 42) (Zfe15 x0 x1 x2 k x7) (Qs [(6, .int .i64)] [] (fun z_ => Zfe16 k z_.1)
  Qz
  (fun ⟨x6_4, _⟩ => Qr)) Qk))
  (fun _ => Qs [(9, .int .i64), (10, .bool)] [0, 1, 2] (fun z_ => Zfe14 x0 x1 x2 k z_.1 z_.2.1)
  Qz
  (fun ⟨x9, x10, _⟩ => Qs [] [0, 1, 2, 9] (fun z_ => Zfe6 x0 x1 x2 k x9)
  (Qs [(35, .bool)] [0, 1, 2, 9] (fun z_ => Zfe13 x0 x1 x2 k x9 z_.1)
  Qz
  (fun ⟨x35, _⟩ => Qc (x35) (Zfe12 x0 x2 k) (Zfe6 x0 x1 x2 k x9) (Qs [] [0, 2] (fun z_ => Zfe8 x0 x2 k)
  (Qs [(11, .int .i64)] [0, 2] (fun z_ => Zfe11 x0 x2 k z_.1)
  (RefK.draw [] [0, 1, 3, 7, 0, 16, 48, 112, 0, 496, 1023, 2047] [0, 1, 2, 3, 4, 5, 6, 7, 8, 9, 10, 11] [0, 1, 2, 3, 4, 5, 6, 7, 8, 9, 10, 11] (by kernel_rfl) (by kernel_rfl))
  (fun ⟨x11, _⟩ => Qs [(48, .bool)] [0, 2, 11] (fun z_ => Zfe10 x0 x2 k x11 z_.1)
  Qz
  (fun ⟨x48, _⟩ => Qc (x48) (Zfe9 k x11) (Zfe8 x0 x2 k) (Qs [(6, .int .i64)] [] (fun z_ => Zfe9 k z_.1)
  Qz
  (fun ⟨x6_3, _⟩ => Qr)) Qk)))
  (fun _ => Qs [] [] (fun z_ => Zfe7 k 0)
  Qz
  (fun _ => Qs [(6, .int .i64)] [] (fun z_ => Zfe7 k z_.1)
  Qz
  (fun ⟨x6_2, _⟩ => Qr)))) Qk))
  (fun _ => Qs [] [0, 1, 2, 9] (fun z_ => Zfe5 x0 x1 x2 k x9)
  Qz
  (fun _ => Qs [] [0, 1, 2, 9] (fun z_ => Zfe1 x0 x1 x2 k x9)
  (Qs [(67, .bool)] [0, 1, 2, 9] (fun z_ => Zfe4 x0 x1 x2 k x9 z_.1)
  (Qp [2])
  (fun ⟨x67, _⟩ => Qc (x67) (Zfe3 x0 x2 k x9) (Zfe1 x0 x1 x2 k x9) (Qs [(6, .int .i64)] [] (fun z_ => Zfe2 k z_.1)
  Qz
  (fun ⟨x6_1, _⟩ => Qr)) Qk))
  (fun _ => Qs [(6, .int .i64)] [] (fun z_ => Zfe0 k z_.1)
  Qz
  (fun ⟨x6, _⟩ => Qr))))))))) hyp_
abbrev Zff0 (k : (Bool → K)) (x4 : Bool) : K :=
  k x4
abbrev Zff1 (a : OA) (at_1 : Int) (k : (Bool → K)) : K :=
  nn a fun x6 =>
  ldP (x6.add 3) fun x8 =>
  c_bitmap_Set_Has x8 at_1 fun x10 =>
  Zff0 k x10
abbrev alloc_Allocator_Used (a : OA) (at_1 : Int) : M Bool := fun k =>
  Zff1 a at_1 k
theorem alloc_Allocator_Used_ok (a : OA) (at_1 : Int) (k : Bool → K) (w : World) (hyp_ : alloc_Allocator_Used a at_1 k w) : c_alloc_Allocator_Used a at_1 k w :=
  cl_of (P := Tryz.prog) Tryz.func27 rfl (by kernel_rfl)
  (Qs [] [0, 1] (fun z_ => Zff1 a at_1 k)
  Qz
  (fun _ => Qs [(4, .bool)] [] (fun z_ => Zff0 k z_.1)
  Qz
  (fun ⟨x4, _⟩ => Qr))) hyp_
abbrev Zfg0 (k : ((Int × Int) → K)) (x8 : Int) (x9 : Int) : K :=
  k (x8, x9)
abbrev Zfg1 (x0 : OA) (k : ((Int × Int) → K)) (x11 : Int) : K :=
  nn x0 fun x59 =>
  ldP (x59.add 3) fun x61 =>
  c_bitmap_Set_Add x61 x11 fun x63 =>
  Zfg0 k x11 0
abbrev Zfg2 (k : ((Int × Int) → K)) (x8_1 : Int) (x9_1 : Int) : K :=
  k (x8_1, x9_1)
abbrev Zfg3 (x0 : OA) (k : ((Int × Int) → K)) (x11 : Int) (x13 : Int) (x56 : Bool) : K :=
  brK x56
  (Zfg2 k 0 x13)
  (Zfg1 x0 k x11)
abbrev Zfg4 (x0 : OA) (k : ((Int × Int) → K)) (x11 : Int) (x13 : Int) : K :=
  Zfg3 x0 k x11 x13 (x13 != 0)
abbrev Zfg5 (x0 : OA) (k : ((Int × Int) → K)) (x10 : Addr) (x11 : Int) : K :=
  tick fun _ =>
  nn x0 fun x49 =>
  ldP (x49.add 1) fun x51 =>
  ldI .i64 (x10.add 0) fun x53_0 =>
  ldI .i64 (x10.add 1) fun x53_1 =>
  c_object_Init x51 x11 (x53_0, x53_1) fun x54 =>
  Zfg4 x0 k x11 x54
abbrev Zfg6 (k : ((Int × Int) → K)) (x8_2 : Int) (x9_2 : Int) : K :=
  k (x8_2, x9_2)
abbrev Zfg7 (x0 : OA) (k : ((Int × Int) → K)) (x10 : Addr) (x11 : Int) (x12 : Int) (x46 : Bool) : K :=
  brK x46
  (Zfg6 k 0 x12)
  (Zfg5 x0 k x10 x11)
abbrev Zfg8 (x0 : OA) (k : ((Int × Int) → K)) (x10 : Addr) (x11 : Int) (x12 : Int) : K :=
  Zfg7 x0 k x10 x11 x12 (x12 != 0)
abbrev Zfg9 (x0 : OA) (x1 : Int) (k : ((Int × Int) → K)) (x10 : Addr) : K :=
  ldI .i64 (x10.add 0) fun x41_0 =>
  ldI .i64 (x10.add 1) fun x41_1 =>
  c_alloc_Allocator_room x0 x1 (x41_0, x41_1) fun x42 =>
  Zfg8 x0 k x10 x42.1 x42.2
abbrev Zfg10 (k : ((Int × Int) → K)) (x8_3 : Int) (x9_3 : Int) : K :=
  k (x8_3, x9_3)
abbrev Zfg11 (k : ((Int × Int) → K)) (x8_4 : Int) (x9_4 : Int) : K :=
  k (x8_4, x9_4)
abbrev Zfg12 (x0 : OA) (x1 : Int) (k : ((Int × Int) → K)) (x10 : Addr) (x24 : Bool) : K :=
  brK x24
  (Zfg11 k 0 5)
  (Zfg9 x0 x1 k x10)
abbrev Zfg13 (x0 : OA) (x1 : Int) (k : ((Int × Int) → K)) (x10 : Addr) : K :=
  tick fun _ =>
  ldI .i64 (x10.add 0) fun x25_0 =>
  ldI .i64 (x10.add 1) fun x25_1 =>
  c_ohead_Object_Size (x25_0, x25_1) fun x26 =>
  brK (x26 == 0)
  (Zfg12 x0 x1 k x10 true)
  (ldI .i64 (x10.add 0) fun x29_0 =>
  ldI .i64 (x10.add 1) fun x29_1 =>
  nn x0 fun x32 =>
  ldI .i64 (Addr.add (x32.add 2) 0) fun x34_0 =>
  c_ohead_Object_Size (x29_0, x29_1) fun x30 =>
  chk [.cell (Addr.add (x32.add 2) 0) (.int .i64 x34_0)] fun _ =>
  c_geom_Geometry_Most x34_0 fun x35 =>
  Zfg12 x0 x1 k x10 (decide (x30 > x35)))
abbrev Zfg14 (x0 : OA) (x1 : Int) (k : ((Int × Int) → K)) (x10 : Addr) (x17 : Bool) : K :=
  brK x17
  (Zfg10 k 0 1)
  (Zfg13 x0 x1 k x10)
abbrev Zfg15 (x0 : OA) (x1 : Int) (k : ((Int × Int) → K)) (x10 : Addr) : K :=
  brK (decide (x1 < 0))
  (Zfg14 x0 x1 k x10 true)
  (Zfg14 x0 x1 k x10 (decide (x1 ≥ 4)))
abbrev Zfg16 (x0 : OA) (x1 : Int) (x2 : Int) (x3 : Int) (k : ((Int × Int) → K)) : K :=
  alK (.cells #[.int .i64 0, .int .i64 0] 68) fun b =>
  stK (Addr.add ⟨b, 0, none⟩ 0) (.int .i64 x2) <|
  stK (Addr.add ⟨b, 0, none⟩ 1) (.int .i64 x3) <|
  Zfg15 x0 x1 k ⟨b, 0, none⟩
abbrev alloc_Allocator_Alloc (x0 : OA) (x1 : Int) (x2 : Int) (x3 : Int) : M (Int × Int) := fun k =>
  Zfg16 x0 x1 x2 x3 k
theorem alloc_Allocator_Alloc_ok (x0 : OA) (x1 : Int) (x2 : Int) (x3 : Int) (k : (Int × Int) → K) (w : World) (hyp_ : alloc_Allocator_Alloc x0 x1 x2 x3 k w) : c_alloc_Allocator_Alloc x0 x1 x2 x3 k w :=
  cl_of (P := Tryz.prog) Tryz.func32 rfl (by kernel_rfl)
  (Qs [] [0, 1, 2, 3] (fun z_ => Zfg16 x0 x1 x2 x3 k)
  Qz
  (fun _ => Qs [(10, .addr)] [0, 1] (fun z_ => Zfg15 x0 x1 k z_.1)
  Qz
  (fun ⟨x10, _⟩ => Qs [] [0, 1, 10] (fun z_ => Zfg9 x0 x1 k x10)
  (Qb (Qs [(17, .bool)] [0, 1, 10] (fun z_ => Zfg14 x0 x1 k x10 z_.1)
  (Qp [2])
  (fun ⟨x17, _⟩ => Qc (x17) (Zfg10 k 0 1) (Zfg13 x0 x1 k x10) (Qs [(8, .int .i64), (9, .int .i64)] [] (fun z_ => Zfg10 k z_.1 z_.2.1)
  Qz
  (fun ⟨x8_3, x9_3, _⟩ => Qr)) (Qs [(24, .bool)] [0, 1, 10] (fun z_ => Zfg12 x0 x1 k x10 z_.1)
  (RefK.draw [3] [0, 1, 3, 7, 15, 31, 15, 79, 207, 463, 1023, 2047, 4095, 8191] [0, 1, 2, 3, 4, 6, 7, 8, 9, 5, 10, 11, 12, 13] [0, 1, 2, 3, 4, 5, 6, 7, 8, 9, 10, 11, 12, 13] (by kernel_rfl) (by kernel_rfl))
  (fun ⟨x24, _⟩ => Qc (x24) (Zfg11 k 0 5) (Zfg9 x0 x1 k x10) (Qs [(8, .int .i64), (9, .int .i64)] [] (fun z_ => Zfg11 k z_.1 z_.2.1)
  Qz
  (fun ⟨x8_4, x9_4, _⟩ => Qr)) Qk)))))
  (fun _ => Qs [(11, .int .i64), (12, .int .i64)] [0, 10] (fun z_ => Zfg8 x0 k x10 z_.1 z_.2.1)
  Qz
  (fun ⟨x11, x12, _⟩ => Qs [] [0, 10, 11] (fun z_ => Zfg5 x0 k x10 x11)
  (Qs [(46, .bool)] [0, 10, 11, 12] (fun z_ => Zfg7 x0 k x10 x11 x12 z_.1)
  Qz
  (fun ⟨x46, _⟩ => Qc (x46) (Zfg6 k 0 x12) (Zfg5 x0 k x10 x11) (Qs [(8, .int .i64), (9, .int .i64)] [] (fun z_ => Zfg6 k z_.1 z_.2.1)
  Qz
  (fun ⟨x8_2, x9_2, _⟩ => Qr)) Qk))
  (fun _ => Qs [] [0, 11] (fun z_ => Zfg1 x0 k x11)
  (Qs [(13, .int .i64)] [0, 11] (fun z_ => Zfg4 x0 k x11 z_.1)
  (RefK.draw [] [0, 1, 3, 7, 0, 0, 63, 127] [0, 1, 2, 3, 4, 5, 6, 7] [0, 1, 2, 3, 4, 5, 6, 7] (by kernel_rfl) (by kernel_rfl))
  (fun ⟨x13, _⟩ => Qs [(56, .bool)] [0, 11, 13] (fun z_ => Zfg3 x0 k x11 x13 z_.1)
  Qz
  (fun ⟨x56, _⟩ => Qc (x56) (Zfg2 k 0 x13) (Zfg1 x0 k x11) (Qs [(8, .int .i64), (9, .int .i64)] [] (fun z_ => Zfg2 k z_.1 z_.2.1)
  Qz
  (fun ⟨x8_1, x9_1, _⟩ => Qr)) Qk)))
  (fun _ => Qs [] [11] (fun z_ => Zfg0 k x11 0)
  Qz
  (fun _ => Qs [(8, .int .i64), (9, .int .i64)] [] (fun z_ => Zfg0 k z_.1 z_.2.1)
  Qz
  (fun ⟨x8, x9, _⟩ => Qr))))))))) hyp_
abbrev Zfh0 (k : (((Int × Int) × Int) → K)) (x4 : Addr) (x5 : Int) : K :=
  ldI .i64 (x4.add 0) fun x4_0 =>
  ldI .i64 (x4.add 1) fun x4_1 =>
  k ((x4_0, x4_1), x5)
abbrev Zfh1 (k : (((Int × Int) × Int) → K)) (x4 : Addr) (o : Addr) : K :=
  ldI .i64 (o.add 0) fun x37_0 =>
  ldI .i64 (o.add 1) fun x37_1 =>
  stK (x4.add 0) (.int .i64 x37_0) <|
  stK (x4.add 1) (.int .i64 x37_1) <|
  Zfh0 k x4 0
abbrev Zfh2 (k : (((Int × Int) × Int) → K)) (x4 : Addr) (x5_1 : Int) : K :=
  ldI .i64 (x4.add 0) fun x4_0_1 =>
  ldI .i64 (x4.add 1) fun x4_1_1 =>
  k ((x4_0_1, x4_1_1), x5_1)
abbrev Zfh3 (k : (((Int × Int) × Int) → K)) (x4 : Addr) : K :=
  stK (x4.add 0) (.int .i64 0) <|
  stK (x4.add 1) (.int .i64 0) <|
  Zfh2 k x4 22
abbrev Zfh4 (k : (((Int × Int) × Int) → K)) (x4 : Addr) (o : Addr) (x35 : Bool) : K :=
  brK x35
  (Zfh3 k x4)
  (Zfh1 k x4 o)
abbrev Zfh5 (d : OA) (at_1 : Int) (k : (((Int × Int) × Int) → K)) (x4 : Addr) (o : Addr) (e : Int) : K :=
  brK (e != 0)
  (Zfh4 k x4 o true)
  (ldI .i64 (o.add 0) fun x28_0 =>
  ldI .i64 (o.add 1) fun x28_1 =>
  c_ohead_Object_Size (x28_0, x28_1) fun x29 =>
  c_nvm_Device_Len d fun x31 =>
  Zfh4 k x4 o (decide (x29 > (IntKind.wrap .i64 (x31 - at_1)))))
abbrev Zfh6 (d : OA) (at_1 : Int) (k : (((Int × Int) × Int) → K)) (x4 : Addr) : K :=
  c_nvm_Device_Get d at_1 fun x21 =>
  c_ohead_Decode at_1 x21 fun x22 =>
  alK (.cells #[.int .i64 0, .int .i64 0] 68) fun b =>
  stK (Addr.add ⟨b, 0, none⟩ 0) (.int .i64 x22.1.1) <|
  stK (Addr.add ⟨b, 0, none⟩ 1) (.int .i64 x22.1.2) <|
  Zfh5 d at_1 k x4 ⟨b, 0, none⟩ x22.2
abbrev Zfh7 (k : (((Int × Int) × Int) → K)) (x4 : Addr) (x5_2 : Int) : K :=
  ldI .i64 (x4.add 0) fun x4_0_2 =>
  ldI .i64 (x4.add 1) fun x4_1_2 =>
  k ((x4_0_2, x4_1_2), x5_2)
abbrev Zfh8 (k : (((Int × Int) × Int) → K)) (x4 : Addr) : K :=
  stK (x4.add 0) (.int .i64 0) <|
  stK (x4.add 1) (.int .i64 0) <|
  Zfh7 k x4 22
abbrev Zfh9 (d : OA) (at_1 : Int) (k : (((Int × Int) × Int) → K)) (x4 : Addr) (x15 : Bool) : K :=
  brK x15
  (Zfh8 k x4)
  (Zfh6 d at_1 k x4)
abbrev Zfh10 (d : OA) (at_1 : Int) (k : (((Int × Int) × Int) → K)) (x4 : Addr) : K :=
  brK (decide (at_1 < 0))
  (Zfh9 d at_1 k x4 true)
  (c_nvm_Device_Len d fun x13 =>
  Zfh9 d at_1 k x4 (decide (at_1 ≥ x13)))
abbrev object_Head (d : OA) (at_1 : Int) : M ((Int × Int) × Int) := fun k =>
  alK (.cells #[.int .i64 0, .int .i64 0] 68) fun b_1 =>
  Zfh10 d at_1 k ⟨b_1, 0, none⟩
theorem object_Head_ok (d : OA) (at_1 : Int) (k : ((Int × Int) × Int) → K) (w : World) (hyp_ : object_Head d at_1 k w) : c_object_Head d at_1 k w :=
  cl_of (P := Tryz.prog) Tryz.func55 rfl (by kernel_rfl)
  (Qs [(4, .addr)] [0, 1] (fun z_ => Zfh10 d at_1 k z_.1)
  Qz
  (fun ⟨x4, _⟩ => Qs [] [0, 1, 4] (fun z_ => Zfh6 d at_1 k x4)
  (Qs [(15, .bool)] [0, 1, 4] (fun z_ => Zfh9 d at_1 k x4 z_.1)
  (Qp [2])
  (fun ⟨x15, _⟩ => Qc (x15) (Zfh8 k x4) (Zfh6 d at_1 k x4) (Qs [(5, .int .i64)] [4] (fun z_ => Zfh7 k x4 z_.1)
  Qz
  (fun ⟨x5_2, _⟩ => Qr)) Qk))
  (fun _ => Qs [(6, .addr), (7, .int .i64)] [0, 1, 4] (fun z_ => Zfh5 d at_1 k x4 z_.1 z_.2.1)
  Qz
  (fun ⟨o, e, _⟩ => Qs [] [4, 6] (fun z_ => Zfh1 k x4 o)
  (Qs [(35, .bool)] [4, 6] (fun z_ => Zfh4 k x4 o z_.1)
  (Qp [2])
  (fun ⟨x35, _⟩ => Qc (x35) (Zfh3 k x4) (Zfh1 k x4 o) (Qs [(5, .int .i64)] [4] (fun z_ => Zfh2 k x4 z_.1)
  Qz
  (fun ⟨x5_1, _⟩ => Qr)) Qk))
  (fun _ => Qs [(5, .int .i64)] [4] (fun z_ => Zfh0 k x4 z_.1)
  Qz
  (fun ⟨x5, _⟩ => Qr)))))) hyp_
abbrev Zfi0 (k : (((Int × Int) × Bool) → K)) (x8 : Addr) (x9 : Bool) : K :=
  ldI .i64 (x8.add 0) fun x8_0 =>
  ldI .i64 (x8.add 1) fun x8_1 =>
  k ((x8_0, x8_1), x9)
abbrev Zfi1 (x3 : Int) (k : (((Int × Int) × Bool) → K)) (x5 : Addr) (x8 : Addr) (x10 : Int) (x11 : Addr) (x18 : Int) (x19 : Bool) : K :=
  tick fun _ =>
  ldI .i64 (x11.add 0) fun x72_0 =>
  ldI .i64 (x11.add 1) fun x72_1 =>
  brK x19
  (ldI .i64 (x5.add 0) fun x76_0 =>
  c_geom_Geometry_First x76_0 x10 fun x78 =>
  chk [.cell (x11.add 0) (.int .i64 x72_0), .cell (x11.add 1) (.int .i64 x72_1)] fun _ =>
  brK (x3 == x78)
  (ldI .i64 (x11.add 0) fun x83_0 =>
  ldI .i64 (x11.add 1) fun x83_1 =>
  c_ohead_Object_Blocks (x83_0, x83_1) fun x84 =>
  chk [.cell (x11.add 0) (.int .i64 x72_0), .cell (x11.add 1) (.int .i64 x72_1)] fun _ =>
  stK (x8.add 0) (.int .i64 x72_0) <|
  stK (x8.add 1) (.int .i64 x72_1) <|
  Zfi0 k x8 (x18 == x84))
  (stK (x8.add 0) (.int .i64 x72_0) <|
  stK (x8.add 1) (.int .i64 x72_1) <|
  Zfi0 k x8 false))
  (stK (x8.add 0) (.int .i64 x72_0) <|
  stK (x8.add 1) (.int .i64 x72_1) <|
  Zfi0 k x8 false)
abbrev Zfi2 (x2 : Sl) (x3 : Int) (k : (((Int × Int) × Bool) → K)) (x5 : Addr) (x8 : Addr) (x10 : Int) (x11 : Addr) : K :=
  c_bhead_Whole x2 x10 fun x69 =>
  Zfi1 x3 k x5 x8 x10 x11 x69.1 x69.2
abbrev Zfi3 (k : (((Int × Int) × Bool) → K)) (x8 : Addr) (x9_1 : Bool) : K :=
  ldI .i64 (x8.add 0) fun x8_0_1 =>
  ldI .i64 (x8.add 1) fun x8_1_1 =>
  k ((x8_0_1, x8_1_1), x9_1)
abbrev Zfi4 (k : (((Int × Int) × Bool) → K)) (x8 : Addr) (x11 : Addr) (x13 : Addr) (x14 : Int) (x17 : Bool) : K :=
  tick fun _ =>
  ldI .i64 (x11.add 0) fun x58_0 =>
  ldI .i64 (x11.add 1) fun x58_1 =>
  brK x17
  (ldI .i64 (x13.add 0) fun x61_0 =>
  ldI .i64 (x13.add 1) fun x61_1 =>
  ldI .i64 (x13.add 2) fun x61_2 =>
  stK (x8.add 0) (.int .i64 x58_0) <|
  stK (x8.add 1) (.int .i64 x58_1) <|
  chk [.cell (x13.add 0) (.int .i64 x61_0), .cell (x13.add 1) (.int .i64 x61_1), .cell (x13.add 2) (.int .i64 x61_2)] fun _ =>
  Zfi3 k x8 ((x61_0 == 1) && ((x61_1 == x14) && ((x61_2 == 0) && true))))
  (stK (x8.add 0) (.int .i64 x58_0) <|
  stK (x8.add 1) (.int .i64 x58_1) <|
  Zfi3 k x8 false)
abbrev Zfi5 (x3 : Int) (k : (((Int × Int) × Bool) → K)) (x5 : Addr) (x8 : Addr) (x11 : Addr) (x13 : Addr) (x14 : Int) : K :=
  ldI .i64 (x5.add 0) fun x52_0 =>
  c_cells_At x52_0 x14 x3 fun x55 =>
  alK (.cells #[.int .i64 0, .int .i64 0] 168) fun b =>
  stK (Addr.add ⟨b, 0, none⟩ 0) (.int .i64 x55.1.1) <|
  stK (Addr.add ⟨b, 0, none⟩ 1) (.int .i64 x55.1.2) <|
  Zfi4 k x8 x11 x13 x14 x55.2
abbrev Zfi6 (x2 : Sl) (x3 : Int) (k : (((Int × Int) × Bool) → K)) (x5 : Addr) (x8 : Addr) (x10 : Int) (x11 : Addr) (x13 : Addr) (x14 : Int) (x50 : Bool) : K :=
  brK x50
  (Zfi5 x3 k x5 x8 x11 x13 x14)
  (Zfi2 x2 x3 k x5 x8 x10 x11)
abbrev Zfi7 (x2 : Sl) (x3 : Int) (k : (((Int × Int) × Bool) → K)) (x5 : Addr) (x8 : Addr) (x10 : Int) (x11 : Addr) (x13 : Addr) (x14 : Int) (x15 : Bool) : K :=
  Zfi6 x2 x3 k x5 x8 x10 x11 x13 x14 x15
abbrev Zfi8 (x2 : Sl) (x3 : Int) (k : (((Int × Int) × Bool) → K)) (x5 : Addr) (x8 : Addr) (x10 : Int) (x11 : Addr) (x13 : Addr) : K :=
  ldI .i64 (x11.add 0) fun x46_0 =>
  ldI .i64 (x11.add 1) fun x46_1 =>
  c_ohead_Object_Small (x46_0, x46_1) fun x47 =>
  Zfi7 x2 x3 k x5 x8 x10 x11 x13 x47.1 x47.2
abbrev Zfi9 (x2 : Sl) (x3 : Int) (k : (((Int × Int) × Bool) → K)) (x5 : Addr) (x8 : Addr) (x10 : Int) (x11 : Addr) : K :=
  ixS x2.p x2.n x10 3 fun x43 =>
  ldI .i64 (x43.add 0) fun x44_0 =>
  ldI .i64 (x43.add 1) fun x44_1 =>
  ldI .i64 (x43.add 2) fun x44_2 =>
  alK (.cells #[.int .i64 0, .int .i64 0, .int .i64 0] 143) fun b_1 =>
  stK (Addr.add ⟨b_1, 0, none⟩ 0) (.int .i64 x44_0) <|
  stK (Addr.add ⟨b_1, 0, none⟩ 1) (.int .i64 x44_1) <|
  stK (Addr.add ⟨b_1, 0, none⟩ 2) (.int .i64 x44_2) <|
  Zfi8 x2 x3 k x5 x8 x10 x11 ⟨b_1, 0, none⟩
abbrev Zfi10 (k : (((Int × Int) × Bool) → K)) (x8 : Addr) (x9_2 : Bool) : K :=
  ldI .i64 (x8.add 0) fun x8_0_2 =>
  ldI .i64 (x8.add 1) fun x8_1_2 =>
  k ((x8_0_2, x8_1_2), x9_2)
abbrev Zfi11 (k : (((Int × Int) × Bool) → K)) (x8 : Addr) : K :=
  stK (x8.add 0) (.int .i64 0) <|
  stK (x8.add 1) (.int .i64 0) <|
  Zfi10 k x8 false
abbrev Zfi12 (x2 : Sl) (x3 : Int) (k : (((Int × Int) × Bool) → K)) (x5 : Addr) (x8 : Addr) (x10 : Int) (x11 : Addr) (x39 : Bool) : K :=
  brK x39
  (Zfi11 k x8)
  (Zfi9 x2 x3 k x5 x8 x10 x11)
abbrev Zfi13 (x2 : Sl) (x3 : Int) (k : (((Int × Int) × Bool) → K)) (x5 : Addr) (x8 : Addr) (x10 : Int) (x11 : Addr) (x12 : Int) : K :=
  Zfi12 x2 x3 k x5 x8 x10 x11 (x12 != 0)
abbrev Zfi14 (x0 : OA) (x2 : Sl) (x3 : Int) (k : (((Int × Int) × Bool) → K)) (x5 : Addr) (x8 : Addr) (x10 : Int) : K :=
  c_object_Head x0 x3 fun x35 =>
  alK (.cells #[.int .i64 0, .int .i64 0] 68) fun b_2 =>
  stK (Addr.add ⟨b_2, 0, none⟩ 0) (.int .i64 x35.1.1) <|
  stK (Addr.add ⟨b_2, 0, none⟩ 1) (.int .i64 x35.1.2) <|
  Zfi13 x2 x3 k x5 x8 x10 ⟨b_2, 0, none⟩ x35.2
abbrev Zfi15 (k : (((Int × Int) × Bool) → K)) (x8 : Addr) (x9_3 : Bool) : K :=
  ldI .i64 (x8.add 0) fun x8_0_3 =>
  ldI .i64 (x8.add 1) fun x8_1_3 =>
  k ((x8_0_3, x8_1_3), x9_3)
abbrev Zfi16 (k : (((Int × Int) × Bool) → K)) (x8 : Addr) : K :=
  stK (x8.add 0) (.int .i64 0) <|
  stK (x8.add 1) (.int .i64 0) <|
  Zfi15 k x8 false
abbrev Zfi17 (x0 : OA) (x2 : Sl) (x3 : Int) (k : (((Int × Int) × Bool) → K)) (x5 : Addr) (x8 : Addr) (x10 : Int) (x30 : Bool) : K :=
  brK x30
  (Zfi16 k x8)
  (Zfi14 x0 x2 x3 k x5 x8 x10)
abbrev Zfi18 (x0 : OA) (x2 : Sl) (x3 : Int) (k : (((Int × Int) × Bool) → K)) (x5 : Addr) (x8 : Addr) (x10 : Int) : K :=
  brK (decide (x10 < 1))
  (Zfi17 x0 x2 x3 k x5 x8 x10 true)
  (Zfi17 x0 x2 x3 k x5 x8 x10 (decide (x10 ≥ ((x2.n : Nat) : Int))))
abbrev Zfi19 (x0 : OA) (x2 : Sl) (x3 : Int) (k : (((Int × Int) × Bool) → K)) (x5 : Addr) (x8 : Addr) : K :=
  ldI .i64 (x5.add 0) fun x20_0 =>
  c_geom_Geometry_BlockOf x20_0 x3 fun x22 =>
  Zfi18 x0 x2 x3 k x5 x8 x22
abbrev alloc_Placed (x0 : OA) (x1 : Int) (x2 : Sl) (x3 : Int) : M ((Int × Int) × Bool) := fun k =>
  alK (.cells #[.int .i64 x1] 43) fun b_3 =>
  alK (.cells #[.int .i64 0, .int .i64 0] 68) fun b_4 =>
  Zfi19 x0 x2 x3 k ⟨b_3, 0, none⟩ ⟨b_4, 0, none⟩
theorem alloc_Placed_ok (x0 : OA) (x1 : Int) (x2 : Sl) (x3 : Int) (k : ((Int × Int) × Bool) → K) (w : World) (hyp_ : alloc_Placed x0 x1 x2 x3 k w) : c_alloc_Placed x0 x1 x2 x3 k w :=
  cl_of (P := Tryz.prog) Tryz.func56 rfl (by kernel_rfl)
  (Qs [(5, .addr), (8, .addr)] [0, 2, 3] (fun z_ => Zfi19 x0 x2 x3 k z_.1 z_.2.1)
  Qz
  (fun ⟨x5, x8, _⟩ => Qs [(10, .int .i64)] [0, 2, 3, 5, 8] (fun z_ => Zfi18 x0 x2 x3 k x5 x8 z_.1)
  Qz
  (fun ⟨x10, _⟩ => Qs [] [0, 2, 3, 5, 8, 10] (fun z_ => Zfi14 x0 x2 x3 k x5 x8 x10)
  (Qs [(30, .bool)] [0, 2, 3, 5, 8, 10] (fun z_ => Zfi17 x0 x2 x3 k x5 x8 x10 z_.1)
  (Qp [2])
  (fun ⟨x30, _⟩ => Qc (x30) (Zfi16 k x8) (Zfi14 x0 x2 x3 k x5 x8 x10) (Qs [(9, .bool)] [8] (fun z_ => Zfi15 k x8 z_.1)
  Qz
  (fun ⟨x9_3, _⟩ => Qr)) Qk))
  (fun _ => Qs [(11, .addr), (12, .int .i64)] [2, 3, 5, 8, 10] (fun z_ => Zfi13 x2 x3 k x5 x8 x10 z_.1 z_.2.1)
  Qz
  (fun ⟨x11, x12, _⟩ => Qs [] [2, 3, 5, 8, 10, 11] (fun z_ => Zfi9 x2 x3 k x5 x8 x10 x11)
  (Qs [(39, .bool)] [2, 3, 5, 8, 10, 11] (fun z_ => Zfi12 x2 x3 k x5 x8 x10 x11 z_.1)
  Qz
  (fun ⟨x39, _⟩ => Qc (x39) (Zfi11 k x8) (Zfi9 x2 x3 k x5 x8 x10 x11) (Qs [(9, .bool)] [8] (fun z_ => Zfi10 k x8 z_.1)
  Qz
  (fun ⟨x9_2, _⟩ => Qr)) Qk))
  (fun _ => Qs [(13, .addr)] [2, 3, 5, 8, 10, 11] (fun z_ => Zfi8 x2 x3 k x5 x8 x10 x11 z_.1)
  Qz
  (fun ⟨x13, _⟩ => Qs [(14, .int .i64), (15, .bool)] [2, 3, 5, 8, 10, 11, 13] (fun z_ => Zfi7 x2 x3 k x5 x8 x10 x11 x13 z_.1 z_.2.1)
  Qz
  (fun ⟨x14, x15, _⟩ => Qs [] [2, 3, 5, 8, 10, 11] (fun z_ => Zfi2 x2 x3 k x5 x8 x10 x11)
  (Qs [(50, .bool)] [2, 3, 5, 8, 10, 11, 13, 14] (fun z_ => Zfi6 x2 x3 k x5 x8 x10 x11 x13 x14 z_.1)
  Qz
  (fun ⟨x50, _⟩ => Qc (x50) (Zfi5 x3 k x5 x8 x11 x13 x14) (Zfi2 x2 x3 k x5 x8 x10 x11) (Qs [(17, .bool)] [8, 11, 13, 14] (fun z_ => Zfi4 k x8 x11 x13 x14 z_.1)
  Qz
  (fun ⟨x17, _⟩ => Qs [(9, .bool)] [8] (fun z_ => Zfi3 k x8 z_.1)
  (RefK.draw [2] [0, 0, 2, 6, 6, 22, 62, 126, 7, 511] [0, 1, 2, 3, 4, 5, 6, 7, 8, 9] [0, 1, 2, 8, 3, 4, 5, 6, 7, 9] (by kernel_rfl) (by kernel_rfl))
  (fun ⟨x9_1, _⟩ => Qr))) Qk))
  (fun _ => Qs [(18, .int .i64), (19, .bool)] [3, 5, 8, 10, 11] (fun z_ => Zfi1 x3 k x5 x8 x10 x11 z_.1 z_.2.1)
  Qz
  (fun ⟨x18, x19, _⟩ => Qs [(9, .bool)] [8] (fun z_ => Zfi0 k x8 z_.1)
  (RefK.draw [2, 9] [0, 0, 2, 6, 6, 6, 54, 126, 254, 510, 1022, 1022, 3070, 8190, 16382, 7167, 65535] [0, 1, 2, 3, 4, 5, 6, 7, 8, 9, 10, 11, 12, 13, 14, 15, 16] [0, 1, 2, 3, 4, 5, 6, 7, 8, 9, 11, 12, 15, 10, 13, 14, 16] (by kernel_rfl) (by kernel_rfl))
  (fun ⟨x9, _⟩ => Qr))))))))))) hyp_
abbrev Zfj0 (k : (((Int × Int) × Bool) → K)) (x4 : Addr) (x5 : Bool) : K :=
  ldI .i64 (x4.add 0) fun x4_0 =>
  ldI .i64 (x4.add 1) fun x4_1 =>
  k ((x4_0, x4_1), x5)
abbrev Zfj1 (a : OA) (at_1 : Int) (k : (((Int × Int) × Bool) → K)) (x4 : Addr) : K :=
  tick fun _ =>
  nn a fun x7 =>
  ldP (x7.add 1) fun x9 =>
  nn a fun x11 =>
  ldI .i64 (Addr.add (x11.add 2) 0) fun x13_0 =>
  nn a fun x15 =>
  ldP (x15.add 0) fun x17 =>
  nn x17 fun x18 =>
  ldP (x18.add 0) fun x20 =>
  c_blocks_Table_All x20 fun x21 =>
  chk [.cell (Addr.add (x11.add 2) 0) (.int .i64 x13_0), .cell (x7.add 1) (.pointer x9)] fun _ =>
  c_alloc_Placed x9 x13_0 x21 at_1 fun x23 =>
  stK (x4.add 0) (.int .i64 x23.1.1) <|
  stK (x4.add 1) (.int .i64 x23.1.2) <|
  Zfj0 k x4 x23.2
abbrev alloc_Allocator_Place (a : OA) (at_1 : Int) : M ((Int × Int) × Bool) := fun k =>
  alK (.cells #[.int .i64 0, .int .i64 0] 68) fun b =>
  Zfj1 a at_1 k ⟨b, 0, none⟩
theorem alloc_Allocator_Place_ok (a : OA) (at_1 : Int) (k : ((Int × Int) × Bool) → K) (w : World) (hyp_ : alloc_Allocator_Place a at_1 k w) : c_alloc_Allocator_Place a at_1 k w :=
  cl_of (P := Tryz.prog) Tryz.func76 rfl (by kernel_rfl)
  (Qs [(4, .addr)] [0, 1] (fun z_ => Zfj1 a at_1 k z_.1)
  Qz
  (fun ⟨x4, _⟩ => Qs [(5, .bool)] [4] (fun z_ => Zfj0 k x4 z_.1)
  (RefK.draw [] [0, 1, 3, 7, 0, 16, 48, 112, 0, 256, 768, 1792, 3840, 7936, 16128, 32512, 0, 131071, 262143, 262143, 1048575, 2097151] [0, 1, 2, 3, 4, 5, 6, 7, 8, 9, 10, 11, 12, 13, 14, 16, 15, 17, 18, 19, 20, 21] [0, 1, 2, 3, 4, 5, 6, 7, 8, 9, 10, 11, 12, 13, 14, 15, 16, 17, 18, 19, 20, 21] (by kernel_rfl) (by kernel_rfl))
  (fun ⟨x5, _⟩ => Qr))) hyp_
abbrev Zfk0 (k : ((Int × Int) → K)) (x6 : Int) (x7 : Int) : K :=
  k (x6, x7)
abbrev Zfk1 (x0 : OA) (x1 : Int) (k : ((Int × Int) → K)) (x8 : Int) : K :=
  c_alloc_Allocator_steal x0 x1 x8 fun x86 =>
  Zfk0 k x86.1 x86.2
abbrev Zfk2 (k : ((Int × Int) → K)) (x6_1 : Int) (x7_1 : Int) : K :=
  k (x6_1, x7_1)
abbrev Zfk3 (x0 : OA) (x1 : Int) (k : ((Int × Int) → K)) (x8 : Int) : K :=
  nn x0 fun x72 =>
  ldP (x72.add 4) fun x74 =>
  c_free_Lists_Take x74 x1 x8 fun x77 =>
  Zfk2 k x77.1 x77.2
abbrev Zfk4 (k : ((Int × Int) → K)) (x6_2 : Int) (x7_2 : Int) : K :=
  k (x6_2, x7_2)
abbrev Zfk5 (x0 : OA) (x1 : Int) (k : ((Int × Int) → K)) (x8 : Int) (x15 : Int) (x81 : Bool) : K :=
  brK x81
  (Zfk4 k 0 x15)
  (Zfk1 x0 x1 k x8)
abbrev Zfk6 (x0 : OA) (x1 : Int) (k : ((Int × Int) → K)) (x8 : Int) (x14 : Int) : K :=
  c_alloc_Allocator_carve x0 x14 x8 fun x70 =>
  Zfk3 x0 x1 k x8
abbrev Zfk7 (x0 : OA) (x1 : Int) (k : ((Int × Int) → K)) (x8 : Int) (x14 : Int) (x15 : Int) (x66 : Bool) : K :=
  brK x66
  (Zfk6 x0 x1 k x8 x14)
  (Zfk5 x0 x1 k x8 x15 (x15 != 4))
abbrev Zfk8 (x0 : OA) (x1 : Int) (k : ((Int × Int) → K)) (x8 : Int) (x14 : Int) (x15 : Int) : K :=
  Zfk7 x0 x1 k x8 x14 x15 (x15 == 0)
abbrev Zfk9 (x0 : OA) (x1 : Int) (k : ((Int × Int) → K)) (x8 : Int) : K :=
  nn x0 fun x58 =>
  ldP (x58.add 0) fun x60 =>
  c_bman_Manager_Small x60 x8 fun x62 =>
  Zfk8 x0 x1 k x8 x62.1 x62.2
abbrev Zfk10 (k : ((Int × Int) → K)) (x6_3 : Int) (x7_3 : Int) : K :=
  k (x6_3, x7_3)
abbrev Zfk11 (x0 : OA) (x1 : Int) (k : ((Int × Int) → K)) (x8 : Int) (x12 : Int) (x13 : Int) (x53 : Bool) : K :=
  brK x53
  (Zfk10 k x12 x13)
  (Zfk9 x0 x1 k x8)
abbrev Zfk12 (x0 : OA) (x1 : Int) (k : ((Int × Int) → K)) (x8 : Int) (x12 : Int) (x13 : Int) : K :=
  Zfk11 x0 x1 k x8 x12 x13 (x13 == 0)
abbrev Zfk13 (x0 : OA) (x1 : Int) (k : ((Int × Int) → K)) (x8 : Int) : K :=
  nn x0 fun x44 =>
  ldP (x44.add 4) fun x46 =>
  c_free_Lists_Take x46 x1 x8 fun x49 =>
  Zfk12 x0 x1 k x8 x49.1 x49.2
abbrev Zfk14 (k : ((Int × Int) → K)) (x6_4 : Int) (x7_4 : Int) : K :=
  k (x6_4, x7_4)
abbrev Zfk15 (x0 : OA) (k : ((Int × Int) → K)) (x10 : Int) : K :=
  nn x0 fun x37 =>
  ldI .i64 (Addr.add (x37.add 2) 0) fun x39_0 =>
  c_geom_Geometry_First x39_0 x10 fun x41 =>
  Zfk14 k x41 0
abbrev Zfk16 (k : ((Int × Int) → K)) (x6_5 : Int) (x7_5 : Int) : K :=
  k (x6_5, x7_5)
abbrev Zfk17 (x0 : OA) (k : ((Int × Int) → K)) (x10 : Int) (x11 : Int) (x34 : Bool) : K :=
  brK x34
  (Zfk16 k 0 x11)
  (Zfk15 x0 k x10)
abbrev Zfk18 (x0 : OA) (k : ((Int × Int) → K)) (x10 : Int) (x11 : Int) : K :=
  Zfk17 x0 k x10 x11 (x11 != 0)
abbrev Zfk19 (x0 : OA) (k : ((Int × Int) → K)) (x5 : Addr) : K :=
  tick fun _ =>
  nn x0 fun x25 =>
  ldP (x25.add 0) fun x27 =>
  ldI .i64 (x5.add 0) fun x28_0 =>
  ldI .i64 (x5.add 1) fun x28_1 =>
  c_ohead_Object_Blocks (x28_0, x28_1) fun x29 =>
  chk [.cell (x25.add 0) (.pointer x27)] fun _ =>
  c_bman_Manager_Large x27 x29 fun x30 =>
  Zfk18 x0 k x30.1 x30.2
abbrev Zfk20 (x0 : OA) (x1 : Int) (k : ((Int × Int) → K)) (x5 : Addr) (x8 : Int) (x22 : Bool) : K :=
  brK x22
  (Zfk19 x0 k x5)
  (Zfk13 x0 x1 k x8)
abbrev Zfk21 (x0 : OA) (x1 : Int) (k : ((Int × Int) → K)) (x5 : Addr) (x8 : Int) (x9 : Bool) : K :=
  Zfk20 x0 x1 k x5 x8 (!x9)
abbrev Zfk22 (x0 : OA) (x1 : Int) (k : ((Int × Int) → K)) (x5 : Addr) : K :=
  ldI .i64 (x5.add 0) fun x17_0 =>
  ldI .i64 (x5.add 1) fun x17_1 =>
  c_ohead_Object_Small (x17_0, x17_1) fun x18 =>
  Zfk21 x0 x1 k x5 x18.1 x18.2
abbrev alloc_Allocator_room (x0 : OA) (x1 : Int) (x2 : (Int × Int)) : M (Int × Int) := fun k =>
  alK (.cells #[.int .i64 x2.1, .int .i64 x2.2] 68) fun b =>
  Zfk22 x0 x1 k ⟨b, 0, none⟩
theorem alloc_Allocator_room_ok (x0 : OA) (x1 : Int) (x2 : (Int × Int)) (k : (Int × Int) → K) (w : World) (hyp_ : alloc_Allocator_room x0 x1 x2 k w) : c_alloc_Allocator_room x0 x1 x2 k w :=
  cl_of (P := Tryz.prog) Tryz.func89 rfl (by kernel_rfl)
  (Qs [(5, .addr)] [0, 1] (fun z_ => Zfk22 x0 x1 k z_.1)
  Qz
  (fun ⟨x5, _⟩ => Qs [(8, .int .i64), (9, .bool)] [0, 1, 5] (fun z_ => Zfk21 x0 x1 k x5 z_.1 z_.2.1)
  Qz
  (fun ⟨x8, x9, _⟩ => Qs [] [0, 1, 8] (fun z_ => Zfk13 x0 x1 k x8)
  (Qs [(22, .bool)] [0, 1, 5, 8] (fun z_ => Zfk20 x0 x1 k x5 x8 z_.1)
  Qz
  (fun ⟨x22, _⟩ => Qc (x22) (Zfk19 x0 k x5) (Zfk13 x0 x1 k x8) (Qs [(10, .int .i64), (11, .int .i64)] [0] (fun z_ => Zfk18 x0 k z_.1 z_.2.1)
  (RefK.draw [] [0, 1, 3, 7, 0, 16, 63, 127, 255, 255, 511, 2047] [0, 1, 2, 3, 4, 5, 6, 7, 8, 9, 10, 11] [0, 1, 2, 3, 4, 5, 6, 7, 8, 10, 9, 11] (by kernel_rfl) (by kernel_rfl))
  (fun ⟨x10, x11, _⟩ => Qs [] [0, 10] (fun z_ => Zfk15 x0 k x10)
  (Qs [(34, .bool)] [0, 10, 11] (fun z_ => Zfk17 x0 k x10 x11 z_.1)
  Qz
  (fun ⟨x34, _⟩ => Qc (x34) (Zfk16 k 0 x11) (Zfk15 x0 k x10) (Qs [(6, .int .i64), (7, .int .i64)] [] (fun z_ => Zfk16 k z_.1 z_.2.1)
  Qz
  (fun ⟨x6_5, x7_5, _⟩ => Qr)) Qk))
  (fun _ => Qs [(6, .int .i64), (7, .int .i64)] [] (fun z_ => Zfk14 k z_.1 z_.2.1)
  Qz
  (fun ⟨x6_4, x7_4, _⟩ => Qr)))) Qk))
  (fun _ => Qs [] [0, 1, 8] (fun z_ => Zfk9 x0 x1 k x8)
  (Qs [(12, .int .i64), (13, .int .i64)] [0, 1, 8] (fun z_ => Zfk12 x0 x1 k x8 z_.1 z_.2.1)
  Qz
  (fun ⟨x12, x13, _⟩ => Qs [(53, .bool)] [0, 1, 8, 12, 13] (fun z_ => Zfk11 x0 x1 k x8 x12 x13 z_.1)
  Qz
  (fun ⟨x53, _⟩ => Qc (x53) (Zfk10 k x12 x13) (Zfk9 x0 x1 k x8) (Qs [(6, .int .i64), (7, .int .i64)] [] (fun z_ => Zfk10 k z_.1 z_.2.1)
  Qz
  (fun ⟨x6_3, x7_3, _⟩ => Qr)) Qk)))
  (fun _ => Qs [] [0, 1, 8] (fun z_ => Zfk1 x0 x1 k x8)
  (Qs [(14, .int .i64), (15, .int .i64)] [0, 1, 8] (fun z_ => Zfk8 x0 x1 k x8 z_.1 z_.2.1)
  Qz
  (fun ⟨x14, x15, _⟩ => Qs [(66, .bool)] [0, 1, 8, 14, 15] (fun z_ => Zfk7 x0 x1 k x8 x14 x15 z_.1)
  Qz
  (fun ⟨x66, _⟩ => Qc (x66) (Zfk6 x0 x1 k x8 x14) (Zfk5 x0 x1 k x8 x15 (x15 != 4)) (Qs [] [0, 1, 8] (fun z_ => Zfk3 x0 x1 k x8)
  Qz
  (fun _ => Qs [(6, .int .i64), (7, .int .i64)] [] (fun z_ => Zfk2 k z_.1 z_.2.1)
  Qz
  (fun ⟨x6_1, x7_1, _⟩ => Qr))) (Qs [(81, .bool)] [0, 1, 8, 15] (fun z_ => Zfk5 x0 x1 k x8 x15 z_.1)
  Qz
  (fun ⟨x81, _⟩ => Qc (x81) (Zfk4 k 0 x15) (Zfk1 x0 x1 k x8) (Qs [(6, .int .i64), (7, .int .i64)] [] (fun z_ => Zfk4 k z_.1 z_.2.1)
  Qz
  (fun ⟨x6_2, x7_2, _⟩ => Qr)) Qk)))))
  (fun _ => Qs [(6, .int .i64), (7, .int .i64)] [] (fun z_ => Zfk0 k z_.1 z_.2.1)
  Qz
  (fun ⟨x6, x7, _⟩ => Qr))))))) hyp_
abbrev Zfl0 (k : (Int → K)) (x6 : Int) : K :=
  k x6
abbrev Zfl1 (d : OA) (at_1 : Int) (k : (Int → K)) (o_1 : Addr) : K :=
  ldI .i64 (o_1.add 0) fun x47_0 =>
  ldI .i64 (o_1.add 1) fun x47_1 =>
  c_ohead_Object_Encode (x47_0, x47_1) at_1 fun x49 =>
  c_nvm_Device_Store d at_1 x49 fun x50 =>
  Zfl0 k x50
abbrev Zfl2 (k : (Int → K)) (x6_1 : Int) : K :=
  k x6_1
abbrev Zfl3 (k : (Int → K)) (i_1 : Int) (c : ((Int × Unit) → K)) (e : Int) (x43 : Bool) : K :=
  brK x43
  (Zfl2 k e)
  (c ((IntKind.wrap .i64 (i_1 + 1)), ()))
abbrev Zfl4 (k : (Int → K)) (i_1 : Int) (c : ((Int × Unit) → K)) (e : Int) : K :=
  Zfl3 k i_1 c e (e != 0)
abbrev Zfl5 (d : OA) (at_1 : Int) (k : (Int → K)) (i_1 : Int) (c : ((Int × Unit) → K)) : K :=
  c_nvm_Device_Store d (IntKind.wrap .i64 (at_1 + i_1)) 0 fun x41 =>
  Zfl4 k i_1 c x41
abbrev Zfl6 (d : OA) (at_1 : Int) (k : (Int → K)) (o_1 : Addr) (i_1 : Int) (c : ((Int × Unit) → K)) (x34 : Bool) : K :=
  brK x34
  (Zfl5 d at_1 k i_1 c)
  (Zfl1 d at_1 k o_1)
abbrev Zfl7 (d : OA) (at_1 : Int) (k : (Int → K)) (o_1 : Addr) (n : Int) (i_1 : Int) (c : ((Int × Unit) → K)) : K :=
  Zfl6 d at_1 k o_1 i_1 c (decide (i_1 < n))
abbrev Zfl8 (d : OA) (at_1 : Int) (k : (Int → K)) (o_1 : Addr) (n : Int) (i : Int) : K :=
  lp (fun (z_ : (Int × Unit)) c_ => Zfl7 d at_1 k o_1 n z_.1 c_) (i, ())
abbrev Zfl9 (k : (Int → K)) (x6_2 : Int) : K :=
  k x6_2
abbrev Zfl10 (k : (Int → K)) (x6_3 : Int) : K :=
  k x6_3
abbrev Zfl11 (d : OA) (at_1 : Int) (k : (Int → K)) (o_1 : Addr) (n : Int) (x15 : Bool) : K :=
  brK x15
  (Zfl10 k 2)
  (Zfl8 d at_1 k o_1 n 1)
abbrev Zfl12 (d : OA) (at_1 : Int) (k : (Int → K)) (o_1 : Addr) (n : Int) : K :=
  brK (decide (at_1 < 0))
  (Zfl11 d at_1 k o_1 n true)
  (c_nvm_Device_Len d fun x21 =>
  brK (decide (at_1 ≥ x21))
  (Zfl11 d at_1 k o_1 n true)
  (c_nvm_Device_Len d fun x27 =>
  Zfl11 d at_1 k o_1 n (decide (n > (IntKind.wrap .i64 (x27 - at_1))))))
abbrev Zfl13 (d : OA) (at_1 : Int) (k : (Int → K)) (o_1 : Addr) (n : Int) (x12 : Bool) : K :=
  brK x12
  (Zfl9 k 5)
  (Zfl12 d at_1 k o_1 n)
abbrev Zfl14 (d : OA) (at_1 : Int) (k : (Int → K)) (o_1 : Addr) (n : Int) : K :=
  Zfl13 d at_1 k o_1 n (n == 0)
abbrev Zfl15 (d : OA) (at_1 : Int) (k : (Int → K)) (o_1 : Addr) : K :=
  ldI .i64 (o_1.add 0) fun x10_0 =>
  ldI .i64 (o_1.add 1) fun x10_1 =>
  c_ohead_Object_Size (x10_0, x10_1) fun x11 =>
  Zfl14 d at_1 k o_1 x11
abbrev object_Init (d : OA) (at_1 : Int) (o : (Int × Int)) : M Int := fun k =>
  alK (.cells #[.int .i64 o.1, .int .i64 o.2] 68) fun b =>
  Zfl15 d at_1 k ⟨b, 0, none⟩
theorem object_Init_ok (d : OA) (at_1 : Int) (o : (Int × Int)) (k : Int → K) (w : World) (hyp_ : object_Init d at_1 o k w) : c_object_Init d at_1 o k w :=
  cl_of (P := Tryz.prog) Tryz.func90 rfl (by kernel_rfl)
  (Qs [(5, .addr)] [0, 1] (fun z_ => Zfl15 d at_1 k z_.1)
  Qz
  (fun ⟨o_1, _⟩ => Qs [(7, .int .i64)] [0, 1, 5] (fun z_ => Zfl14 d at_1 k o_1 z_.1)
  Qz
  (fun ⟨n, _⟩ => Qs [] [0, 1, 5, 7] (fun z_ => Zfl8 d at_1 k o_1 n 1)
  (Qb (Qs [(12, .bool)] [0, 1, 5, 7] (fun z_ => Zfl13 d at_1 k o_1 n z_.1)
  Qz
  (fun ⟨x12, _⟩ => Qc (x12) (Zfl9 k 5) (Zfl12 d at_1 k o_1 n) (Qs [(6, .int .i64)] [] (fun z_ => Zfl9 k z_.1)
  Qz
  (fun ⟨x6_2, _⟩ => Qr)) (Qs [(15, .bool)] [0, 1, 5, 7] (fun z_ => Zfl11 d at_1 k o_1 n z_.1)
  (Qp [2, 8])
  (fun ⟨x15, _⟩ => Qc (x15) (Zfl10 k 2) (Zfl8 d at_1 k o_1 n 1) (Qs [(6, .int .i64)] [] (fun z_ => Zfl10 k z_.1)
  Qz
  (fun ⟨x6_3, _⟩ => Qr)) Qk)))))
  (fun _ => Qs [] [0, 1, 5] (fun z_ => Zfl1 d at_1 k o_1)
  (Qs [(8, .int .i64)] [0, 1, 5, 7] (fun z_ => Zfl8 d at_1 k o_1 n z_.1)
  Qz
  (fun ⟨i, _⟩ => Qb (Ql [(8, .int .i64)] [0, 1, 5, 7] (fun (z_ : (Int × Unit)) c_ => Zfl7 d at_1 k o_1 n z_.1 c_) (i, ())
  (fun ⟨i_1, _⟩ c => Qs [] [0, 1, 5, 7, 8] (fun z_ => Zfl5 d at_1 k i_1 c)
  (Qs [(34, .bool)] [0, 1, 5, 7, 8] (fun z_ => Zfl6 d at_1 k o_1 i_1 c z_.1)
  Qz
  (fun ⟨x34, _⟩ => Qc (x34) (Zfl5 d at_1 k i_1 c) (Zfl1 d at_1 k o_1) Qk Qx))
  (fun _ => Qs [] [0, 1, 5, 7, 8] (fun z_ => c ((IntKind.wrap .i64 (i_1 + 1)), ()))
  (Qb (Qs [(9, .int .i64)] [0, 1, 5, 7, 8] (fun z_ => Zfl4 k i_1 c z_.1)
  Qz
  (fun ⟨e, _⟩ => Qs [(43, .bool)] [0, 1, 5, 7, 8, 9] (fun z_ => Zfl3 k i_1 c e z_.1)
  Qz
  (fun ⟨x43, _⟩ => Qc (x43) (Zfl2 k e) (c ((IntKind.wrap .i64 (i_1 + 1)), ())) (Qs [(6, .int .i64)] [] (fun z_ => Zfl2 k z_.1)
  Qz
  (fun ⟨x6_1, _⟩ => Qr)) Qk))))
  (fun _ => Qz))))))
  (fun _ => Qs [(6, .int .i64)] [] (fun z_ => Zfl0 k z_.1)
  Qz
  (fun ⟨x6, _⟩ => Qr)))))) hyp_
abbrev Zfm0 (k : (Sl → K)) (x4 : Sl) : K :=
  k x4
abbrev Zfm1 (a : OA) (k_1 : Int) (k : (Sl → K)) : K :=
  nn a fun x6 =>
  ldP (x6.add 4) fun x8 =>
  c_free_Lists_List x8 k_1 fun x10 =>
  Zfm0 k x10
abbrev alloc_Allocator_FreeCells (a : OA) (k_1 : Int) : M Sl := fun k =>
  Zfm1 a k_1 k
theorem alloc_Allocator_FreeCells_ok (a : OA) (k_1 : Int) (k : Sl → K) (w : World) (hyp_ : alloc_Allocator_FreeCells a k_1 k w) : c_alloc_Allocator_FreeCells a k_1 k w :=
  cl_of (P := Tryz.prog) Tryz.func96 rfl (by kernel_rfl)
  (Qs [] [0, 1] (fun z_ => Zfm1 a k_1 k)
  Qz
  (fun _ => Qs [(4, .slice)] [] (fun z_ => Zfm0 k z_.1)
  Qz
  (fun ⟨x4, _⟩ => Qr))) hyp_
abbrev Zfn0 (k : ((Bool × Int) → K)) (x4 : Bool) (x5 : Int) : K :=
  k (x4, x5)
abbrev Zfn1 (k : ((Bool × Int) → K)) (x4_1 : Bool) (x5_1 : Int) : K :=
  k (x4_1, x5_1)
abbrev Zfn2 (k : ((Bool × Int) → K)) (e : Int) (x55 : Bool) : K :=
  brK x55
  (Zfn1 k false e)
  (Zfn0 k true 0)
abbrev Zfn3 (k : ((Bool × Int) → K)) (e : Int) : K :=
  Zfn2 k e (e != 0)
abbrev Zfn4 (a : OA) (block : Int) (k : ((Bool × Int) → K)) : K :=
  nn a fun x49 =>
  ldP (x49.add 0) fun x51 =>
  c_bman_Manager_Release x51 block fun x53 =>
  Zfn3 k x53
abbrev Zfn5 (a : OA) (block : Int) (k : ((Bool × Int) → K)) (h : Addr) (from_1 : Int) : K :=
  tick fun _ =>
  nn a fun x39 =>
  ldP (x39.add 4) fun x41 =>
  ldI .i64 (h.add 1) fun x43 =>
  c_free_Lists_Remove x41 x43 from_1 (IntKind.wrap .i64 (from_1 + 512)) fun x47 =>
  Zfn4 a block k
abbrev Zfn6 (k : ((Bool × Int) → K)) (x4_2 : Bool) (x5_2 : Int) : K :=
  k (x4_2, x5_2)
abbrev Zfn7 (a : OA) (block : Int) (k : ((Bool × Int) → K)) (h : Addr) (from_1 : Int) (x37 : Bool) : K :=
  brK x37
  (Zfn6 k false 0)
  (Zfn5 a block k h from_1)
abbrev Zfn8 (a : OA) (block : Int) (k : ((Bool × Int) → K)) (h : Addr) (from_1 : Int) : K :=
  ldI .i64 (h.add 0) fun x25 =>
  brK (x25 != 1)
  (Zfn7 a block k h from_1 true)
  (nn a fun x29 =>
  ldP (x29.add 3) fun x31 =>
  c_bitmap_Set_Between x31 from_1 (IntKind.wrap .i64 (from_1 + 512)) fun x35 =>
  Zfn7 a block k h from_1 (decide (x35 > 0)))
abbrev Zfn9 (a : OA) (block : Int) (k : ((Bool × Int) → K)) (h : Addr) : K :=
  nn a fun x19 =>
  ldI .i64 (Addr.add (x19.add 2) 0) fun x21_0 =>
  c_geom_Geometry_First x21_0 block fun x23 =>
  Zfn8 a block k h x23
abbrev Zfn10 (a : OA) (block : Int) (k : ((Bool × Int) → K)) : K :=
  nn a fun x10 =>
  ldP (x10.add 0) fun x12 =>
  nn x12 fun x13 =>
  ldP (x13.add 0) fun x15 =>
  c_blocks_Table_Get x15 block fun x17 =>
  alK (.cells #[.int .i64 0, .int .i64 0, .int .i64 0] 143) fun b =>
  stK (Addr.add ⟨b, 0, none⟩ 0) (.int .i64 x17.1) <|
  stK (Addr.add ⟨b, 0, none⟩ 1) (.int .i64 x17.2.1) <|
  stK (Addr.add ⟨b, 0, none⟩ 2) (.int .i64 x17.2.2) <|
  Zfn9 a block k ⟨b, 0, none⟩
abbrev alloc_Allocator_Trim (a : OA) (block : Int) : M (Bool × Int) := fun k =>
  Zfn10 a block k
theorem alloc_Allocator_Trim_ok (a : OA) (block : Int) (k : (Bool × Int) → K) (w : World) (hyp_ : alloc_Allocator_Trim a block k w) : c_alloc_Allocator_Trim a block k w :=
  cl_of (P := Tryz.prog) Tryz.func104 rfl (by kernel_rfl)
  (Qs [] [0, 1] (fun z_ => Zfn10 a block k)
  Qz
  (fun _ => Qs [(6, .addr)] [0, 1] (fun z_ => Zfn9 a block k z_.1)
  Qz
  (fun ⟨h, _⟩ => Qs [(7, .int .i64)] [0, 1, 6] (fun z_ => Zfn8 a block k h z_.1)
  Qz
  (fun ⟨from_1, _⟩ => Qs [] [0, 1, 6, 7] (fun z_ => Zfn5 a block k h from_1)
  (Qs [(37, .bool)] [0, 1, 6, 7] (fun z_ => Zfn7 a block k h from_1 z_.1)
  (Qp [3])
  (fun ⟨x37, _⟩ => Qc (x37) (Zfn6 k false 0) (Zfn5 a block k h from_1) (Qs [(4, .bool), (5, .int .i64)] [] (fun z_ => Zfn6 k z_.1 z_.2.1)
  Qz
  (fun ⟨x4_2, x5_2, _⟩ => Qr)) Qk))
  (fun _ => Qs [] [0, 1] (fun z_ => Zfn4 a block k)
  (RefK.draw [] [0, 1, 3, 7, 0, 16, 0, 0, 128, 511] [0, 1, 2, 3, 4, 5, 6, 7, 8, 9] [0, 1, 2, 3, 4, 5, 6, 7, 8, 9] (by kernel_rfl) (by kernel_rfl))
  (fun _ => Qs [] [] (fun z_ => Zfn0 k true 0)
  (Qs [(8, .int .i64)] [] (fun z_ => Zfn3 k z_.1)
  Qz
  (fun ⟨e, _⟩ => Qs [(55, .bool)] [8] (fun z_ => Zfn2 k e z_.1)
  Qz
  (fun ⟨x55, _⟩ => Qc (x55) (Zfn1 k false e) (Zfn0 k true 0) (Qs [(4, .bool), (5, .int .i64)] [] (fun z_ => Zfn1 k z_.1 z_.2.1)
  Qz
  (fun ⟨x4_1, x5_1, _⟩ => Qr)) Qk)))
  (fun _ => Qs [(4, .bool), (5, .int .i64)] [] (fun z_ => Zfn0 k z_.1 z_.2.1)
  Qz
  (fun ⟨x4, x5, _⟩ => Qr)))))))) hyp_
abbrev Zfo0 (k : (OA → K)) (x2 : OA) : K :=
  k x2
abbrev Zfo1 (a : OA) (k : (OA → K)) : K :=
  nn a fun x4 =>
  ldP (x4.add 1) fun x6 =>
  Zfo0 k x6
abbrev alloc_Allocator_Device (a : OA) : M OA := fun k =>
  Zfo1 a k
theorem alloc_Allocator_Device_ok (a : OA) (k : OA → K) (w : World) (hyp_ : alloc_Allocator_Device a k w) : c_alloc_Allocator_Device a k w :=
  cl_of (P := Tryz.prog) Tryz.func106 rfl (by kernel_rfl)
  (Qs [] [0] (fun z_ => Zfo1 a k)
  Qz
  (fun _ => Qs [(2, .ptr)] [] (fun z_ => Zfo0 k z_.1)
  Qz
  (fun ⟨x2, _⟩ => Qr))) hyp_
abbrev Zfp0 (k : ((OA × Int) → K)) (x6 : Addr) (x7 : Int) : K :=
  k ((some x6), x7)
abbrev Zfp1 (x8 : Addr) (x13_1 : Int) (c : ((Int × Unit) → K)) (x14 : Addr) : K :=
  ldI .i64 (x14.add 1) fun x68 =>
  c_alloc_Allocator_carve (some x8) x13_1 x68 fun x69 =>
  c ((IntKind.wrap .i64 (x13_1 + 1)), ())
abbrev Zfp2 (x8 : Addr) (x13_1 : Int) (c : ((Int × Unit) → K)) (x14 : Addr) (x64 : Bool) : K :=
  brK x64
  (Zfp1 x8 x13_1 c x14)
  (c ((IntKind.wrap .i64 (x13_1 + 1)), ()))
abbrev Zfp3 (x8 : Addr) (x13_1 : Int) (c : ((Int × Unit) → K)) (x14 : Addr) : K :=
  ldI .i64 (x14.add 0) fun x63 =>
  Zfp2 x8 x13_1 c x14 (x63 == 1)
abbrev Zfp4 (x1 : OA) (x8 : Addr) (x13_1 : Int) (c : ((Int × Unit) → K)) : K :=
  nn x1 fun x57 =>
  ldP (x57.add 0) fun x59 =>
  c_blocks_Table_Get x59 x13_1 fun x61 =>
  alK (.cells #[.int .i64 0, .int .i64 0, .int .i64 0] 143) fun b =>
  stK (Addr.add ⟨b, 0, none⟩ 0) (.int .i64 x61.1) <|
  stK (Addr.add ⟨b, 0, none⟩ 1) (.int .i64 x61.2.1) <|
  stK (Addr.add ⟨b, 0, none⟩ 2) (.int .i64 x61.2.2) <|
  Zfp3 x8 x13_1 c ⟨b, 0, none⟩
abbrev Zfp5 (x1 : OA) (k : ((OA × Int) → K)) (x8 : Addr) (x13_1 : Int) (c : ((Int × Unit) → K)) (x53 : Bool) : K :=
  brK x53
  (Zfp4 x1 x8 x13_1 c)
  (Zfp0 k x8 0)
abbrev Zfp6 (x1 : OA) (k : ((OA × Int) → K)) (x8 : Addr) (x13_1 : Int) (c : ((Int × Unit) → K)) : K :=
  nn x1 fun x49 =>
  ldP (x49.add 0) fun x51 =>
  c_blocks_Table_Len x51 fun x52 =>
  Zfp5 x1 k x8 x13_1 c (decide (x13_1 < x52))
abbrev Zfp7 (x1 : OA) (k : ((OA × Int) → K)) (x8 : Addr) (x13 : Int) : K :=
  lp (fun (z_ : (Int × Unit)) c_ => Zfp6 x1 k x8 z_.1 c_) (x13, ())
abbrev Zfp8 (k : ((OA × Int) → K)) (x6_1 : OA) (x7_1 : Int) : K :=
  k (x6_1, x7_1)
abbrev Zfp9 (k : ((OA × Int) → K)) (x27_1 : Int) (c_1 : ((Int × Unit) → K)) (x45 : Bool) : K :=
  brK x45
  (Zfp8 k none 41)
  (c_1 ((IntKind.wrap .i64 (x27_1 + 1)), ()))
abbrev Zfp10 (k : ((OA × Int) → K)) (x8 : Addr) (x27_1 : Int) (c_1 : ((Int × Unit) → K)) (x10 : Int) : K :=
  ldP (x8.add 3) fun x42 =>
  c_bitmap_Set_Add x42 x10 fun x44 =>
  Zfp9 k x27_1 c_1 (!x44)
abbrev Zfp11 (k : ((OA × Int) → K)) (x6_2 : OA) (x7_2 : Int) : K :=
  k (x6_2, x7_2)
abbrev Zfp12 (k : ((OA × Int) → K)) (x8 : Addr) (x27_1 : Int) (c_1 : ((Int × Unit) → K)) (x10 : Int) (x38 : Bool) : K :=
  brK x38
  (Zfp11 k none 22)
  (Zfp10 k x8 x27_1 c_1 x10)
abbrev Zfp13 (k : ((OA × Int) → K)) (x8 : Addr) (x27_1 : Int) (c_1 : ((Int × Unit) → K)) (x10 : Int) (x12 : Bool) : K :=
  Zfp12 k x8 x27_1 c_1 x10 (!x12)
abbrev Zfp14 (k : ((OA × Int) → K)) (x8 : Addr) (x27_1 : Int) (c_1 : ((Int × Unit) → K)) (x10 : Int) : K :=
  c_alloc_Allocator_Place (some x8) x10 fun x34 =>
  alK (.cells #[.int .i64 0, .int .i64 0] 68) fun b_1 =>
  stK (Addr.add ⟨b_1, 0, none⟩ 0) (.int .i64 x34.1.1) <|
  stK (Addr.add ⟨b_1, 0, none⟩ 1) (.int .i64 x34.1.2) <|
  Zfp13 k x8 x27_1 c_1 x10 x34.2
abbrev Zfp15 (k : ((OA × Int) → K)) (x8 : Addr) (x25 : Sl) (x27_1 : Int) (c_1 : ((Int × Unit) → K)) : K :=
  ixS x25.p x25.n x27_1 1 fun x29 =>
  ldI .i64 x29 fun x30 =>
  Zfp14 k x8 x27_1 c_1 x30
abbrev Zfp16 (x1 : OA) (k : ((OA × Int) → K)) (x8 : Addr) (x25 : Sl) (x27_1 : Int) (c_1 : ((Int × Unit) → K)) (x28 : Bool) : K :=
  brK x28
  (Zfp15 k x8 x25 x27_1 c_1)
  (Zfp7 x1 k x8 1)
abbrev Zfp17 (x1 : OA) (k : ((OA × Int) → K)) (x8 : Addr) (x25 : Sl) (x26 : Int) (x27_1 : Int) (c_1 : ((Int × Unit) → K)) : K :=
  Zfp16 x1 k x8 x25 x27_1 c_1 (decide (x27_1 < x26))
abbrev Zfp18 (x1 : OA) (k : ((OA × Int) → K)) (x8 : Addr) (x25 : Sl) (x26 : Int) (x27 : Int) : K :=
  lp (fun (z_ : (Int × Unit)) c_ => Zfp17 x1 k x8 x25 x26 z_.1 c_) (x27, ())
abbrev Zfp19 (x1 : OA) (x2 : Sl) (k : ((OA × Int) → K)) (x8 : Addr) : K :=
  Zfp18 x1 k x8 x2 ((x2.n : Nat) : Int) 0
abbrev Zfp20 (x0 : OA) (x1 : OA) (x2 : Sl) (k : ((OA × Int) → K)) : K :=
  c_bman_Manager_Geometry x1 fun x18 =>
  c_nvm_Device_Len x0 fun x20 =>
  c_bitmap_New x20 fun x21 =>
  c_free_New fun x22 =>
  alK (.cells #[.pointer x1, .pointer x0, .int .i64 x18, .pointer x21, .pointer x22] 47) fun b_2 =>
  Zfp19 x1 x2 k ⟨b_2, 0, none⟩
abbrev alloc_New (x0 : OA) (x1 : OA) (x2 : Sl) : M (OA × Int) := fun k =>
  Zfp20 x0 x1 x2 k
theorem alloc_New_ok (x0 : OA) (x1 : OA) (x2 : Sl) (k : (OA × Int) → K) (w : World) (hyp_ : alloc_New x0 x1 x2 k w) : c_alloc_New x0 x1 x2 k w :=
  cl_of (P := Tryz.prog) Tryz.func124 rfl (by kernel_rfl)
  (Qs [] [0, 1, 2] (fun z_ => Zfp20 x0 x1 x2 k)
  Qz
  (fun _ => Qs [(8, .addr)] [1, 2] (fun z_ => Zfp19 x1 x2 k z_.1)
  Qz
  (fun ⟨x8, _⟩ => Qs [] [1, 8] (fun z_ => Zfp7 x1 k x8 1)
  (Qs [(25, .slice), (26, .int .i64), (27, .int .i64)] [1, 8] (fun z_ => Zfp18 x1 k x8 z_.1 z_.2.1 z_.2.2.1)
  Qz
  (fun ⟨x25, x26, x27, _⟩ => Qb (Ql [(27, .int .i64)] [1, 8, 25, 26] (fun (z_ : (Int × Unit)) c_ => Zfp17 x1 k x8 x25 x26 z_.1 c_) (x27, ())
  (fun ⟨x27_1, _⟩ c_1 => Qs [(28, .bool)] [1, 8, 25, 26, 27] (fun z_ => Zfp16 x1 k x8 x25 x27_1 c_1 z_.1)
  Qz
  (fun ⟨x28, _⟩ => Qs [] [1, 8, 25, 26, 27] (fun z_ => Zfp15 k x8 x25 x27_1 c_1)
  (Qc (x28) (Zfp15 k x8 x25 x27_1 c_1) (Zfp7 x1 k x8 1) Qk Qx)
  (fun _ => Qs [] [1, 8, 25, 26, 27] (fun z_ => c_1 ((IntKind.wrap .i64 (x27_1 + 1)), ()))
  (Qb (Qs [(10, .int .i64)] [1, 8, 25, 26, 27] (fun z_ => Zfp14 k x8 x27_1 c_1 z_.1)
  Qz
  (fun ⟨x10, _⟩ => Qs [] [1, 8, 10, 25, 26, 27] (fun z_ => Zfp10 k x8 x27_1 c_1 x10)
  (Qs [(12, .bool)] [1, 8, 10, 25, 26, 27] (fun z_ => Zfp13 k x8 x27_1 c_1 x10 z_.1)
  Qz
  (fun ⟨x12, _⟩ => Qs [(38, .bool)] [1, 8, 10, 25, 26, 27] (fun z_ => Zfp12 k x8 x27_1 c_1 x10 z_.1)
  Qz
  (fun ⟨x38, _⟩ => Qc (x38) (Zfp11 k none 22) (Zfp10 k x8 x27_1 c_1 x10) (Qs [(6, .ptr), (7, .int .i64)] [] (fun z_ => Zfp11 k z_.1 z_.2.1)
  Qz
  (fun ⟨x6_2, x7_2, _⟩ => Qr)) Qk)))
  (fun _ => Qs [(45, .bool)] [1, 8, 25, 26, 27] (fun z_ => Zfp9 k x27_1 c_1 z_.1)
  Qz
  (fun ⟨x45, _⟩ => Qc (x45) (Zfp8 k none 41) (c_1 ((IntKind.wrap .i64 (x27_1 + 1)), ())) (Qs [(6, .ptr), (7, .int .i64)] [] (fun z_ => Zfp8 k z_.1 z_.2.1)
  Qz
  (fun ⟨x6_1, x7_1, _⟩ => Qr)) Qk)))))
  (fun _ => Qz)))))))
  (fun _ => Qs [] [8] (fun z_ => Zfp0 k x8 0)
  (Qs [(13, .int .i64)] [1, 8] (fun z_ => Zfp7 x1 k x8 z_.1)
  Qz
  (fun ⟨x13, _⟩ => Qb (Ql [(13, .int .i64)] [1, 8] (fun (z_ : (Int × Unit)) c_ => Zfp6 x1 k x8 z_.1 c_) (x13, ())
  (fun ⟨x13_1, _⟩ c => Qs [] [1, 8, 13] (fun z_ => Zfp4 x1 x8 x13_1 c)
  (Qs [(53, .bool)] [1, 8, 13] (fun z_ => Zfp5 x1 k x8 x13_1 c z_.1)
  Qz
  (fun ⟨x53, _⟩ => Qc (x53) (Zfp4 x1 x8 x13_1 c) (Zfp0 k x8 0) Qk Qx))
  (fun _ => Qs [] [1, 8, 13] (fun z_ => c ((IntKind.wrap .i64 (x13_1 + 1)), ()))
  (Qb (Qs [(14, .addr)] [1, 8, 13] (fun z_ => Zfp3 x8 x13_1 c z_.1)
  Qz
  (fun ⟨x14, _⟩ => Qs [(64, .bool)] [1, 8, 13, 14] (fun z_ => Zfp2 x8 x13_1 c x14 z_.1)
  Qz
  (fun ⟨x64, _⟩ => Qc (x64) (Zfp1 x8 x13_1 c x14) (c ((IntKind.wrap .i64 (x13_1 + 1)), ())) Qz Qk))))
  (fun _ => Qz))))))
  (fun _ => Qs [(6, .addr), (7, .int .i64)] [] (fun z_ => Zfp0 k z_.1 z_.2.1)
  Qz
  (fun ⟨x6, x7, _⟩ => Qr)))))) hyp_
abbrev Zfq0 (a : OA) (k_1 : Int) (i_1 : Int) (c : ((Int × Unit) → K)) (at_1 : Int) : K :=
  nn a fun x32 =>
  ldP (x32.add 4) fun x34 =>
  c_free_Lists_Push x34 k_1 at_1 fun x37 =>
  c ((IntKind.wrap .i64 (i_1 - 1)), ())
abbrev Zfq1 (a : OA) (k_1 : Int) (i_1 : Int) (c : ((Int × Unit) → K)) (at_1 : Int) (x30 : Bool) : K :=
  brK x30
  (Zfq0 a k_1 i_1 c at_1)
  (c ((IntKind.wrap .i64 (i_1 - 1)), ()))
abbrev Zfq2 (a : OA) (k_1 : Int) (i_1 : Int) (c : ((Int × Unit) → K)) (at_1 : Int) : K :=
  nn a fun x25 =>
  ldP (x25.add 3) fun x27 =>
  c_bitmap_Set_Has x27 at_1 fun x29 =>
  Zfq1 a k_1 i_1 c at_1 (!x29)
abbrev Zfq3 (a : OA) (block : Int) (k_1 : Int) (i_1 : Int) (c : ((Int × Unit) → K)) : K :=
  nn a fun x16 =>
  ldI .i64 (Addr.add (x16.add 2) 0) fun x18_0 =>
  c_cells_Address x18_0 k_1 (block, i_1) fun x23 =>
  Zfq2 a k_1 i_1 c x23
abbrev Zfq4 (a : OA) (block : Int) (k_1 : Int) (k : (Unit → K)) (i_1 : Int) (c : ((Int × Unit) → K)) (x12 : Bool) : K :=
  brK x12
  (Zfq3 a block k_1 i_1 c)
  (k ())
abbrev Zfq5 (a : OA) (block : Int) (k_1 : Int) (k : (Unit → K)) (i_1 : Int) (c : ((Int × Unit) → K)) : K :=
  Zfq4 a block k_1 k i_1 c (decide (i_1 ≥ 0))
abbrev Zfq6 (a : OA) (block : Int) (k_1 : Int) (k : (Unit → K)) (i : Int) : K :=
  lp (fun (z_ : (Int × Unit)) c_ => Zfq5 a block k_1 k z_.1 c_) (i, ())
abbrev alloc_Allocator_carve (a : OA) (block : Int) (k_1 : Int) : M Unit := fun k =>
  c_class_Cells k_1 fun x9 =>
  Zfq6 a block k_1 k (IntKind.wrap .i64 (x9 - 1))
theorem alloc_Allocator_carve_ok (a : OA) (block : Int) (k_1 : Int) (k : Unit → K) (w : World) (hyp_ : alloc_Allocator_carve a block k_1 k w) : c_alloc_Allocator_carve a block k_1 k w :=
  cl_of (P := Tryz.prog) Tryz.func152 rfl (by kernel_rfl)
  (Qs [(6, .int .i64)] [0, 1, 2] (fun z_ => Zfq6 a block k_1 k z_.1)
  Qz
  (fun ⟨i, _⟩ => Qb (Ql [(6, .int .i64)] [0, 1, 2] (fun (z_ : (Int × Unit)) c_ => Zfq5 a block k_1 k z_.1 c_) (i, ())
  (fun ⟨i_1, _⟩ c => Qs [] [0, 1, 2, 6] (fun z_ => Zfq3 a block k_1 i_1 c)
  (Qs [(12, .bool)] [0, 1, 2, 6] (fun z_ => Zfq4 a block k_1 k i_1 c z_.1)
  Qz
  (fun ⟨x12, _⟩ => Qc (x12) (Zfq3 a block k_1 i_1 c) (k ()) Qk Qx))
  (fun _ => Qs [] [0, 1, 2, 6] (fun z_ => c ((IntKind.wrap .i64 (i_1 - 1)), ()))
  (Qb (Qs [(7, .int .i64)] [0, 1, 2, 6] (fun z_ => Zfq2 a k_1 i_1 c z_.1)
  Qz
  (fun ⟨at_1, _⟩ => Qs [(30, .bool)] [0, 1, 2, 6, 7] (fun z_ => Zfq1 a k_1 i_1 c at_1 z_.1)
  Qz
  (fun ⟨x30, _⟩ => Qc (x30) (Zfq0 a k_1 i_1 c at_1) (c ((IntKind.wrap .i64 (i_1 - 1)), ())) Qz Qk))))
  (fun _ => Qz)))))) hyp_
abbrev Zfr0 (k : ((Int × Int) → K)) (x6 : Int) (x7 : Int) : K :=
  k (x6, x7)
abbrev Zfr1 (k : ((Int × Int) → K)) (x6_1 : Int) (x7_1 : Int) : K :=
  k (x6_1, x7_1)
abbrev Zfr2 (a : OA) (mutator : Int) (k_1 : Int) (k : ((Int × Int) → K)) : K :=
  nn a fun x27 =>
  ldP (x27.add 4) fun x29 =>
  c_free_Lists_Take x29 mutator k_1 fun x32 =>
  Zfr1 k x32.1 x32.2
abbrev Zfr3 (a : OA) (mutator : Int) (k_1 : Int) (k : ((Int × Int) → K)) (m : Int) : K :=
  nn a fun x21 =>
  ldP (x21.add 4) fun x23 =>
  c_free_Lists_Drain x23 m fun x25 =>
  Zfr2 a mutator k_1 k
abbrev Zfr4 (a : OA) (mutator : Int) (k_1 : Int) (k : ((Int × Int) → K)) (x9_1 : Int) (c : ((Int × Unit) → K)) (m : Int) (x19 : Bool) : K :=
  brK x19
  (Zfr3 a mutator k_1 k m)
  (c ((IntKind.wrap .i64 (x9_1 + 1)), ()))
abbrev Zfr5 (a : OA) (mutator : Int) (k_1 : Int) (k : ((Int × Int) → K)) (x9_1 : Int) (c : ((Int × Unit) → K)) (m : Int) : K :=
  nn a fun x13 =>
  ldP (x13.add 4) fun x15 =>
  c_free_Lists_Own x15 m k_1 fun x18 =>
  Zfr4 a mutator k_1 k x9_1 c m (decide (x18 > 0))
abbrev Zfr6 (a : OA) (mutator : Int) (k_1 : Int) (k : ((Int × Int) → K)) (x9_1 : Int) (c : ((Int × Unit) → K)) (x10 : Bool) : K :=
  brK x10
  (Zfr5 a mutator k_1 k x9_1 c x9_1)
  (Zfr0 k 0 4)
abbrev Zfr7 (a : OA) (mutator : Int) (k_1 : Int) (k : ((Int × Int) → K)) (x9_1 : Int) (c : ((Int × Unit) → K)) : K :=
  Zfr6 a mutator k_1 k x9_1 c (decide (x9_1 < 4))
abbrev Zfr8 (a : OA) (mutator : Int) (k_1 : Int) (k : ((Int × Int) → K)) (x9 : Int) : K :=
  lp (fun (z_ : (Int × Unit)) c_ => Zfr7 a mutator k_1 k z_.1 c_) (x9, ())
abbrev alloc_Allocator_steal (a : OA) (mutator : Int) (k_1 : Int) : M (Int × Int) := fun k =>
  Zfr8 a mutator k_1 k 0
theorem alloc_Allocator_steal_ok (a : OA) (mutator : Int) (k_1 : Int) (k : (Int × Int) → K) (w : World) (hyp_ : alloc_Allocator_steal a mutator k_1 k w) : c_alloc_Allocator_steal a mutator k_1 k w :=
  cl_of (P := Tryz.prog) Tryz.func153 rfl (by kernel_rfl)
  (Qs [] [0, 1, 2] (fun z_ => Zfr8 a mutator k_1 k 0)
  Qz
  (fun _ => Qs [] [] (fun z_ => Zfr0 k 0 4)
  (Qs [(9, .int .i64)] [0, 1, 2] (fun z_ => Zfr8 a mutator k_1 k z_.1)
  Qz
  (fun ⟨x9, _⟩ => Qb (Ql [(9, .int .i64)] [0, 1, 2] (fun (z_ : (Int × Unit)) c_ => Zfr7 a mutator k_1 k z_.1 c_) (x9, ())
  (fun ⟨x9_1, _⟩ c => Qs [(10, .bool)] [0, 1, 2, 9] (fun z_ => Zfr6 a mutator k_1 k x9_1 c z_.1)
  Qz
  (fun ⟨x10, _⟩ => Qs [] [0, 1, 2, 9] (fun z_ => Zfr5 a mutator k_1 k x9_1 c x9_1)
  (Qc (x10) (Zfr5 a mutator k_1 k x9_1 c x9_1) (Zfr0 k 0 4) Qk Qx)
  (fun _ => Qs [] [0, 1, 2, 9] (fun z_ => c ((IntKind.wrap .i64 (x9_1 + 1)), ()))
  (Qb (Qs [(8, .int .i64)] [0, 1, 2, 9] (fun z_ => Zfr5 a mutator k_1 k x9_1 c z_.1)
  Qz
  (fun ⟨m, _⟩ => Qs [(19, .bool)] [0, 1, 2, 8, 9] (fun z_ => Zfr4 a mutator k_1 k x9_1 c m z_.1)
  Qz
  (fun ⟨x19, _⟩ => Qc (x19) (Zfr3 a mutator k_1 k m) (c ((IntKind.wrap .i64 (x9_1 + 1)), ())) (Qs [] [0, 1, 2] (fun z_ => Zfr2 a mutator k_1 k)
  Qz
  (fun _ => Qs [(6, .int .i64), (7, .int .i64)] [] (fun z_ => Zfr1 k z_.1 z_.2.1)
  Qz
  (fun ⟨x6_1, x7_1, _⟩ => Qr))) Qk))))
  (fun _ => Qz)))))))
  (fun _ => Qs [(6, .int .i64), (7, .int .i64)] [] (fun z_ => Zfr0 k z_.1 z_.2.1)
  Qz
  (fun ⟨x6, x7, _⟩ => Qr)))) hyp_
end
def oHead (c : List Int) (n : Nat) (a : Int) : Ob × Int :=
  if a < 0 ∨ a ≥ ((8 * n : Nat) : Int) ∨ (odec a (getI c a)).2 ≠ 0 ∨ oSize (odec a (getI c a)).1 > ((8 * n : Nat) : Int) - a then ((0, 0), 22) else ((odec a (getI c a)).1, 0)
section
variable {B : World} {P R : SL} {t : K}
theorem object_Head_c {d n : Nat} {c la : List Int} {a : Int} {k : Ob × Int → K} (hk : T B (R * LDev d n c la) (k (oHead c n a))) : T B (R * LDev d n c la) (c_object_Head (da d) a k) := by
  refine T_of (object_Head_ok _ a k) ?_
  unfold oHead at hk
  (repeat ((with_reducible refine T_al ?_; intro _)))
  rename_i b1
  by_cases h0 : a < 0
  · rw [if_pos (.inl h0)] at hk
    (repeat' (first | with_reducible refine T_brT ?_ | ((with_reducible apply T_ldI); (focus rfl); (focus exact hasA); (focus rfl)) | ((with_reducible apply T_st); (focus rfl); (focus exact updA); (focus simp); simp only [List.set, Nat.zero_add, Nat.reduceAdd]) | with_reducible refine T_brD (fun _ => ?_) (fun _ => ?_)))
    · refine T_drop1 .last ?_
      exact hk
    · exfalso; omega
  · (repeat' (first | with_reducible refine T_brT ?_ | ((with_reducible apply T_ldI); (focus rfl); (focus exact hasA); (focus rfl)) | ((with_reducible apply T_st); (focus rfl); (focus exact updA); (focus simp); simp only [List.set, Nat.zero_add, Nat.reduceAdd]) | with_reducible refine T_brD (fun _ => ?_) (fun _ => ?_)))
    · exfalso; omega
    refine T_bring (X := LDev d n c la) (.init .last) ?_
    refine LLen_c fun hl hn => ?_
    (repeat' (first | ((with_reducible apply T_ldI); (focus rfl); (focus exact hasA); (focus rfl)) | ((with_reducible apply T_st); (focus rfl); (focus exact updA); (focus simp); simp only [List.set, Nat.zero_add, Nat.reduceAdd]) | with_reducible refine T_brD (fun _ => ?_) (fun _ => ?_)))
    · rename_i h1
      rw [if_pos (.inr (.inl h1))] at hk
      refine T_drop1 (.init .last) ?_
      exact hk
    · rename_i h1
      refine LGet_c ?_
      refine ohead_Decode_c ?_
      generalize odec a (getI c a) = r at *
      (repeat' (first | with_reducible refine T_brT ?_ | ((with_reducible apply T_ldI); (focus rfl); (focus exact hasA); (focus rfl)) | (with_reducible refine T_al ?_; intro _) | ((with_reducible apply T_st); (focus rfl); (focus exact updA); (focus simp); simp only [List.set, Nat.zero_add, Nat.reduceAdd]) | with_reducible refine T_brNE (fun _ => ?_) (fun _ => ?_)))
      · rename_i h2
        rw [if_pos (.inr (.inr (.inl h2)))] at hk
        refine T_drop1 .last ?_
        refine T_drop1 (.init .last) ?_
        exact hk
      · rename_i b2 h2
        have h2' : r.2 = 0 := h2
        refine ohead_Size_c ?_
        refine T_bring (X := LDev d n c la) (.init .last) ?_
        refine LLen_c fun hl hn => ?_
        have e : IntKind.wrap .i64 (((8 * n : Nat) : Int) - a) = ((8 * n : Nat) : Int) - a := w64 (by omega) (by omega)
        (dsimp only [object_Head, Zfh0, Zfh1, Zfh2, Zfh3, Zfh4, Zfh5, Zfh6, Zfh7, Zfh8, Zfh9, Zfh10])
        rw [e]
        (repeat' (first | ((with_reducible apply T_ldI); (focus rfl); (focus exact hasA); (focus rfl)) | ((with_reducible apply T_st); (focus rfl); (focus exact updA); (focus simp); simp only [List.set, Nat.zero_add, Nat.reduceAdd]) | with_reducible refine T_brD (fun _ => ?_) (fun _ => ?_)))
        · rename_i h3
          rw [if_pos (.inr (.inr (.inr h3)))] at hk
          refine T_drop1 (.init (.init .last)) ?_
          refine T_drop1 (.init .last) ?_
          exact hk
        · rename_i h3
          rw [if_neg (by rintro (h | h | h | h) <;> first | omega | exact h h2' | exact h3 h)] at hk
          refine T_drop1 (.init (.init .last)) ?_
          refine T_drop1 (.init .last) ?_
          exact hk
end
/-- noughts behind an address, up to one -/
def zerN (c : List Int) (a : Nat) : Nat → List Int
  | 0 => c
  | 1 => c
  | i + 2 => (zerN c a (i + 1)).set (a + (i + 1)) 0
theorem zerN_succ (c : List Int) (a : Nat) {i : Nat} (h : 1 ≤ i) : zerN c a (i + 1) = (zerN c a i).set (a + i) 0 := by
  obtain ⟨j, rfl⟩ : ∃ j, i = j + 1 := ⟨i - 1, by omega⟩
  rfl
theorem zerN_get (c : List Int) (a : Nat) : ∀ z i, (zerN c a z)[i]? = if a < i ∧ i < a + z ∧ i < c.length then some 0 else c[i]?
  | 0, i => by rw [if_neg (by omega)]; rfl
  | 1, i => by rw [if_neg (by omega)]; rfl
  | z + 2, i => by
    show ((zerN c a (z + 1)).set (a + (z + 1)) 0)[i]? = _
    have hl : ∀ y, (zerN c a y).length = c.length := by
      intro y
      induction y with
      | zero => rfl
      | succ y ih =>
        cases y with
        | zero => rfl
        | succ y => show ((zerN c a (y + 1)).set _ _).length = _; rw [List.length_set]; exact ih
    rw [List.getElem?_set, hl, zerN_get c a (z + 1) i]
    by_cases e : a + (z + 1) = i
    · rw [if_pos e]
      by_cases h : a + (z + 1) < c.length
      · rw [if_pos h, if_pos (by omega)]
      · rw [if_neg h, if_neg (by omega), List.getElem?_eq_none (by omega)]
    · rw [if_neg e]
      by_cases h : a < i ∧ i < a + (z + 1) ∧ i < c.length
      · rw [if_pos h, if_pos (by omega)]
      · rw [if_neg h, if_neg (by omega)]
section
variable {B : World} {P R : SL} {t : K}
theorem object_Init_c {d n a : Nat} {c la : List Int} {o : Ob} (ho : oSize o ≠ 0) (ha : (a : Int) + oSize o ≤ ((8 * n : Nat) : Int)) {k : Int → K}
    (hk : T B (R * LDev d n ((zerN c a (oSize o).toNat).set a (oenc a o)) la) (k 0)) : T B (R * LDev d n c la) (c_object_Init (da d) a o k) := by
  refine T_of (object_Init_ok _ a o k) ?_
  have hr := oSize_rng o
  (repeat (first | ((with_reducible apply T_ldI); (focus rfl); (focus exact hasA); (focus rfl)) | (with_reducible refine T_al ?_; intro _)))
  rename_i b
  refine ohead_Size_c ?_
  (repeat' (first | with_reducible refine T_brT ?_ | with_reducible refine T_brD (fun _ => ?_) (fun _ => ?_) | with_reducible refine T_brE (fun _ => ?_) (fun _ => ?_)))
  · rename_i h; exact absurd h ho
  · exfalso; omega
  refine T_bring (X := LDev d n c la) (.init .last) ?_
  refine LLen_c fun hl hn => ?_
  (repeat' (first | with_reducible refine T_brT ?_ | with_reducible refine T_brD (fun _ => ?_) (fun _ => ?_)))
  · rename_i h; exfalso; omega
  refine LLen_c fun hl hn => ?_
  have e : IntKind.wrap .i64 (((8 * n : Nat) : Int) - a) = ((8 * n : Nat) : Int) - a := w64 (by omega) (by omega)
  (dsimp only [object_Init, Zfl0, Zfl1, Zfl2, Zfl3, Zfl4, Zfl5, Zfl6, Zfl7, Zfl8, Zfl9, Zfl10, Zfl11, Zfl12, Zfl13, Zfl14, Zfl15])
  rw [e]
  obtain ⟨z, hz⟩ := Int.eq_ofNat_of_zero_le hr.1
  have hz' : oSize (o.1, o.2) = (z : Int) := hz
  rw [hz'] 
  rw [hz] at ha ho hk hr
  (repeat' (with_reducible refine T_brD (fun _ => ?_) (fun _ => ?_)))
  · rename_i h; exfalso; omega
  refine T_lpX (fun _ s => R * pt b (.cells [.int .i64 o.1, .int .i64 o.2].toArray 68) * LDev d n (zerN c a s.1.toNat) la) (fun m (s : Int × Unit) => ∃ i : Nat, 1 ≤ i ∧ i ≤ z ∧ s.1 = i ∧ m = z - i) (z - 1) rfl ⟨1, by omega, by omega, rfl, rfl⟩ ?_
  rintro m ⟨s1, u⟩ cc ⟨i, h1, h2, h3, h4⟩ hc
  simp only at h3
  subst h3 h4
  simp only [Int.toNat_natCast]
  (repeat' (first | ((with_reducible apply T_ldI); (focus rfl); (focus exact hasA); (focus rfl)) | with_reducible refine T_brD (fun _ => ?_) (fun _ => ?_)))
  · rename_i hlt
    have e1 : IntKind.wrap .i64 ((a : Int) + i) = ((a + i : Nat) : Int) := by rw [w64 (by omega) (by omega)]; omega
    rw [e1]
    refine LStore_c (by omega) (by omega) ?_
    (repeat' (with_reducible refine T_brNE (fun _ => ?_) (fun _ => ?_)))
    · rename_i hx; exact absurd rfl hx
    have := hc (z - (i + 1)) (IntKind.wrap .i64 ((i : Int) + 1), ()) (by omega) ⟨i + 1, by omega, by omega, w64 (by omega) (by omega), rfl⟩
    have e2 : (IntKind.wrap .i64 ((i : Int) + 1)).toNat = i + 1 := by rw [w64 (by omega) (by omega)]; omega
    simp only [e2] at this
    rw [zerN_succ c a h1] at this
    rw [Int.toNat_natCast]
    exact this
  · rename_i hge
    have : i = z := by omega
    subst this
    refine ohead_Encode_c ?_
    refine LStore_c (by omega) (by omega) ?_
    rw [Int.toNat_natCast]
    rw [Int.toNat_natCast] at hk
    refine T_drop1 (.init .last) ?_
    exact hk
end
/-- keys that are told apart -/
structure KeyD {α : Type} [DecidableEq α] (Pg : Program) (mt kt et : TypeId) (ek : α → Value) : Prop where
  und : Pg.underlying mt = some (.map kt et)
  eq : ∀ a b, keyEq Pg kt (ek a) (ek b) = some (decide (a = b))
  fine : ∀ a, keyFine Pg kt (ek a) = true
  inj : ∀ a b, ek a = ek b → a = b
  same : ∀ a, Instr.sameBits 10000 (ek a) (ek a) = true
def kv (es : List MapEntry) : List (Value × Value) := es.map fun e => (e.key, e.val)
section
variable {α β : Type} [DecidableEq α] {Pg : Program} {mt kt et : TypeId} {ek : α → Value} {ev : β → Value}
def encs (ek : α → Value) (ev : β → Value) (l : List (α × β)) : List (Value × Value) := l.map fun p => (ek p.1, ev p.2)
def lkup (l : List (α × β)) (key : α) : Option β := (l.find? fun p => decide (key = p.1)).map (·.2)
theorem mfind_eq (hD : KeyD Pg mt kt et ek) {key : α} : ∀ (es : List MapEntry) (l : List (α × β)) (i : Nat), kv es = encs ek ev l →
    ∃ f, mfind Pg kt (ek key) es i = some f ∧ f.map (·.2) = (lkup l key).map ev ∧
      (f = none → l.findIdx? (fun p => decide (key = p.1)) = none) ∧ (∀ j v, f = some (j, v) → ∃ n, j = i + n ∧ l.findIdx? (fun p => decide (key = p.1)) = some n) := by
  intro es
  induction es with
  | nil =>
    intro l i h
    have : l = [] := by cases l <;> simp_all [kv, encs]
    subst this
    exact ⟨none, rfl, rfl, fun _ => rfl, fun j v h => by cases h⟩
  | cons e es ih =>
    intro l i h
    cases l with
    | nil => simp [kv, encs] at h
    | cons p l =>
      simp only [kv, encs, List.map_cons, List.cons.injEq, Prod.mk.injEq] at h
      obtain ⟨⟨hk, hv⟩, h⟩ := h
      have he := hD.eq key p.1
      simp only [mfind, hk, he]
      by_cases hkp : key = p.1
      · rw [decide_eq_true hkp]
        refine ⟨_, rfl, by simp [lkup, hkp, hv], fun h => by simp at h, fun j v hj => ?_⟩
        simp only [Option.some.injEq, Prod.mk.injEq] at hj
        exact ⟨0, by omega, by simp [List.findIdx?_cons, hkp]⟩
      · rw [decide_eq_false hkp]
        obtain ⟨f, h1, h2, h3, h4⟩ := ih l (i + 1) h
        refine ⟨f, h1, by rw [h2]; simp [lkup, hkp], fun hf => by simp [List.findIdx?_cons, hkp]; simpa using h3 hf, fun j v hj => ?_⟩
        obtain ⟨n, g1, g2⟩ := h4 j v hj
        exact ⟨n + 1, by omega, by simp [List.findIdx?_cons, hkp, g2]⟩
structure MpOk (ek : α → Value) (ev : β → Value) (es : Array MapEntry) (c : Nat) (l : List (α × β)) : Prop where
  kv : kv es.toList = encs ek ev l
  nod : (es.toList.map (·.born)).Nodup
  old : ∀ e ∈ es.toList, e.born < c
  keys : (l.map (·.1)).Nodup
def Mp (ek : α → Value) (ev : β → Value) (r : Nat) (l : List (α × β)) : SL := ex fun x : Array MapEntry × Nat => pt r (.map x.1 x.2) * pu (MpOk ek ev x.1 x.2 l)
variable {B : World} {P R : SL} {t : K}
theorem Mp_close {r : Nat} {l : List (α × β)} {es : Array MapEntry} {c : Nat} (ok : MpOk ek ev es c l) (h : T B (R * Mp ek ev r l) t) : T B (R * pt r (.map es c)) t := by
  refine T_puI ok ?_
  rw [sep_assoc]
  exact T_exI (X := fun x : Array MapEntry × Nat => pt r (.map x.1 x.2) * pu (MpOk ek ev x.1 x.2 l)) (es, c) h
end
section
variable {B : World} {P R : SL} {t : K} {Pg : Program}
theorem setObj_sat {w : World} {r : Nat} {es : Array MapEntry} {c : Nat} (o' : Obj) (s : Sat B (R * pt r (.map es c)) w) : ∃ w', (setObj r o').run Pg w = .ok () w' ∧ Sat B (R * pt r o') w' := by
  have hr := (s.has (b := r) (o := .map es c) Has.last).1
  have hlt : r < w.heap.size := (Array.getElem?_eq_some_iff.1 hr).1
  refine ⟨{ w with heap := w.heap.setIfInBounds r o' }, by simp [setObj, Sem.run, hr], ?_⟩
  refine s.upd Upd.last ?_ ?_ rfl rfl rfl (by simp)
  · simp [hlt]
  · intro x hx; simp [Ne.symm hx]
theorem getObj_sat {w : World} {r : Nat} {es : Array MapEntry} {c : Nat} (s : Sat B P w) (h : Has P r (.map es c)) : (getObj r).run Pg w = .ok (.map es c) w := by
  simp [getObj, Sem.run, (s.has h).1]
variable {α β : Type} [DecidableEq α] {mt kt et : TypeId} {ek : α → Value} {ev : β → Value}
theorem kv_len {es : List MapEntry} {l : List (α × β)} (h : kv es = encs ek ev l) : es.length = l.length := by
  have := congrArg List.length h
  simpa [kv, encs] using this
theorem kv_at {es : List MapEntry} {l : List (α × β)} (h : kv es = encs ek ev l) {i : Nat} {e : MapEntry} {p : α × β} (h1 : es[i]? = some e) (h2 : l[i]? = some p) : e.key = ek p.1 ∧ e.val = ev p.2 := by
  have := congrArg (fun x => x[i]?) h
  simp only [kv, encs, List.getElem?_map, h1, h2, Option.map_some, Option.some.injEq, Prod.mk.injEq] at this
  exact this
/-- what a map has when an entry is asked for -/
def entL (l : List (α × β)) (k : α) (z : β) : List (α × β) := match l.findIdx? (fun p => decide (k = p.1)) with | some _ => l | none => l ++ [(k, z)]
def entI (l : List (α × β)) (k : α) : Nat := match l.findIdx? (fun p => decide (k = p.1)) with | some i => i | none => l.length
theorem T_mapEntry (hD : KeyD Pg mt kt et ek) (hsame : ∀ a, Instr.sameBits 10000 (ek a) (ek a) = true) {z : β} (hz : zeroP Pg et = some (ev z)) {r : Nat} {l : List (α × β)} {key : α} {es : Array MapEntry} {c : Nat} (ok : MpOk ek ev es c l) {sh : Sh} {k : sh.T × Int → K} (x : sh.T)
    (hx : ev ((lkup l key).getD z) = sh.enc x)
    (ht : ∀ (stamp : Nat) es' c' e, MpOk ek ev es' c' (entL l key z) → es'[entI l key]? = some e → e.born = stamp → T B (R * pt r (.map es' c')) (k (x, (stamp : Int)))) :
    T B (R * pt r (.map es c)) (semT Pg (Instr.mapEntry mt (.map (some r)) (ek key)) (.tup [.sc sh, .sc (.int .i64)]) k) := by
  intro w s
  have hg := getObj_sat (Pg := Pg) s Has.last
  obtain ⟨f, h1, h2, h3, h4⟩ := mfind_eq hD (key := key) es.toList l 0 ok.kv
  obtain ⟨dk, hdk⟩ : ∃ d, Pg.underlying kt = some d := by
    cases hu : Pg.underlying kt with
    | none => have := hD.fine key; unfold keyFine at this; rw [hu] at this; simp at this
    | some d => exact ⟨d, rfl⟩
  have hl := kv_len ok.kv
  unfold semT
  cases f with
  | none =>
    obtain ⟨w', r1, r2⟩ := setObj_sat (Pg := Pg) (.map (es.push { key := ek key, val := ev z, born := c }) (c + 1)) s
    have hrun : (Instr.mapEntry mt (.map (some r)) (ek key)).run Pg w = .ok (.tuple #[ev z, goInt c]) w' := by
      simp only [Instr.mapEntry, Sem.run_bind, r_und hD.und, Result.andThen_ok, hg, keyFine_run (hD.fine key), mfind_run hdk h1, r_zero hz, r1]
      rfl
    rw [hrun]
    have hn := h3 rfl
    have hlk : lkup l key = none := by
      cases hq : lkup l key with
      | none => rfl
      | some b => rw [hq] at h2; simp at h2
    rw [hlk] at hx
    refine ⟨(x, (c : Int)), by rw [show ev z = sh.enc x from hx]; rfl, ?_⟩
    refine ht c _ (c + 1) { key := ek key, val := ev z, born := c } ?_ ?_ rfl w' r2
    · unfold entL; rw [hn]
      have hnk : ∀ p ∈ l, key ≠ p.1 := by
        intro p hp
        have := List.findIdx?_eq_none_iff.1 hn p hp
        simpa using this
      refine ⟨?_, ?_, fun e he => ?_, ?_⟩
      · have := ok.kv
        simp only [kv, encs, Array.toList_push, List.map_append, List.map_cons, List.map_nil] at this ⊢
        rw [this]
      · simp only [Array.toList_push, List.map_append, List.map_cons, List.map_nil]
        rw [List.nodup_append]
        refine ⟨ok.nod, by simp, fun a ha b hb => ?_⟩
        simp only [List.mem_singleton] at hb
        obtain ⟨e, he, rfl⟩ := List.mem_map.1 ha
        have := ok.old e he
        omega
      · simp only [Array.toList_push, List.mem_append, List.mem_singleton] at he
        rcases he with he | rfl
        · have := ok.old e he; omega
        · simp
      · simp only [List.map_append, List.map_cons, List.map_nil]
        rw [List.nodup_append]
        refine ⟨ok.keys, by simp, fun a ha b hb => ?_⟩
        simp only [List.mem_singleton] at hb
        obtain ⟨p, hp, rfl⟩ := List.mem_map.1 ha
        rw [hb]; exact (hnk p hp).symm
    · unfold entI; rw [hn]
      have : es.size = l.length := by simpa using hl
      simp only [← this, Array.getElem?_push_size]
  | some q =>
    obtain ⟨j, v⟩ := q
    obtain ⟨n, hj, hn⟩ := h4 j v rfl
    have hjn : j = n := by omega
    subst hjn
    obtain ⟨hlt, hpk, _⟩ := List.findIdx?_eq_some_iff_getElem.1 hn
    have hpk' : key = l[j].1 := by simpa using hpk
    have hlt' : j < es.size := by
      have : es.size = l.length := by simpa using hl
      omega
    obtain ⟨hk1, hv1⟩ := kv_at ok.kv (i := j) (e := es[j]) (p := l[j]) (by simp [hlt']) (by simp [hlt])
    have hke : es[j].key = ek key := by rw [hk1, hpk']
    obtain ⟨b, hb, hbv⟩ : ∃ b, lkup l key = some b ∧ ev b = v := by
      cases hq : lkup l key with
      | none => rw [hq] at h2; simp at h2
      | some b => rw [hq] at h2; simp at h2; exact ⟨b, rfl, h2.symm⟩
    rw [hb] at hx
    obtain ⟨w', r1, r2⟩ := setObj_sat (Pg := Pg) (.map (es.modify j fun e => { e with key := ek key }) c) s
    have hstay : ∀ w, (Instr.keyThatStays (ek key) (ek key)).run Pg w = .ok (ek key) w := by
      intro w; unfold Instr.keyThatStays; rw [if_pos (hsame key)]; rfl
    have hrun : (Instr.mapEntry mt (.map (some r)) (ek key)).run Pg w = .ok (.tuple #[v, goInt es[j].born]) w' := by
      simp only [Instr.mapEntry, Sem.run_bind, r_und hD.und, Result.andThen_ok, hg, keyFine_run (hD.fine key), mfind_run hdk h1, Array.getElem?_eq_getElem hlt', Option.map_some, Option.getD_some, hke, hstay, r1]
      rfl
    rw [hrun]
    have hmod : es.modify j (fun e => { e with key := ek key }) = es := by
      apply Array.ext (by simp)
      intro i h1 h2
      rw [Array.getElem_modify]
      split
      · rename_i e; subst e
        generalize es[j] = y at hke
        obtain ⟨a1, a2, a3⟩ := y
        simp only at hke ⊢
        rw [hke]
      · rfl
    rw [hmod] at r2
    refine ⟨(x, (es[j].born : Int)), by rw [← hbv, show ev b = sh.enc x from hx]; rfl, ?_⟩
    refine ht es[j].born es c es[j] ?_ ?_ rfl w' r2
    · unfold entL; rw [hn]; exact ok
    · unfold entI; rw [hn]; simp [hlt']
theorem born_idx {es : Array MapEntry} (hn : (es.toList.map (·.born)).Nodup) {i : Nat} {e : MapEntry} (he : es[i]? = some e) : es.findIdx? (fun x => (x.born : Int) == (e.born : Int)) = some i := by
  obtain ⟨hlt, hei⟩ := Array.getElem?_eq_some_iff.1 he
  rw [Array.findIdx?_eq_some_iff_getElem]
  refine ⟨hlt, by simp [hei], fun j hj => ?_⟩
  simp only [beq_iff_eq, Int.natCast_inj, Bool.not_eq_true', beq_eq_false_iff_ne, ne_eq]
  intro hh
  have := (List.pairwise_iff_getElem.1 hn) j i (by simp; omega) (by simpa using hlt) hj
  apply this
  simp [hei, hh]
theorem T_entryStore {r : Nat} {l : List (α × β)} {es : Array MapEntry} {c i : Nat} {e : MapEntry} {key : α} {v0 v : β} (ok : MpOk ek ev es c l) (he : es[i]? = some e) (hi : l[i]? = some (key, v0)) {vv : Value} (hv : vv = ev v)
    (ht : T B (R * Mp ek ev r (l.set i (key, v))) t) : T B (R * pt r (.map es c)) (semU Pg (Instr.entryStore mt (.map (some r)) (.int .i64 (e.born : Int)) vv) t) := by
  subst hv
  intro w s
  have hg := getObj_sat (Pg := Pg) s Has.last
  have hb := born_idx ok.nod he
  obtain ⟨w', r1, r2⟩ := setObj_sat (Pg := Pg) (.map (es.modify i fun e => { e with val := ev v }) c) s
  have hrun : (Instr.entryStore mt (.map (some r)) (.int .i64 (e.born : Int)) (ev v)).run Pg w = .ok () w' := by
    simp only [Instr.entryStore, Sem.run_bind, hg, Result.andThen_ok, asInt, asIntOf]
    simp only [Sem.run_pure, Result.andThen_ok, hb, r1]
  unfold semU
  rw [hrun]
  refine Mp_close ?_ ht w' r2
  obtain ⟨hlt, hei⟩ := Array.getElem?_eq_some_iff.1 he
  obtain ⟨hll, hli⟩ := List.getElem?_eq_some_iff.1 hi
  have htl : (es.modify i fun e => { e with val := ev v }).toList = es.toList.set i { e with val := ev v } := by
    apply List.ext_getElem?
    intro j
    rw [Array.getElem?_toList, Array.getElem?_modify, List.getElem?_set, Array.getElem?_toList]
    by_cases hj : i = j
    · subst hj; simp [hlt, hei]
    · simp [hj]
  have hkey := (kv_at ok.kv (i := i) (e := e) (p := (key, v0)) (by simpa using he) hi).1
  refine ⟨?_, ?_, fun x hx => ?_, ?_⟩
  · rw [htl]
    have := ok.kv
    unfold kv encs at this ⊢
    rw [List.map_set, List.map_set, this]
    simp only [hkey]
  · rw [htl, List.map_set]
    have : (es.toList.map (·.born)).set i e.born = es.toList.map (·.born) := by
      apply List.ext_getElem?
      intro j
      rw [List.getElem?_set]
      by_cases hj : i = j
      · subst hj; simp [hlt, hei]
      · simp [hj]
    simp only [this]; exact ok.nod
  · rw [htl] at hx
    rcases List.mem_or_eq_of_mem_set hx with h | h
    · exact ok.old x h
    · subst h; exact ok.old e (by rw [← hei]; simp)
  · rw [List.map_set]
    have : (l.map (·.1)).set i key = l.map (·.1) := by
      apply List.ext_getElem?
      intro j
      rw [List.getElem?_set]
      by_cases hj : i = j
      · subst hj; simp [hll, hli]
      · simp [hj]
    rw [this]; exact ok.keys
end
section
variable {α β : Type} [DecidableEq α]
theorem map_erase {γ δ : Type} (g : γ → δ) : ∀ (l : List γ) (i : Nat), (l.eraseIdx i).map g = (l.map g).eraseIdx i := by
  intro l
  induction l with
  | nil => intro i; rfl
  | cons x l ih =>
    intro i
    cases i with
    | zero => rfl
    | succ i => simp only [List.eraseIdx_cons_succ, List.map_cons, ih]
theorem lkup_nil (x : α) : lkup ([] : List (α × β)) x = none := rfl
theorem lkup_cons (p : α × β) (l : List (α × β)) (x : α) : lkup (p :: l) x = if x = p.1 then some p.2 else lkup l x := by
  unfold lkup
  rw [List.find?_cons]
  by_cases h : x = p.1
  · rw [decide_eq_true h, if_pos h]; rfl
  · rw [decide_eq_false h, if_neg h]
theorem lkup_none {l : List (α × β)} {x : α} (h : x ∉ l.map (·.1)) : lkup l x = none := by
  induction l with
  | nil => rfl
  | cons p l ih =>
    simp only [List.map_cons, List.mem_cons, not_or] at h
    rw [lkup_cons, if_neg h.1]; exact ih h.2
theorem lkup_mem {l : List (α × β)} (hn : (l.map (·.1)).Nodup) {x : α} {v : β} : lkup l x = some v ↔ (x, v) ∈ l := by
  induction l with
  | nil => simp [lkup_nil]
  | cons p l ih =>
    simp only [List.map_cons, List.nodup_cons] at hn
    rw [lkup_cons, List.mem_cons]
    by_cases h : x = p.1
    · rw [if_pos h]
      constructor
      · intro e
        simp only [Option.some.injEq] at e
        left; rw [h, ← e]
      · rintro (e | e)
        · rw [← e]
        · exact absurd (List.mem_map.2 ⟨_, e, h⟩) hn.1
    · rw [if_neg h, ih hn.2]
      constructor
      · exact .inr
      · rintro (e | e)
        · rw [← e] at h; exact absurd rfl h
        · exact e
/-- a list with a pair put -/
def putL (l : List (α × β)) (k : α) (v : β) : List (α × β) := match l.findIdx? (fun p => decide (k = p.1)) with | some i => l.set i (k, v) | none => l ++ [(k, v)]
def updF (f : α → Option β) (k : α) (v : β) : α → Option β := fun x => if x = k then some v else f x
def delF (f : α → Option β) (k : α) : α → Option β := fun x => if x = k then none else f x
theorem lkup_set {k x : α} {v : β} : ∀ {l : List (α × β)} {i : Nat}, l.findIdx? (fun p => decide (k = p.1)) = some i → lkup (l.set i (k, v)) x = if x = k then some v else lkup l x := by
  intro l
  induction l with
  | nil => intro i h; simp at h
  | cons p l ih =>
    intro i h
    rw [List.findIdx?_cons] at h
    by_cases hk : k = p.1
    · rw [decide_eq_true hk] at h
      simp only [if_true, Option.some.injEq] at h
      subst h
      rw [List.set_cons_zero, lkup_cons, lkup_cons]
      by_cases hx : x = k
      · simp [hx]
      · rw [if_neg hx, if_neg hx, if_neg (hk ▸ hx)]
    · rw [decide_eq_false hk] at h
      simp only [Bool.false_eq_true, if_false, Option.map_eq_some_iff] at h
      obtain ⟨j, hj, rfl⟩ := h
      rw [List.set_cons_succ, lkup_cons, lkup_cons, ih hj]
      by_cases hx : x = p.1
      · rw [if_pos hx, if_pos hx, if_neg (fun (e : x = k) => hk (e ▸ hx))]
      · rw [if_neg hx, if_neg hx]
theorem lkup_erase {k x : α} : ∀ {l : List (α × β)} {i : Nat}, (l.map (·.1)).Nodup → l.findIdx? (fun p => decide (k = p.1)) = some i → lkup (l.eraseIdx i) x = if x = k then none else lkup l x := by
  intro l
  induction l with
  | nil => intro i _ h; simp at h
  | cons p l ih =>
    intro i hn h
    simp only [List.map_cons, List.nodup_cons] at hn
    rw [List.findIdx?_cons] at h
    by_cases hk : k = p.1
    · rw [decide_eq_true hk] at h
      simp only [if_true, Option.some.injEq] at h
      subst h
      rw [List.eraseIdx_cons_zero, lkup_cons]
      by_cases hx : x = k
      · rw [if_pos hx]; exact lkup_none (by rw [hx, hk]; exact hn.1)
      · rw [if_neg hx, if_neg (hk ▸ hx)]
    · rw [decide_eq_false hk] at h
      simp only [Bool.false_eq_true, if_false, Option.map_eq_some_iff] at h
      obtain ⟨j, hj, rfl⟩ := h
      rw [List.eraseIdx_cons_succ, lkup_cons, lkup_cons, ih hn.2 hj]
      by_cases hx : x = p.1
      · rw [if_pos hx, if_pos hx, if_neg (fun (e : x = k) => hk (e ▸ hx))]
      · rw [if_neg hx, if_neg hx]
theorem findIdx_none {k : α} {l : List (α × β)} (h : l.findIdx? (fun p => decide (k = p.1)) = none) : k ∉ l.map (·.1) := by
  intro hm
  obtain ⟨p, hp, e⟩ := List.mem_map.1 hm
  have := List.findIdx?_eq_none_iff.1 h p hp
  simp [e] at this
theorem lkup_snoc {k x : α} {v : β} {l : List (α × β)} (h : k ∉ l.map (·.1)) : lkup (l ++ [(k, v)]) x = if x = k then some v else lkup l x := by
  induction l with
  | nil => show lkup [(k, v)] x = _; rw [lkup_cons]
  | cons p l ih =>
    simp only [List.map_cons, List.mem_cons, not_or] at h
    rw [List.cons_append, lkup_cons, lkup_cons, ih h.2]
    by_cases hx : x = p.1
    · rw [if_pos hx, if_pos hx, if_neg (fun (e : x = k) => h.1 (e ▸ hx))]
    · rw [if_neg hx, if_neg hx]
theorem lkup_put (l : List (α × β)) (k : α) (v : β) (x : α) : lkup (putL l k v) x = if x = k then some v else lkup l x := by
  unfold putL
  cases h : l.findIdx? (fun p => decide (k = p.1)) with
  | some i => exact lkup_set h
  | none => exact lkup_snoc (findIdx_none h)
theorem entL_put (l : List (α × β)) (k : α) (z v : β) : (entL l k z)[entI l k]? = some (k, (lkup l k).getD z) ∧ (entL l k z).set (entI l k) (k, v) = putL l k v := by
  unfold entL entI putL
  cases h : l.findIdx? (fun p => decide (k = p.1)) with
  | none =>
    rw [lkup_none (findIdx_none h)]
    simp
  | some i =>
    refine ⟨?_, rfl⟩
    obtain ⟨hlt, hpk, _⟩ := List.findIdx?_eq_some_iff_getElem.1 h
    have hpk' : k = l[i].1 := by simpa using hpk
    have := lkup_set (x := k) (v := l[i].2) h
    rw [if_pos rfl] at this
    have e : l.set i (k, l[i].2) = l := by
      apply List.ext_getElem?
      intro j
      rw [List.getElem?_set]
      by_cases hj : i = j
      · subst hj; simp [hlt, hpk']
      · simp [hj]
    rw [e] at this
    rw [this, List.getElem?_eq_getElem hlt, hpk']; rfl
end
section
variable {B : World} {P Q R : SL} {t : K} {Pg : Program} {α β : Type} [DecidableEq α] {mt kt et : TypeId} {ek : α → Value} {ev : β → Value}
def FOk (ek : α → Value) (ev : β → Value) (es : Array MapEntry) (c : Nat) (f : α → Option β) : Prop := ∃ l, MpOk ek ev es c l ∧ ∀ k, lkup l k = f k
def MpF (ek : α → Value) (ev : β → Value) (r : Nat) (f : α → Option β) : SL := ex fun x : Array MapEntry × Nat => pt r (.map x.1 x.2) * pu (FOk ek ev x.1 x.2 f)
theorem MpF_open {r : Nat} {f : α → Option β} (h : ∀ es c, FOk ek ev es c f → T B (R * pt r (.map es c)) t) : T B (R * MpF ek ev r f) t := by
  refine T_ex fun x => ?_
  rw [← sep_assoc]
  exact T_pu fun ok => h x.1 x.2 ok
theorem MpF_close {r : Nat} {f : α → Option β} {es : Array MapEntry} {c : Nat} (ok : FOk ek ev es c f) (h : T B (R * MpF ek ev r f) t) : T B (R * pt r (.map es c)) t := by
  refine T_puI ok ?_
  rw [sep_assoc]
  exact T_exI (X := fun x : Array MapEntry × Nat => pt r (.map x.1 x.2) * pu (FOk ek ev x.1 x.2 f)) (es, c) h
/-- wherever the assertion holds, there is such a map -/
def MHas (ek : α → Value) (ev : β → Value) (P : SL) (r : Nat) (f : α → Option β) : Prop := ∀ B w, Sat B P w → ∃ es c, FOk ek ev es c f ∧ w.heap[r]? = some (.map es c)
theorem MHas.init {r : Nat} {f : α → Option β} (h : MHas ek ev P r f) : MHas ek ev (P * Q) r f := fun B w s => h B w s.left
theorem MHas.tail {r : Nat} {f : α → Option β} (h : MHas ek ev Q r f) : MHas ek ev (P * Q) r f := fun B w s => h B w s.right
theorem MHas.of {r : Nat} {f : α → Option β} (h : Frm P (MpF ek ev r f) R) : MHas ek ev P r f := by
  intro B w s
  unfold Frm at h; subst h
  have : T B (R * MpF ek ev r f) (fun w => ∃ es c, FOk ek ev es c f ∧ w.heap[r]? = some (.map es c)) := MpF_open fun es c ok w s => ⟨es, c, ok, (s.has Has.last).1⟩
  exact this w s
theorem MHas.pt {r : Nat} {f : α → Option β} {es : Array MapEntry} {c : Nat} (ok : FOk ek ev es c f) (h : Has P r (.map es c)) : MHas ek ev P r f := fun B w s => ⟨es, c, ok, (s.has h).1⟩
theorem T_lkF (hD : KeyD Pg mt kt et ek) {r : Nat} {f : α → Option β} (h : MHas ek ev P r f) {key : α} {z : Value} {e : ESh} {k : Nat → Obj → e.T → Bool → K} (x : e.T)
    (hx : ((f key).map ev).getD z = e.enc x) (ht : ∀ ob, T B P (k r ob x (f key).isSome)) : T B P (lkE Pg kt z e (some r) (ek key) k) := by
  intro w s
  obtain ⟨es, c, ⟨l, ok, hl⟩, hh⟩ := h B w s
  obtain ⟨g, h1, h2, _, _⟩ := mfind_eq (ev := ev) hD (key := key) es.toList l 0 ok.kv
  rw [hl] at h2
  refine ⟨r, es, c, g, rfl, hh, h1, x, ?_, ?_⟩
  · rw [← hx, ← h2]
    cases g with
    | none => rfl
    | some q => rfl
  · have : g.isSome = (f key).isSome := by
      have := congrArg Option.isSome h2
      simpa using this
    rw [this]; exact ht _ w s
theorem T_putF (hD : KeyD Pg mt kt et ek) {z : β} (hz : zeroP Pg et = some (ev z)) {r : Nat} {f : α → Option β} {key : α} {v : β} {sh : Sh} {vv : Value} (x : sh.T)
    (hx : ev ((f key).getD z) = sh.enc x) (hv : vv = ev v) (ht : T B (R * MpF ek ev r (updF f key v)) t) :
    T B (R * MpF ek ev r f) (semT Pg (Instr.mapEntry mt (.map (some r)) (ek key)) (.tup [.sc sh, .sc (.int .i64)]) fun e => semU Pg (Instr.entryStore mt (.map (some r)) (.int .i64 e.2) vv) t) := by
  refine MpF_open fun es c ok => ?_
  obtain ⟨l, ok, hl⟩ := ok
  refine T_mapEntry hD hD.same hz ok x (by rw [hl]; exact hx) fun stamp es' c' e ok' he hb => ?_
  obtain ⟨p1, p2⟩ := entL_put l key z v
  subst hb
  refine T_entryStore (mt := mt) ok' he p1 hv ?_
  rw [p2]
  refine T_ex fun y => ?_
  rw [← sep_assoc]
  refine T_pu fun ok2 => ?_
  refine MpF_close ⟨_, ok2, fun k => ?_⟩ ht
  rw [lkup_put, hl]; rfl
theorem T_updM (hD : KeyD Pg mt kt et ek) {r : Nat} {f : α → Option β} {key : α} {v : β} {vv kk : Value} (hv : vv = ev v) (hkk : kk = ek key) (ht : T B (R * MpF ek ev r (updF f key v)) t) :
    T B (R * MpF ek ev r f) (semU Pg (Instr.mapUpdate mt (.map (some r)) kk vv) t) := by
  subst hv hkk
  refine MpF_open fun es c ok => ?_
  obtain ⟨l, ok, hl⟩ := ok
  intro w s
  have hg := getObj_sat (Pg := Pg) s Has.last
  obtain ⟨g, h1, h2, h3, h4⟩ := mfind_eq hD (key := key) es.toList l 0 ok.kv
  obtain ⟨dk, hdk⟩ : ∃ d, Pg.underlying kt = some d := by
    cases hu : Pg.underlying kt with
    | none => have := hD.fine key; unfold keyFine at this; rw [hu] at this; simp at this
    | some d => exact ⟨d, rfl⟩
  have hll := kv_len ok.kv
  have fin : ∀ k, lkup (putL l key v) k = updF f key v k := fun k => by rw [lkup_put, hl]; rfl
  unfold semU
  cases g with
  | none =>
    obtain ⟨w', r1, r2⟩ := setObj_sat (Pg := Pg) (.map (es.push { key := ek key, val := ev v, born := c }) (c + 1)) s
    have hrun : (Instr.mapUpdate mt (.map (some r)) (ek key) (ev v)).run Pg w = .ok () w' := by
      simp only [Instr.mapUpdate, Sem.run_bind, r_und hD.und, Result.andThen_ok, hg, keyFine_run (hD.fine key), mfind_run hdk h1, r1]
    rw [hrun]
    have hn := h3 rfl
    have hnk := findIdx_none hn
    refine MpF_close ⟨putL l key v, ?_, fin⟩ ht w' r2
    unfold putL; rw [hn]
    refine ⟨?_, ?_, fun e he => ?_, ?_⟩
    · have := ok.kv
      simp only [kv, encs, Array.toList_push, List.map_append, List.map_cons, List.map_nil] at this ⊢
      rw [this]
    · simp only [Array.toList_push, List.map_append, List.map_cons, List.map_nil]
      rw [List.nodup_append]
      refine ⟨ok.nod, by simp, fun a ha b hb => ?_⟩
      simp only [List.mem_singleton] at hb
      obtain ⟨e, he, rfl⟩ := List.mem_map.1 ha
      have := ok.old e he
      omega
    · simp only [Array.toList_push, List.mem_append, List.mem_singleton] at he
      rcases he with he | rfl
      · have := ok.old e he; omega
      · simp
    · simp only [List.map_append, List.map_cons, List.map_nil]
      rw [List.nodup_append]
      refine ⟨ok.keys, by simp, fun a ha b hb => ?_⟩
      simp only [List.mem_singleton] at hb
      rw [hb]; intro e; exact hnk (e ▸ ha)
  | some q =>
    obtain ⟨j, v0⟩ := q
    obtain ⟨n, hj, hn⟩ := h4 j v0 rfl
    have hjn : j = n := by omega
    subst hjn
    obtain ⟨hlt, hpk, _⟩ := List.findIdx?_eq_some_iff_getElem.1 hn
    have hpk' : key = l[j].1 := by simpa using hpk
    have hlt' : j < es.size := by
      have : es.size = l.length := by simpa using hll
      omega
    obtain ⟨hk1, hv1⟩ := kv_at ok.kv (i := j) (e := es[j]) (p := l[j]) (by simp [hlt']) (by simp [hlt])
    have hke : es[j].key = ek key := by rw [hk1, hpk']
    obtain ⟨w', r1, r2⟩ := setObj_sat (Pg := Pg) (.map (es.modify j fun e => { e with key := ek key, val := ev v }) c) s
    have hstay : ∀ w, (Instr.keyThatStays (ek key) (ek key)).run Pg w = .ok (ek key) w := by
      intro w; unfold Instr.keyThatStays; rw [if_pos (hD.same key)]; rfl
    have hrun : (Instr.mapUpdate mt (.map (some r)) (ek key) (ev v)).run Pg w = .ok () w' := by
      simp only [Instr.mapUpdate, Sem.run_bind, r_und hD.und, Result.andThen_ok, hg, keyFine_run (hD.fine key), mfind_run hdk h1, Array.getElem?_eq_getElem hlt', Option.map_some, Option.getD_some, hke, hstay, r1]
    rw [hrun]
    refine MpF_close ⟨putL l key v, ?_, fin⟩ ht w' r2
    unfold putL; rw [hn]
    have htl : (es.modify j fun e => { e with key := ek key, val := ev v }).toList = es.toList.set j { es[j] with key := ek key, val := ev v } := by
      apply List.ext_getElem?
      intro i
      rw [Array.getElem?_toList, Array.getElem?_modify, List.getElem?_set, Array.getElem?_toList]
      by_cases hi : j = i
      · subst hi; simp [hlt']
      · simp [hi]
    refine ⟨?_, ?_, fun x hx => ?_, ?_⟩
    · simp only [htl]
      have := ok.kv
      unfold kv encs at this ⊢
      rw [List.map_set, List.map_set, this]
    · rw [htl, List.map_set]
      have : (es.toList.map (·.born)).set j es[j].born = es.toList.map (·.born) := by
        apply List.ext_getElem?
        intro i
        rw [List.getElem?_set]
        by_cases hi : j = i
        · subst hi; simp [hlt']
        · simp [hi]
      simp only [this]; exact ok.nod
    · rw [htl] at hx
      rcases List.mem_or_eq_of_mem_set hx with h | h
      · exact ok.old x h
      · subst h; exact ok.old es[j] (by simp)
    · rw [List.map_set]
      have : (l.map (·.1)).set j key = l.map (·.1) := by
        apply List.ext_getElem?
        intro i
        rw [List.getElem?_set]
        by_cases hi : j = i
        · subst hi; simp [hlt, hpk']
        · simp [hi]
      rw [this]; exact ok.keys
theorem T_delF (hD : KeyD Pg mt kt et ek) {r : Nat} {f : α → Option β} {key : α} {kk : Value} {kt' : TypeId} {k : Unit → K} (hkk : kk = ek key) (ht : T B (R * MpF ek ev r (delF f key)) (k ())) :
    T B (R * MpF ek ev r f) (semT Pg (Builtin.delete_ #[mt, kt'] 0 #[.map (some r), kk]) (.tup []) k) := by
  subst hkk
  refine MpF_open fun es c ok => ?_
  obtain ⟨l, ok, hl⟩ := ok
  intro w s
  have hg := getObj_sat (Pg := Pg) s Has.last
  obtain ⟨g, h1, h2, h3, h4⟩ := mfind_eq hD (key := key) es.toList l 0 ok.kv
  obtain ⟨dk, hdk⟩ : ∃ d, Pg.underlying kt = some d := by
    cases hu : Pg.underlying kt with
    | none => have := hD.fine key; unfold keyFine at this; rw [hu] at this; simp at this
    | some d => exact ⟨d, rfl⟩
  have hll := kv_len ok.kv
  unfold semT
  cases g with
  | none =>
    obtain ⟨w', r1, r2⟩ := setObj_sat (Pg := Pg) (.map es c) s
    have hrun : (Builtin.delete_ #[mt, kt'] 0 #[.map (some r), ek key]).run Pg w = .ok (.tuple #[]) w' := by
      simp [Builtin.delete_, Sem.run_bind, r_und hD.und, Result.andThen_ok, hg, keyFine_run (hD.fine key), mfind_run hdk h1, r1]
    rw [hrun]
    refine ⟨(), rfl, ?_⟩
    have hn := findIdx_none (h3 rfl)
    refine MpF_close ⟨l, ok, fun x => ?_⟩ ht w' r2
    unfold delF
    by_cases hx : x = key
    · rw [if_pos hx, hx]; exact lkup_none hn
    · rw [if_neg hx]; exact hl x
  | some q =>
    obtain ⟨j, v0⟩ := q
    obtain ⟨n, hj, hn⟩ := h4 j v0 rfl
    have hjn : j = n := by omega
    subst hjn
    obtain ⟨hlt, hpk, _⟩ := List.findIdx?_eq_some_iff_getElem.1 hn
    have hlt' : j < es.size := by
      have : es.size = l.length := by simpa using hll
      omega
    obtain ⟨w', r1, r2⟩ := setObj_sat (Pg := Pg) (.map (es.eraseIdxIfInBounds j) c) s
    have hrun : (Builtin.delete_ #[mt, kt'] 0 #[.map (some r), ek key]).run Pg w = .ok (.tuple #[]) w' := by
      simp [Builtin.delete_, Sem.run_bind, r_und hD.und, Result.andThen_ok, hg, keyFine_run (hD.fine key), mfind_run hdk h1, r1]
    rw [hrun]
    refine ⟨(), rfl, ?_⟩
    have htl : (es.eraseIdxIfInBounds j).toList = es.toList.eraseIdx j := by
      unfold Array.eraseIdxIfInBounds
      rw [dif_pos hlt']; simp
    refine MpF_close ⟨l.eraseIdx j, ⟨?_, ?_, fun x hx => ?_, ?_⟩, fun x => ?_⟩ ht w' r2
    · rw [htl]
      have := ok.kv
      unfold kv encs at this ⊢
      rw [map_erase, map_erase, this]
    · rw [htl, map_erase]; exact ok.nod.sublist (List.eraseIdx_sublist ..)
    · rw [htl] at hx; exact ok.old x (List.mem_of_mem_eraseIdx hx)
    · rw [map_erase]; exact ok.keys.sublist (List.eraseIdx_sublist ..)
    · rw [lkup_erase ok.keys hn, hl]; rfl
end
theorem nodup_lt_len : ∀ (n : Nat) (l : List Nat), l.Nodup → (∀ x ∈ l, x < n) → l.length ≤ n
  | 0, l, _, h => by
    cases l with
    | nil => simp
    | cons a _ => exact absurd (h a (by simp)) (by omega)
  | n + 1, l, hn, h => by
    by_cases hm : n ∈ l
    · have h1 := nodup_lt_len n (l.erase n) (hn.erase n) (fun x hx => by
        have := (List.Nodup.mem_erase_iff hn).1 hx
        have := h x this.2
        omega)
      rw [List.length_erase_of_mem hm] at h1
      omega
    · have := nodup_lt_len n l hn (fun x hx => by
        have h1 := h x hx
        have h2 : x ≠ n := fun e => hm (e ▸ hx)
        omega)
      omega
section
variable {B : World} {P Q R : SL} {t : K} {Pg : Program} {α β : Type} [DecidableEq α] {mt kt et : TypeId} {ek : α → Value} {ev : β → Value}
/-- an iterator, behind so many visited entries -/
def iter (es : Array MapEntry) (r c : Nat) (sn : List Nat) : Obj := .mapIter (some r) c (sn.reverse.map fun i => ((es[i]?).map (·.born)).getD 0).toArray c
structure Seen (l : List (α × β)) (sn : List Nat) : Prop where
  nd : sn.Nodup
  lt : ∀ i ∈ sn, i < l.length
def prsOf (l : List (α × β)) (sn : List Nat) : List (α × β) := sn.filterMap fun i => l[i]?
theorem prsOf_cons {l : List (α × β)} {i : Nat} {p : α × β} (h : l[i]? = some p) (sn : List Nat) : prsOf l (i :: sn) = p :: prsOf l sn := by
  unfold prsOf; rw [List.filterMap_cons, h]
theorem prsOf_mem {l : List (α × β)} {sn : List Nat} {p : α × β} : p ∈ prsOf l sn ↔ ∃ i ∈ sn, l[i]? = some p := by
  unfold prsOf; rw [List.mem_filterMap]
theorem nodup_idx {l : List α} (hn : l.Nodup) {i j : Nat} {a : α} (h1 : l[i]? = some a) (h2 : l[j]? = some a) : i = j := by
  obtain ⟨a1, b1⟩ := List.getElem?_eq_some_iff.1 h1
  obtain ⟨a2, b2⟩ := List.getElem?_eq_some_iff.1 h2
  rcases Nat.lt_trichotomy i j with h | h | h
  · exact absurd (b1.trans b2.symm) ((List.pairwise_iff_getElem.1 hn) i j a1 a2 h)
  · exact h
  · exact absurd (b2.trans b1.symm) ((List.pairwise_iff_getElem.1 hn) j i a2 a1 h)
theorem keys_idx {l : List (α × β)} (hn : (l.map (·.1)).Nodup) {i j : Nat} {p q : α × β} (h1 : l[i]? = some p) (h2 : l[j]? = some q) (e : p.1 = q.1) : i = j :=
  nodup_idx hn (a := p.1) (by rw [List.getElem?_map, h1]; rfl) (by rw [List.getElem?_map, h2, e]; rfl)
theorem prsOf_nodup {l : List (α × β)} (hn : (l.map (·.1)).Nodup) {sn : List Nat} (h : Seen l sn) : ((prsOf l sn).map (·.1)).Nodup := by
  induction sn with
  | nil => simp [prsOf]
  | cons i sn ih =>
    have hnd := h.nd
    rw [List.nodup_cons] at hnd
    have hi := h.lt i (by simp)
    have hg : l[i]? = some l[i] := List.getElem?_eq_getElem hi
    rw [prsOf_cons hg, List.map_cons, List.nodup_cons]
    refine ⟨fun hm => ?_, ih ⟨hnd.2, fun j hj => h.lt j (by simp [hj])⟩⟩
    obtain ⟨q, hq, e⟩ := List.mem_map.1 hm
    obtain ⟨j, hj, hjq⟩ := prsOf_mem.1 hq
    have := keys_idx hn hg hjq e.symm
    subst this
    exact hnd.1 hj
theorem iter_seen {es : Array MapEntry} {c : Nat} {l : List (α × β)} (ok : MpOk ek ev es c l) {sn : List Nat} (h : Seen l sn) {i : Nat} {e : MapEntry} (he : es[i]? = some e) :
    (sn.reverse.map fun i => ((es[i]?).map (·.born)).getD 0).toArray.contains e.born = decide (i ∈ sn) := by
  have hl := kv_len ok.kv
  rw [Bool.eq_iff_iff]
  simp only [List.contains_toArray, List.contains_iff_mem, List.mem_map, List.mem_reverse, decide_eq_true_eq]
  constructor
  · rintro ⟨j, hj, e1⟩
    have hjl : j < es.size := by have := h.lt j hj; simp at hl; omega
    have hjs : es[j]? = some es[j] := Array.getElem?_eq_getElem hjl
    rw [hjs] at e1
    simp only [Option.map_some, Option.getD_some] at e1
    have : i = j := nodup_idx ok.nod (a := e.born) (by rw [List.getElem?_map, Array.getElem?_toList, he]; rfl) (by rw [List.getElem?_map, Array.getElem?_toList, hjs, ← e1]; rfl)
    subst this; exact hj
  · intro hi
    exact ⟨i, hi, by rw [he]; rfl⟩
theorem setBlock_sat {w : World} {r : Nat} {o o' : Obj} (s : Sat B (R * pt r o) w) : Sat B (R * pt r o') (ChangeMaps.setBlock w r o') := by
  have hr := (s.has (b := r) (o := o) Has.last).1
  have hlt : r < w.heap.size := (Array.getElem?_eq_some_iff.1 hr).1
  refine s.upd Upd.last ?_ ?_ rfl rfl rfl (by simp [ChangeMaps.setBlock])
  · simp [ChangeMaps.setBlock, hlt]
  · intro x hx; simp [ChangeMaps.setBlock, Ne.symm hx]
theorem T_rangeF {σ : Type} (hD : KeyD Pg mt kt et ek) {r : Nat} {f : α → Option β} {s0 : σ} {body : σ → (σ → K) → Value × Value → K} {ex : σ → K} {ty : TypeId} (R' : σ → List (α × β) → SL) (φ : σ → List (α × β) → Prop)
    (hP : ∀ t, T B (R' s0 [] * MpF ek ev r f) t → T B P t) (h0 : φ s0 [])
    (hstep : ∀ s sn key v (It : SL) (c : σ → K), φ s sn → f key = some v → key ∉ sn.map (·.1) → MHas ek ev It r f → (∀ X t, T B (X * MpF ek ev r f) t → T B (X * It) t) → (∀ s', φ s' ((key, v) :: sn) → T B (R' s' ((key, v) :: sn) * It) (c s')) → T B (R' s sn * It) (body s c (ek key, ev v)))
    (hend : ∀ s sn, φ s sn → (sn.map (·.1)).Nodup → (∀ key v, f key = some v ↔ (key, v) ∈ sn) → T B (R' s sn * MpF ek ev r f) (ex s)) :
    T B P (semT Pg (Instr.range mt (.map (some r))) (.one (.sc .ptr)) fun it => lp (fun z cc => nextM Pg (Instr.next (.pointer it) false ty) fun go rest => brK go (semT Pg (Instr.entry (.pointer it)) (.tup [.sc .any, .sc .any]) fun e => body z cc e) (ex z)) s0) := by
  refine hP _ ?_
  refine MpF_open fun es c ok => ?_
  obtain ⟨l, ok, hl⟩ := ok
  have hll := kv_len ok.kv
  intro w s
  have hrun : (Instr.range mt (.map (some r))).run Pg w = .ok (.pointer (some ⟨w.heap.size, 0, none⟩)) { w with heap := w.heap.push (.mapIter (some r) c #[] c) } := by
    have hg := getObj_sat (Pg := Pg) s Has.last
    simp only [Instr.range, Sem.run_bind, r_und hD.und, Result.andThen_ok, hg]
    rfl
  unfold semT
  rw [hrun]
  refine ⟨some ⟨w.heap.size, 0, none⟩, rfl, ?_⟩
  have s2 := s.alloc (o := .mapIter (some r) c #[] c)
  generalize hit : w.heap.size = it at *
  generalize ({ w with heap := w.heap.push (.mapIter (some r) c #[] c) } : World) = w2 at s2 ⊢
  clear hrun s
  -- the rounds
  refine T_lpW (B := B) (P := R' s0 [] * pt r (.map es c) * pt it (.mapIter (some r) c #[] c)) (fun n s => _root_.Go.Proofs.YtdgcbapclnnkkaaGreat.X.ex fun sn => R' s (prsOf l sn) * pt r (.map es c) * pt it (iter es r c sn) * pu (Seen l sn ∧ n = l.length - sn.length ∧ φ s (prsOf l sn))) (fun _ _ => True) l.length (fun t ht => ?_) trivial ?_ w2 s2
  · intro w3 s3
    obtain ⟨⟨g, hg, hgb⟩, hk⟩ := Sat.puI (φ := Seen l [] ∧ l.length = l.length - ([] : List Nat).length ∧ φ s0 (prsOf l [])) ⟨⟨List.nodup_nil, by simp⟩, by simp, h0⟩ s3
    exact ht w3 ⟨⟨g, ⟨[], hg⟩, hgb⟩, hk⟩
  · intro n s cc _ hc
    intro w3 s3
    obtain ⟨⟨g, ⟨sn, hg⟩, hgb⟩, hk⟩ := s3
    have s3 : Sat B (R' s (prsOf l sn) * pt r (.map es c) * pt it (iter es r c sn) * pu (Seen l sn ∧ n = l.length - sn.length ∧ φ s (prsOf l sn))) w3 := ⟨⟨g, hg, hgb⟩, hk⟩
    clear hg hgb hk
    have key : Seen l sn → n = l.length - sn.length → φ s (prsOf l sn) → T B (R' s (prsOf l sn) * pt r (.map es c) * pt it (iter es r c sn)) (nextM Pg (Instr.next (.pointer (some ⟨it, 0, none⟩)) false ty) fun go rest => brK go (semT Pg (Instr.entry (.pointer (some ⟨it, 0, none⟩))) (.tup [.sc .any, .sc .any]) fun e => body s cc e) (ex s)) := by
      intro hs hn hφ w4 s4
      have hb : w4.heap[r]? = some (.map es c) := (s4.has (Has.init Has.last)).1
      have hi : w4.heap[it]? = some (iter es r c sn) := (s4.has Has.last).1
      unfold nextM
      rcases run_next_at (P := Pg) w4 ty it r c c _ es c hi hb ok.old (Nat.le_refl _) with ⟨z1, z2⟩ | ⟨e, he, w5, hw5, hr5⟩
      · rw [z2]
        refine ⟨false, [], rfl, ?_⟩
        have all : ∀ i, i < l.length → i ∈ sn := by
          intro i hil
          have hie : i < es.size := by simp at hll; omega
          have hz : leftOf es (sn.reverse.map fun i => ((es[i]?).map (·.born)).getD 0).toArray = #[] := Array.eq_empty_of_size_eq_zero z1
          unfold leftOf at hz
          rw [Array.filter_eq_empty_iff] at hz
          have := hz es[i] (by simp)
          rw [iter_seen ok hs (i := i) (Array.getElem?_eq_getElem hie)] at this
          simpa using this
        have hfin : T B (R' s (prsOf l sn) * pt r (.map es c) * pt it (iter es r c sn)) (ex s) := by
          refine T.weak ?_
          refine MpF_close ⟨l, ok, hl⟩ ?_
          refine hend s _ hφ (prsOf_nodup ok.keys hs) fun k v => ?_
          rw [← hl, lkup_mem ok.keys, prsOf_mem]
          constructor
          · intro hm
            obtain ⟨i, hi, he⟩ := List.mem_iff_getElem.1 hm
            exact ⟨i, all i hi, by rw [List.getElem?_eq_getElem hi, he]⟩
          · rintro ⟨i, _, he⟩; exact List.mem_of_getElem? he
        exact hfin w4 s4
      · rw [hr5]
        refine ⟨true, [e.key, e.val], rfl, ?_⟩
        obtain ⟨hem, hen⟩ := Array.mem_filter.1 (Array.mem_def.2 he)
        obtain ⟨i, hie, hei⟩ := Array.mem_iff_getElem.1 hem
        have hei' : es[i]? = some e := by rw [Array.getElem?_eq_getElem hie, hei]
        rw [iter_seen ok hs hei'] at hen
        have hni : i ∉ sn := by simpa using hen
        have hil : i < l.length := by simp at hll; omega
        obtain ⟨ke, ve⟩ := kv_at ok.kv (i := i) (e := e) (p := l[i]) (by simpa using hei') (List.getElem?_eq_getElem hil)
        have s5 : Sat B (R' s (prsOf l sn) * pt r (.map es c) * pt it (iter es r c sn)) w5 := by
          rcases hw5 with rfl | rfl
          · exact s4
          · exact s4.drew _
        have s6 := setBlock_sat (o' := iter es r c (i :: sn)) s5
        have hit' : iter es r c (i :: sn) = .mapIter (some r) c ((sn.reverse.map fun i => ((es[i]?).map (·.born)).getD 0).toArray.push e.born) c := by
          unfold iter
          rw [List.reverse_cons, List.map_append, List.map_singleton, hei']
          simp
        rw [← hit']
        generalize ChangeMaps.setBlock w5 it (iter es r c (i :: sn)) = w6 at s6
        have hb6 : w6.heap[r]? = some (.map es c) := (s6.has (Has.init Has.last)).1
        have hi6 : w6.heap[it]? = some (iter es r c (i :: sn)) := (s6.has Has.last).1
        rw [hit'] at hi6
        have hent := run_entry_at (P := Pg) w6 it r c _ es c e hi6 hb6 (by simpa using hem) ok.nod
        show semT Pg (Instr.entry (.pointer (some ⟨it, 0, none⟩))) (.tup [.sc .any, .sc .any]) (fun e => body s cc e) w6
        unfold semT
        rw [hent]
        refine ⟨(e.key, e.val), rfl, ?_⟩
        rw [ke, ve]
        have hs' : Seen l (i :: sn) := ⟨List.nodup_cons.2 ⟨hni, hs.nd⟩, fun j hj => by
          rcases List.mem_cons.1 hj with rfl | hj
          · exact hil
          · exact hs.lt j hj⟩
        have hpc : prsOf l (i :: sn) = (l[i].1, l[i].2) :: prsOf l sn := prsOf_cons (List.getElem?_eq_getElem hil) sn
        have hlen : sn.length < l.length := by
          have := nodup_lt_len l.length (i :: sn) hs'.nd hs'.lt
          simp only [List.length_cons] at this
          omega
        have hb := hstep s (prsOf l sn) l[i].1 l[i].2 (pt r (.map es c) * pt it (iter es r c (i :: sn))) cc hφ (by rw [← hl, lkup_mem ok.keys]; exact List.getElem_mem hil) (fun hm => by
          obtain ⟨q, hq, e⟩ := List.mem_map.1 hm
          obtain ⟨j, hj, hjq⟩ := prsOf_mem.1 hq
          have := keys_idx ok.keys (List.getElem?_eq_getElem hil) hjq e.symm
          subst this; exact hni hj) (MHas.init (MHas.pt ⟨l, ok, hl⟩ Has.one)) (fun X t ht => by
            rw [← sep_assoc]
            exact T.weak (MpF_close ⟨l, ok, hl⟩ ht)) (fun s' hφ' => by
            have hcc := hc (l.length - (i :: sn).length) s' (by rw [hn]; simp; omega) trivial
            intro w7 s7
            refine hcc w7 ?_
            rw [← hpc] at hφ' s7
            rw [← sep_assoc] at s7
            obtain ⟨⟨g, hg, hgb⟩, hk⟩ := Sat.puI (φ := Seen l (i :: sn) ∧ l.length - (i :: sn).length = l.length - (i :: sn).length ∧ φ s' (prsOf l (i :: sn))) ⟨hs', rfl, hφ'⟩ s7
            exact ⟨⟨g, ⟨i :: sn, hg⟩, hgb⟩, hk⟩)
        rw [← sep_assoc] at hb
        exact hb w6 s6
    have k2 : T B (R' s (prsOf l sn) * pt r (.map es c) * pt it (iter es r c sn) * pu (Seen l sn ∧ n = l.length - sn.length ∧ φ s (prsOf l sn))) _ := T_pu fun h => key h.1 h.2.1 h.2.2
    exact k2 w3 s3
end
def bigS : Nat → (Nat → SL) → SL
  | 0, _ => emp
  | n + 1, f => bigS n f * f n
theorem bigS_congr {n : Nat} {f f' : Nat → SL} (h : ∀ i, i < n → f i = f' i) : bigS n f = bigS n f' := by
  induction n with
  | zero => rfl
  | succ n ih => unfold bigS; rw [ih fun i hi => h i (by omega), h n (by omega)]
/-- all but one -/
def bigX (n : Nat) (f : Nat → SL) (i : Nat) : SL := bigS n fun j => if j = i then emp else f j
theorem bigS_out {n : Nat} {f : Nat → SL} {i : Nat} (h : i < n) : bigS n f = bigX n f i * f i := by
  unfold bigX
  induction n with
  | zero => omega
  | succ n ih =>
    unfold bigS
    by_cases e : i = n
    · subst e
      simp only [if_true]
      rw [sep_emp]
      congr 1
      exact bigS_congr fun j hj => by rw [if_neg (by omega)]
    · have e2 : ¬ n = i := Ne.symm e
      simp only [if_neg e2]
      rw [ih (by omega), sep_assoc, sep_comm (f i), ← sep_assoc]
theorem bigX_congr {n : Nat} {f f' : Nat → SL} {i : Nat} (h : ∀ j, j < n → j ≠ i → f j = f' j) : bigX n f i = bigX n f' i := by
  unfold bigX
  refine bigS_congr fun j hj => ?_
  by_cases e : j = i
  · rw [if_pos e, if_pos e]
  · rw [if_neg e, if_neg e, h j hj e]
theorem bigS_in {n : Nat} {f f' : Nat → SL} {i : Nat} (h : i < n) (hc : ∀ j, j < n → j ≠ i → f j = f' j) : bigX n f i * f' i = bigS n f' := by
  rw [bigX_congr hc, ← bigS_out h]
/-- all but two -/
theorem bigX_out {n : Nat} {f : Nat → SL} {i j : Nat} (h : j < n) (hij : j ≠ i) : bigX n f i = bigX n (fun x => if x = i then emp else f x) j * f j := by
  show bigS n (fun x => if x = i then emp else f x) = _
  rw [bigS_out h, if_neg hij]
def ei (n : Int) : Value := .int .i64 n
abbrev RF := Int → Option Int
theorem kd_ii : KeyD (α := Int) Tryz.prog 240 3 3 ei := by
  refine ⟨by kernel_rfl, fun a b => ?_, fun a => by kernel_rfl, fun a b h => ?_, fun a => ?_⟩
  · show keyEq Tryz.prog 3 (.int .i64 a) (.int .i64 b) = _
    unfold keyEq
    rw [show Program.underlying Tryz.prog 3 = some (.int .i64) by kernel_rfl]
    simp only [if_true]
    rw [Bool.beq_eq_decide_eq]
  · unfold ei at h; injection h
  · show ((IntKind.i64 == IntKind.i64) && a == a) = true
    simp
structure RunsOk (lim : Int) (F : RF) : Prop where
  big : lim ≤ 2 ^ 20
  rng : ∀ s n, F s = some n → 1 ≤ s ∧ 1 ≤ n ∧ s + n ≤ lim
  sep : ∀ s n s' n', F s = some n → F s' = some n' → s < s' → s + n < s'
def Ends (F E : RF) : Prop := ∀ e s, E e = some s ↔ ∃ n, F s = some n ∧ e = s + n
/-- a block in a run -/
def InR (F : RF) (b : Int) : Prop := ∃ s n, F s = some n ∧ s ≤ b ∧ b < s + n
def Idx (x : Nat) (lim : Int) (F : RF) : SL := ex fun q : Nat × Nat × RF => MpF ei ei q.1 F * MpF ei ei q.2.1 q.2.2 * pt x (.cells [.map (some q.1), .map (some q.2.1), .int .i64 lim].toArray 242) * pu (Ends F q.2.2)
section
variable {B : World} {P R : SL} {t : K}
theorem FOk_nil {α β : Type} [DecidableEq α] {ek : α → Value} {ev : β → Value} : FOk ek ev #[] 0 (fun _ => none) := ⟨[], ⟨rfl, by simp, by simp, by simp⟩, fun _ => rfl⟩
theorem Idx_open {x : Nat} {lim : Int} {F : RF} (h : ∀ r1 r2 E, Ends F E → T B (R * MpF ei ei r1 F * MpF ei ei r2 E * pt x (.cells [.map (some r1), .map (some r2), .int .i64 lim].toArray 242)) t) : T B (R * Idx x lim F) t := by
  refine T_ex fun q => ?_
  rw [← sep_assoc]
  refine T_pu fun ok => T.perm ?_ (h q.1 q.2.1 q.2.2 ok)
  simp only [sep_assoc]
theorem Idx_close {x : Nat} {lim : Int} {F : RF} {r1 r2 : Nat} {E : RF} (ok : Ends F E) (h : T B (R * Idx x lim F) t) : T B (R * MpF ei ei r1 F * MpF ei ei r2 E * pt x (.cells [.map (some r1), .map (some r2), .int .i64 lim].toArray 242)) t := by
  have h2 := T_exI (B := B) (R := R) (t := t) (X := fun q : Nat × Nat × RF => MpF ei ei q.1 F * MpF ei ei q.2.1 q.2.2 * pt x (.cells [.map (some q.1), .map (some q.2.1), .int .i64 lim].toArray 242) * pu (Ends F q.2.2)) (r1, r2, E) h
  rw [← sep_assoc] at h2
  refine T.perm ?_ (T_puI ok h2)
  simp only [sep_assoc]
theorem runs_New_c {lim : Int} (hl : 0 ≤ lim) {k : Option Addr → K} (hk : ∀ x, T B (R * Idx x lim (fun _ => none)) (k (da x))) : T B R (c_runs_New lim k) := by
  refine T_of (runs_New_ok lim k) ?_
  have e0 : max2I lim 0 = lim := by unfold max2I; split <;> omega
  (dsimp only [runs_New, Zet0, Zet1])
  rw [e0]
  refine T_al fun r1 => ?_
  refine MpF_close (ek := ei) (ev := ei) (FOk_nil (α := Int) (β := Int)) ?_
  refine T_al fun r2 => ?_
  refine MpF_close (ek := ei) (ev := ei) (FOk_nil (α := Int) (β := Int)) ?_
  refine T_al fun x => ?_
  refine Idx_close (r1 := r1) (r2 := r2) (E := fun _ => none) (fun e s => ?_) (hk x)
  simp
theorem runs_add_c {x : Nat} {lim : Int} {F : RF} {start n : Int} {k : Unit → K} (h0 : F start = none) (h1 : ∀ s m, F s = some m → s + m ≠ start + n) (hw : -9223372036854775808 ≤ start + n ∧ start + n ≤ 9223372036854775807)
    (hk : T B (R * Idx x lim (updF F start n)) (k ())) : T B (R * Idx x lim F) (c_runs_Index_add (da x) start n k) := by
  refine T_of (runs_Index_add_ok _ start n k) ?_
  unfold da
  refine Idx_open fun r1 r2 E hE => ?_
  (repeat (first | with_reducible refine T_nn ?_ | with_reducible refine T_tick ?_ | ((with_reducible apply T_ldM); (focus rfl); (focus exact hasA); (focus rfl))))
  rw [w64 hw.1 hw.2]
  refine T_bring (X := MpF ei ei r1 F) (.init (.init .last)) ?_
  refine T_putF (ek := ei) (ev := ei) kd_ii (z := (0 : Int)) (by kernel_rfl) ((F start).getD 0) rfl rfl ?_
  refine T_bring (X := MpF ei ei r2 E) (.init (.init .last)) ?_
  refine T_putF (ek := ei) (ev := ei) kd_ii (z := (0 : Int)) (by kernel_rfl) ((E (start + n)).getD 0) rfl rfl ?_
  refine T.perm ?_ (Idx_close (R := R) (r1 := r1) (r2 := r2) (E := updF E (start + n) start) ?_ hk)
  · ac_rfl
  · intro e s
    unfold updF
    by_cases he : e = start + n
    · rw [if_pos he]
      constructor
      · intro h
        simp only [Option.some.injEq] at h
        subst h
        exact ⟨n, by rw [if_pos rfl], he⟩
      · rintro ⟨m, h, h2⟩
        by_cases hs : s = start
        · rw [hs]
        · rw [if_neg hs] at h
          exact absurd (h2.symm.trans he) (h1 s m h)
    · rw [if_neg he, hE]
      constructor
      · rintro ⟨m, h, h2⟩
        have hs : s ≠ start := fun hs => by rw [hs, h0] at h; cases h
        exact ⟨m, by rw [if_neg hs]; exact h, h2⟩
      · rintro ⟨m, h, h2⟩
        by_cases hs : s = start
        · rw [if_pos hs] at h
          simp only [Option.some.injEq] at h
          subst h hs; exact absurd h2 he
        · rw [if_neg hs] at h; exact ⟨m, h, h2⟩
theorem runs_drop_c {x : Nat} {lim : Int} {F : RF} {start n : Int} {k : Unit → K} (h0 : F start = some n) (hw : -9223372036854775808 ≤ start + n ∧ start + n ≤ 9223372036854775807)
    (hk : T B (R * Idx x lim (delF F start)) (k ())) : T B (R * Idx x lim F) (c_runs_Index_drop (da x) start k) := by
  refine T_of (runs_Index_drop_ok _ start k) ?_
  unfold da
  refine Idx_open fun r1 r2 E hE => ?_
  (repeat (first | with_reducible refine T_nn ?_ | with_reducible refine T_tick ?_ | ((with_reducible apply T_ldM); (focus rfl); (focus exact hasA); (focus rfl))))
  refine T_lkF (ek := ei) (ev := ei) kd_ii (r := r1) (f := F) (MHas.init (MHas.init (MHas.of .last))) n (by rw [h0]; rfl) fun ob => ?_
  rw [w64 hw.1 hw.2]
  refine T_bring (X := MpF ei ei r2 E) (.init .last) ?_
  refine T_delF (ek := ei) (ev := ei) kd_ii rfl ?_
  (repeat (first | with_reducible refine T_nn ?_ | ((with_reducible apply T_ldM); (focus rfl); (focus exact hasA); (focus rfl))))
  refine T_bring (X := MpF ei ei r1 F) (.init (.init .last)) ?_
  refine T_delF (ek := ei) (ev := ei) kd_ii rfl ?_
  refine T.perm ?_ (Idx_close (R := R) (r1 := r1) (r2 := r2) (E := delF E (start + n)) ?_ hk)
  · ac_rfl
  · intro e s
    unfold delF
    have hs0 : E (start + n) = some start := (hE _ _).2 ⟨n, h0, rfl⟩
    by_cases he : e = start + n
    · rw [if_pos he]
      constructor
      · intro h; cases h
      · rintro ⟨m, h, h2⟩
        by_cases hs : s = start
        · rw [if_pos hs] at h; cases h
        · rw [if_neg hs] at h
          have h3 := (hE e s).2 ⟨m, h, h2⟩
          rw [he, hs0] at h3
          exact absurd (Option.some.inj h3).symm hs
    · rw [if_neg he, hE]
      constructor
      · rintro ⟨m, h, h2⟩
        have hs : s ≠ start := fun hs => by rw [hs, h0] at h; cases h; exact he (by rw [h2, hs])
        exact ⟨m, by rw [if_neg hs]; exact h, h2⟩
      · rintro ⟨m, h, h2⟩
        by_cases hs : s = start
        · rw [if_pos hs] at h; cases h
        · rw [if_neg hs] at h; exact ⟨m, h, h2⟩
theorem T_decI {kd : IntKind} {v : Value} {k : Int → K} (n : Int) (h : v = .int kd n) (ht : T B P (k n)) : T B P (decSh (.int kd) v k) := by
  subst h
  show T B P (gd (decide (kd = kd)) (k n))
  rw [decide_eq_true rfl]; exact ht
theorem runs_Has_c {x : Nat} {lim b : Int} {F : RF} {k : Bool → K} (ok : RunsOk lim F) (h1 : InR F b → T B (R * Idx x lim F) (k true)) (h0 : ¬ InR F b → T B (R * Idx x lim F) (k false)) : T B (R * Idx x lim F) (c_runs_Index_Has (da x) b k) := by
  refine T_of (runs_Index_Has_ok _ b k) ?_
  unfold da
  refine Idx_open fun r1 r2 E hE => ?_
  have hB := ok.big
  (repeat (first | with_reducible refine T_nn ?_ | ((with_reducible apply T_ldM); (focus rfl); (focus exact hasA); (focus rfl))))
  (dsimp only [runs_Index_Has, Zek0, Zek1, Zek2, Zek3, Zek4, Zek5, Zek6, Zek7, Zek8])
  refine T_bring (X := MpF ei ei r1 F) (.init (.init .last)) ?_
  have cl : ∀ t, T B (R * Idx x lim F) t → T B (R * MpF ei ei r2 E * pt x (.cells [.map (some r1), .map (some r2), .int .i64 lim].toArray 242) * MpF ei ei r1 F) t := fun t h => T.perm (by ac_rfl) (Idx_close (R := R) (r1 := r1) (r2 := r2) hE h)
  refine T_rangeF (ek := ei) (ev := ei) kd_ii (fun _ _ => R * MpF ei ei r2 E * pt x (.cells [.map (some r1), .map (some r2), .int .i64 lim].toArray 242)) (fun _ sn => ∀ s m, (s, m) ∈ sn → ¬ (s ≤ b ∧ b < s + m)) (fun t h => h) (by simp) ?_ ?_
  · intro s sn key v It c hφ hf hn hM hW hc
    have hr := ok.rng _ _ hf
    refine T_decI key rfl ?_
    refine T_decI v rfl ?_
    rw [w64 (by omega) (by omega)]
    (repeat' (first | with_reducible refine T_brF ?_ | with_reducible refine T_brD (fun _ => ?_) (fun _ => ?_)))
    · refine hW _ _ (cl _ (h1 ⟨key, v, hf, ?_⟩))
      omega
    · refine hc _ fun s m hm => ?_
      rcases List.mem_cons.1 hm with h | h
      · cases h; omega
      · exact hφ s m h
    · refine hc _ fun s m hm => ?_
      rcases List.mem_cons.1 hm with h | h
      · cases h; omega
      · exact hφ s m h
  · intro s sn hφ hn hcov
    refine cl _ (h0 ?_)
    rintro ⟨s, m, hs, hb⟩
    exact hφ s m ((hcov s m).1 hs) hb
end
def takeF (F : RF) (b n m : Int) : RF := if n < m then updF (delF F b) (b + n) (m - n) else delF F b
section
variable {B : World} {P R : SL} {t : K}
theorem runs_Take_c {x : Nat} {lim n : Int} {F : RF} {k : Int × Int → K} (ok : RunsOk lim F) (hn : 1 ≤ n)
    (h0 : (∀ s m, F s = some m → m < n) → T B (R * Idx x lim F) (k (0, 4)))
    (h1 : ∀ b m, F b = some m → n ≤ m → (∀ s m', F s = some m' → n ≤ m' → m < m' ∨ m = m' ∧ b ≤ s) → T B (R * Idx x lim (takeF F b n m)) (k (b, 0))) : T B (R * Idx x lim F) (c_runs_Index_Take (da x) n k) := by
  refine T_of (runs_Index_Take_ok _ n k) ?_
  have hB := ok.big
  unfold da
  (repeat' (first | with_reducible refine T_nn ?_ | with_reducible refine T_brD (fun _ => ?_) (fun _ => ?_)))
  · exfalso; omega
  refine Idx_open fun r1 r2 E hE => ?_
  (repeat (((with_reducible apply T_ldM); (focus rfl); (focus exact hasA); (focus rfl))))
  (dsimp only [runs_Index_Take, Zem0, Zem1, Zem2, Zem3, Zem4, Zem5, Zem6, Zem7, Zem8, Zem9, Zem10, Zem11, Zem12, Zem13, Zem14, Zem15, Zem16])
  refine T_bring (X := MpF ei ei r1 F) (.init (.init .last)) ?_
  have cl : ∀ t, T B (R * Idx x lim F) t → T B (R * MpF ei ei r2 E * pt x (.cells [.map (some r1), .map (some r2), .int .i64 lim].toArray 242) * MpF ei ei r1 F) t := fun t h => T.perm (by ac_rfl) (Idx_close (R := R) (r1 := r1) (r2 := r2) hE h)
  refine T_rangeF (ek := ei) (ev := ei) kd_ii (fun _ _ => R * MpF ei ei r2 E * pt x (.cells [.map (some r1), .map (some r2), .int .i64 lim].toArray 242))
    (fun z sn => (z.1 = -1 ∧ ∀ s m, (s, m) ∈ sn → m < n) ∨ (∃ kb, F z.1 = some kb ∧ n ≤ kb ∧ ∀ s m, (s, m) ∈ sn → n ≤ m → kb < m ∨ kb = m ∧ z.1 ≤ s)) (fun t h => h) (.inl ⟨rfl, by simp⟩) ?_ ?_
  · rintro ⟨best, u⟩ sn key v It c hφ hf hni hM hW hc
    have hr := ok.rng _ _ hf
    simp only at hφ ⊢
    refine T_decI key rfl ?_
    refine T_decI v rfl ?_
    -- what is kept
    have keep : ¬ n ≤ v → T B (R * MpF ei ei r2 E * pt x (.cells [.map (some r1), .map (some r2), .int .i64 lim].toArray 242) * It) (c (best, ())) := by
      intro hv
      refine hc _ ?_
      rcases hφ with ⟨e1, e2⟩ | ⟨kb, e1, e2, e3⟩
      · refine .inl ⟨e1, fun s m hm => ?_⟩
        rcases List.mem_cons.1 hm with h | h
        · cases h; omega
        · exact e2 s m h
      · refine .inr ⟨kb, e1, e2, fun s m hm hnm => ?_⟩
        rcases List.mem_cons.1 hm with h | h
        · cases h; omega
        · exact e3 s m h hnm
    have sw : n ≤ v → (∀ s m, (s, m) ∈ sn → n ≤ m → v < m ∨ v = m ∧ key ≤ s) → T B (R * MpF ei ei r2 E * pt x (.cells [.map (some r1), .map (some r2), .int .i64 lim].toArray 242) * It) (c (key, ())) := by
      intro hv hall
      refine hc _ (.inr ⟨v, hf, hv, fun s m hm hnm => ?_⟩)
      rcases List.mem_cons.1 hm with h | h
      · cases h; omega
      · exact hall s m h hnm
    rcases hφ with ⟨e1, e2⟩ | ⟨kb, e1, e2, e3⟩
    · (repeat' (first | with_reducible refine T_nn ?_ | with_reducible refine T_brT ?_ | with_reducible refine T_brF ?_ | ((with_reducible apply T_ldM); (focus rfl); (focus exact hasA); (focus rfl)) | with_reducible refine T_brD (fun _ => ?_) (fun _ => ?_)))
      · refine sw (by omega) fun s m hm hnm => ?_
        have := e2 s m hm; omega
      · exfalso; omega
      · exact keep (by omega)
    · have hb := ok.rng _ _ e1
      (repeat' (first | with_reducible refine T_nn ?_ | with_reducible refine T_brT ?_ | with_reducible refine T_brF ?_ | ((with_reducible apply T_ldM); (focus rfl); (focus exact hasA); (focus rfl)) | with_reducible refine T_brD (fun _ => ?_) (fun _ => ?_)))
      · exfalso; omega
      · refine T_lkF (ek := ei) (ev := ei) kd_ii (r := r1) (f := F) hM.tail kb (by rw [e1]; rfl) fun ob => ?_
        (repeat' (first | with_reducible refine T_nn ?_ | with_reducible refine T_brT ?_ | ((with_reducible apply T_ldM); (focus rfl); (focus exact hasA); (focus rfl)) | with_reducible refine T_brD (fun _ => ?_) (fun _ => ?_)))
        · refine sw (by omega) fun s m hm hnm => ?_
          have := e3 s m hm hnm; omega
        · refine T_lkF (ek := ei) (ev := ei) kd_ii (r := r1) (f := F) hM.tail kb (by rw [e1]; rfl) fun ob => ?_
          (repeat' (first | with_reducible refine T_brF ?_ | with_reducible refine T_brD (fun _ => ?_) (fun _ => ?_) | with_reducible refine T_brE (fun _ => ?_) (fun _ => ?_)))
          · refine sw (by omega) fun s m hm hnm => ?_
            have := e3 s m hm hnm; omega
          · refine hc _ (.inr ⟨kb, e1, e2, fun s m hm hnm => ?_⟩)
            rcases List.mem_cons.1 hm with h | h
            · cases h; omega
            · exact e3 s m h hnm
          · refine hc _ (.inr ⟨kb, e1, e2, fun s m hm hnm => ?_⟩)
            rcases List.mem_cons.1 hm with h | h
            · cases h; omega
            · exact e3 s m h hnm
      · exact keep (by omega)
  · rintro ⟨best, u⟩ sn hφ hn' hcov
    simp only at hφ ⊢
    rcases hφ with ⟨e1, e2⟩ | ⟨kb, e1, e2, e3⟩
    · (repeat' (first | with_reducible refine T_nn ?_ | ((with_reducible apply T_ldM); (focus rfl); (focus exact hasA); (focus rfl)) | with_reducible refine T_brD (fun _ => ?_) (fun _ => ?_)))
      · exact cl _ (h0 fun s m h => e2 s m ((hcov s m).1 h))
      · exfalso; omega
    · have hb := ok.rng _ _ e1
      have hk := h1 best kb e1 e2 fun s m' h hnm => e3 s m' ((hcov s m').1 h) hnm
      (repeat' (first | with_reducible refine T_nn ?_ | ((with_reducible apply T_ldM); (focus rfl); (focus exact hasA); (focus rfl)) | with_reducible refine T_brD (fun _ => ?_) (fun _ => ?_)))
      · exfalso; omega
      · refine T_lkF (ek := ei) (ev := ei) kd_ii (r := r1) (f := F) (MHas.of .last) kb (by rw [e1]; rfl) fun ob => ?_
        refine cl _ ?_
        refine runs_drop_c e1 (by omega) ?_
        unfold takeF at hk
        (repeat' (with_reducible refine T_brD (fun _ => ?_) (fun _ => ?_)))
        · rename_i hlt
          rw [if_pos (by omega)] at hk
          rw [w64 (by omega) (by omega), w64 (by omega) (by omega)]
          refine runs_add_c ?_ ?_ (by omega) hk
          · unfold delF
            rw [if_neg (by omega)]
            cases hq : F (best + n) with
            | none => rfl
            | some m' => have := ok.sep _ _ _ _ e1 hq (by omega); omega
          · intro s m hs
            unfold delF at hs
            by_cases he : s = best
            · rw [if_pos he] at hs; cases hs
            · rw [if_neg he] at hs
              have r3 := ok.rng _ _ hs
              rcases Int.lt_or_gt_of_ne he with h | h
              · have := ok.sep _ _ _ _ hs e1 h; omega
              · have := ok.sep _ _ _ _ e1 hs h; omega
        · rename_i hlt
          rw [if_neg (by omega)] at hk
          exact hk
theorem RunsOk.take {lim : Int} {F : RF} (ok : RunsOk lim F) {b n m : Int} (h : F b = some m) (hn : 1 ≤ n) (hm : n ≤ m) : RunsOk lim (takeF F b n m) := by
  have hr := ok.rng _ _ h
  have key : ∀ s q, takeF F b n m s = some q → (s = b + n ∧ q = m - n ∧ n < m) ∨ (s ≠ b ∧ F s = some q) := by
    intro s q hs
    unfold takeF at hs
    split at hs
    · rename_i hlt
      unfold updF at hs
      split at hs
      · rename_i e; left; exact ⟨e, by simp only [Option.some.injEq] at hs; omega, hlt⟩
      · unfold delF at hs
        split at hs
        · cases hs
        · rename_i e; exact .inr ⟨e, hs⟩
    · unfold delF at hs
      split at hs
      · cases hs
      · rename_i e; exact .inr ⟨e, hs⟩
  refine ⟨ok.big, fun s q hs => ?_, fun s q s' q' hs hs' hlt => ?_⟩
  · rcases key s q hs with ⟨h1, h2, h3⟩ | ⟨h1, h2⟩
    · omega
    · exact ok.rng _ _ h2
  · rcases key s q hs with ⟨h1, h2, h3⟩ | ⟨h1, h2⟩ <;> rcases key s' q' hs' with ⟨g1, g2, g3⟩ | ⟨g1, g2⟩
    · omega
    · have := ok.sep _ _ _ _ h g2 (by omega); omega
    · rcases Int.lt_or_gt_of_ne h1 with hh | hh
      · have := ok.sep _ _ _ _ h2 h hh; omega
      · have := ok.sep _ _ _ _ h h2 hh; omega
    · exact ok.sep _ _ _ _ h2 g2 hlt
theorem InR_take {lim : Int} {F : RF} (ok : RunsOk lim F) {b n m : Int} (h : F b = some m) (hn : 1 ≤ n) (hm : n ≤ m) (y : Int) : InR (takeF F b n m) y ↔ InR F y ∧ ¬ (b ≤ y ∧ y < b + n) := by
  have hr := ok.rng _ _ h
  unfold takeF InR
  constructor
  · rintro ⟨s, q, hs, h1, h2⟩
    have two : ∀ {s q}, F s = some q → s ≠ b → s ≤ y → y < s + q → InR F y ∧ ¬ (b ≤ y ∧ y < b + n) := by
      intro s q g hne g1 g2
      refine ⟨⟨s, q, g, g1, g2⟩, fun hc => ?_⟩
      rcases Int.lt_or_gt_of_ne hne with hh | hh
      · have := ok.sep _ _ _ _ g h hh; omega
      · have := ok.sep _ _ _ _ h g hh; omega
    split at hs
    · unfold updF at hs
      split at hs
      · simp only [Option.some.injEq] at hs
        exact ⟨⟨b, m, h, by omega, by omega⟩, by omega⟩
      · unfold delF at hs
        split at hs
        · cases hs
        · rename_i e; exact two hs e h1 h2
    · unfold delF at hs
      split at hs
      · cases hs
      · rename_i e; exact two hs e h1 h2
  · rintro ⟨⟨s, q, hs, h1, h2⟩, h3⟩
    by_cases e : s = b
    · subst e
      rw [h] at hs
      simp only [Option.some.injEq] at hs
      subst hs
      refine ⟨s + n, m - n, ?_, by omega, by omega⟩
      rw [if_pos (by omega)]
      unfold updF; rw [if_pos rfl]
    · refine ⟨s, q, ?_, h1, h2⟩
      have hne : s ≠ b + n ∨ ¬ n < m := by
        by_cases hlt : n < m
        · left; intro e2
          have := ok.sep _ _ _ _ h hs (by omega); omega
        · exact .inr hlt
      split
      · unfold updF delF
        rw [if_neg (by omega), if_neg e]; exact hs
      · unfold delF; rw [if_neg e]; exact hs
end
theorem RunsOk.del {lim : Int} {F : RF} (ok : RunsOk lim F) (s0 : Int) : RunsOk lim (delF F s0) := by
  have key : ∀ s q, delF F s0 s = some q → F s = some q := by
    intro s q hs
    unfold delF at hs
    split at hs
    · cases hs
    · exact hs
  exact ⟨ok.big, fun s q hs => ok.rng _ _ (key s q hs), fun s q s' q' hs hs' hlt => ok.sep _ _ _ _ (key s q hs) (key s' q' hs') hlt⟩
theorem RunsOk.add {lim : Int} {G : RF} (ok : RunsOk lim G) {S N : Int} (h1 : 1 ≤ S) (h2 : 1 ≤ N) (h3 : S + N ≤ lim) (h : ∀ s m, G s = some m → s + m < S ∨ S + N < s) :
    G S = none ∧ RunsOk lim (updF G S N) ∧ ∀ y, InR (updF G S N) y ↔ InR G y ∨ (S ≤ y ∧ y < S + N) := by
  have hn : G S = none := by
    cases hq : G S with
    | none => rfl
    | some m => have := h S m hq; have := ok.rng S m hq; omega
  have key : ∀ s q, updF G S N s = some q → (s = S ∧ q = N) ∨ (s ≠ S ∧ G s = some q) := by
    intro s q hs
    unfold updF at hs
    split at hs
    · rename_i e; simp only [Option.some.injEq] at hs; exact .inl ⟨e, hs.symm⟩
    · rename_i e; exact .inr ⟨e, hs⟩
  refine ⟨hn, ⟨ok.big, fun s q hs => ?_, fun s q s' q' hs hs' hlt => ?_⟩, fun y => ?_⟩
  · rcases key s q hs with ⟨e1, e2⟩ | ⟨_, e⟩
    · omega
    · exact ok.rng _ _ e
  · rcases key s q hs with ⟨e1, e2⟩ | ⟨_, e⟩ <;> rcases key s' q' hs' with ⟨g1, g2⟩ | ⟨_, g⟩
    · omega
    · have := h _ _ g; have := ok.rng _ _ g; omega
    · have := h _ _ e; have := ok.rng _ _ e; omega
    · exact ok.sep _ _ _ _ e g hlt
  · constructor
    · rintro ⟨s, q, hs, g1, g2⟩
      rcases key s q hs with ⟨e1, e2⟩ | ⟨_, e⟩
      · right; omega
      · exact .inl ⟨s, q, e, g1, g2⟩
    · rintro (⟨s, q, hs, g1, g2⟩ | ⟨g1, g2⟩)
      · refine ⟨s, q, ?_, g1, g2⟩
        unfold updF; rw [if_neg]; exact hs
        intro e; rw [e, hn] at hs; cases hs
      · exact ⟨S, N, by unfold updF; rw [if_pos rfl], g1, g2⟩
theorem InR_del {lim : Int} {F : RF} (ok : RunsOk lim F) {s0 n0 : Int} (h : F s0 = some n0) (y : Int) : InR F y ↔ InR (delF F s0) y ∨ (s0 ≤ y ∧ y < s0 + n0) := by
  constructor
  · rintro ⟨s, q, hs, g1, g2⟩
    by_cases e : s = s0
    · subst e; rw [h] at hs; cases hs; exact .inr ⟨g1, g2⟩
    · exact .inl ⟨s, q, by unfold delF; rw [if_neg e]; exact hs, g1, g2⟩
  · rintro (⟨s, q, hs, g1, g2⟩ | ⟨g1, g2⟩)
    · unfold delF at hs
      split at hs
      · cases hs
      · exact ⟨s, q, hs, g1, g2⟩
    · exact ⟨s0, n0, h, g1, g2⟩
theorem delF_some {F : RF} {s0 s q : Int} (h : delF F s0 s = some q) : s ≠ s0 ∧ F s = some q := by
  unfold delF at h
  split at h
  · cases h
  · rename_i e; exact ⟨e, h⟩
def Cov (F : RF) (sn : List (Int × Int)) : Prop := (sn.map (·.1)).Nodup ∧ ∀ key v, F key = some v ↔ (key, v) ∈ sn
section
variable {B : World} {P R : SL} {t : K}
theorem runs_Give_c {x : Nat} {lim start n : Int} {F : RF} {k : Int → K} (ok : RunsOk lim F) (hw : -9223372036854775808 ≤ start ∧ start ≤ 9223372036854775807)
    (hbad : ¬ (1 ≤ start ∧ 1 ≤ n ∧ start + n ≤ lim) → T B (R * Idx x lim F) (k 1))
    (htw : 1 ≤ start → 1 ≤ n → start + n ≤ lim → (∃ b, start ≤ b ∧ b < start + n ∧ InR F b) → T B (R * Idx x lim F) (k 41))
    (hk : 1 ≤ start → 1 ≤ n → start + n ≤ lim → (∀ b, start ≤ b → b < start + n → ¬ InR F b) → ∀ F', RunsOk lim F' → (∀ y, InR F' y ↔ InR F y ∨ (start ≤ y ∧ y < start + n)) → T B (R * Idx x lim F') (k 0)) :
    T B (R * Idx x lim F) (c_runs_Index_Give (da x) start n k) := by
  refine T_of (runs_Index_Give_ok _ start n k) ?_
  have hB := ok.big
  unfold da
  (repeat' (first | with_reducible refine T_nn ?_ | with_reducible refine T_brT ?_ | with_reducible refine T_brD (fun _ => ?_) (fun _ => ?_)))
  · exact hbad (by omega)
  · exact hbad (by omega)
  refine Idx_open fun r1 r2 E hE => ?_
  (repeat' (first | with_reducible refine T_nn ?_ | with_reducible refine T_brT ?_ | ((with_reducible apply T_ldI); (focus rfl); (focus exact hasA); (focus rfl)) | with_reducible refine T_brD (fun _ => ?_) (fun _ => ?_)))
  · exact Idx_close hE (hbad (by omega))
  · rename_i h; rw [w64 (by omega) (by omega)] at h; exact Idx_close hE (hbad (by omega))
  rename_i h3 h4
  rw [w64 (by omega) (by omega)] at h4
  have hbad := ()
  have e1 : 1 ≤ start := by omega
  have e2 : 1 ≤ n := by omega
  have e3 : start + n ≤ lim := by omega
  refine Idx_close hE ?_
  clear hE E r1 r2
  (dsimp only [runs_Index_Give, Zds0, Zds1, Zds2, Zds3, Zds4, Zds5, Zds6, Zds7, Zds8, Zds9, Zds10, Zds11, Zds12, Zds13, Zds14, Zds15, Zds16, Zds17, Zds18, Zds19])
  rw [w64 (n := start + n) (by omega) (by omega)]
  refine T_lpX (fun _ _ => R * Idx x lim F) (fun m (s : Int × Unit) => start ≤ s.1 ∧ s.1 ≤ start + n ∧ m = (start + n - s.1).toNat ∧ ∀ b, start ≤ b → b < s.1 → ¬ InR F b) (start + n - start).toNat rfl ⟨by simp, by simp only; omega, rfl, fun b h1 h2 => by simp only at h2; omega⟩ ?_
  rintro m ⟨s1, u⟩ cc ⟨g1, g2, g3, g4⟩ hc
  simp only at g1 g2 g3 g4 ⊢
  (repeat' (first | with_reducible refine T_nn ?_ | with_reducible refine T_brD (fun _ => ?_) (fun _ => ?_)))
  · refine runs_Has_c ok (fun hin => ?_) (fun hin => ?_)
    · (repeat' (with_reducible refine T_brT ?_))
      exact htw e1 e2 e3 ⟨s1, g1, by omega, hin⟩
    · (repeat' (with_reducible refine T_brF ?_))
      rw [w64 (by omega) (by omega)]
      refine hc (start + n - (s1 + 1)).toNat (s1 + 1, ()) (by omega) ⟨by simp only; omega, by simp only; omega, rfl, fun b h1 h2 => ?_⟩
      by_cases e : b = s1
      · rw [e]; exact hin
      · exact g4 b h1 (by simp only at h2; omega)
  · have hs : s1 = start + n := by omega
    subst hs
    have hout := g4
    have hk := hk e1 e2 e3 hout
    clear hc htw g1 g2 g3 g4
    -- the end: what lies behind is joined, and all is one run
    have fin : ∀ G S N, RunsOk lim G → 1 ≤ S → 1 ≤ N → S + N ≤ lim → (∀ s m, G s = some m → s + m < S ∨ S + N ≤ s) → (∀ y, InR G y ∨ (S ≤ y ∧ y < S + N) ↔ InR F y ∨ (start ≤ y ∧ y < start + n)) →
        T B (R * Idx x lim G) (nn (some ⟨x, 0, none⟩) fun x73 => ldM (Addr.add x73 0) fun x75 => lkE Tryz.prog 3 (.int .i64 0) (.sc (.int .i64)) x75 (.int .i64 (S + N)) fun r ob x79 ok =>
          brK ok (c_runs_Index_drop (some ⟨x, 0, none⟩) (S + N) fun x87 => c_runs_Index_add (some ⟨x, 0, none⟩) S (IntKind.wrap .i64 (N + x79)) fun x94 => k 0) (c_runs_Index_add (some ⟨x, 0, none⟩) S N fun x94 => k 0)) := by
      intro G S N okG q1 q2 q3 q4 q5
      refine Idx_open fun r1 r2 E hE => ?_
      (repeat (first | with_reducible refine T_nn ?_ | ((with_reducible apply T_ldM); (focus rfl); (focus exact hasA); (focus rfl))))
      cases hg : G (S + N) with
      | none =>
        refine T_lkF (ek := ei) (ev := ei) kd_ii (r := r1) (f := G) (MHas.init (MHas.init (MHas.of .last))) 0 (by rw [hg]; rfl) fun ob => ?_
        rw [hg]
        simp only [Option.isSome_none]
        (repeat (with_reducible refine T_brF ?_))
        refine Idx_close hE ?_
        have q4' : ∀ s m, G s = some m → s + m < S ∨ S + N < s := by
          intro s m hs
          rcases q4 s m hs with h | h
          · exact .inl h
          · right
            rcases Int.lt_or_eq_of_le h with h | h
            · exact h
            · rw [← h, hg] at hs; cases hs
        obtain ⟨a1, a2, a3⟩ := okG.add q1 q2 q3 q4'
        refine runs_add_c a1 (fun s m hs => ?_) (by omega) (hk _ a2 fun y => (a3 y).trans (q5 y))
        have := q4' s m hs; have := okG.rng s m hs; omega
      | some q =>
        refine T_lkF (ek := ei) (ev := ei) kd_ii (r := r1) (f := G) (MHas.init (MHas.init (MHas.of .last))) q (by rw [hg]; rfl) fun ob => ?_
        rw [hg]
        simp only [Option.isSome_some]
        (repeat (with_reducible refine T_brT ?_))
        have hq := okG.rng _ _ hg
        refine Idx_close hE ?_
        refine runs_drop_c hg (by omega) ?_
        rw [w64 (by omega) (by omega)]
        have q4' : ∀ s m, delF G (S + N) s = some m → s + m < S ∨ S + (N + q) < s := by
          intro s m hs
          obtain ⟨hne, hs⟩ := delF_some hs
          rcases q4 s m hs with h | h
          · exact .inl h
          · right
            have := okG.sep _ _ _ _ hg hs (by omega); omega
        obtain ⟨a1, a2, a3⟩ := (okG.del (S + N)).add q1 (by omega) (by omega) q4'
        refine runs_add_c a1 (fun s m hs => ?_) (by omega) (hk _ a2 fun y => (a3 y).trans ?_)
        · have := q4' s m hs; have := (okG.del (S + N)).rng s m hs; omega
        · rw [← q5, InR_del okG hg]
          constructor
          · rintro (h | h)
            · exact .inl (.inl h)
            · by_cases hy : y < S + N
              · right; omega
              · left; right; omega
          · rintro ((h | h) | h)
            · exact .inl h
            · right; omega
            · right; omega
    refine Idx_open fun r1 r2 E hE => ?_
    (repeat (((with_reducible apply T_ldM); (focus rfl); (focus exact hasA); (focus rfl))))
    have apart : ∀ s m, F s = some m → s + m ≤ start ∨ start + n ≤ s := by
      intro s m hs
      have hr := ok.rng s m hs
      by_cases h1 : s + m ≤ start
      · exact .inl h1
      · by_cases h2 : start + n ≤ s
        · exact .inr h2
        · exfalso
          by_cases h3 : s ≤ start
          · exact hout start (by omega) (by omega) ⟨s, m, hs, h3, by omega⟩
          · exact hout s (by omega) (by omega) ⟨s, m, hs, by omega, by omega⟩
    cases he : E start with
    | none =>
      refine T_lkF (ek := ei) (ev := ei) kd_ii (r := r2) (f := E) (MHas.init (MHas.of .last)) 0 (by rw [he]; rfl) fun ob => ?_
      rw [he]
      simp only [Option.isSome_none]
      refine T_brF ?_
      refine Idx_close hE ?_
      refine fin F start n ok e1 e2 e3 (fun s m hs => ?_) (fun y => Iff.rfl)
      rcases apart s m hs with h | h
      · left
        rcases Int.lt_or_eq_of_le h with h | h
        · exact h
        · have := (hE start s).2 ⟨m, hs, h.symm⟩; rw [he] at this; cases this
      · exact .inr h
    | some s0 =>
      refine T_lkF (ek := ei) (ev := ei) kd_ii (r := r2) (f := E) (MHas.init (MHas.of .last)) s0 (by rw [he]; rfl) fun ob => ?_
      rw [he]
      simp only [Option.isSome_some]
      obtain ⟨n0, hf, hst⟩ := (hE start s0).1 he
      have hr := ok.rng _ _ hf
      (repeat (first | with_reducible refine T_nn ?_ | with_reducible refine T_brT ?_ | ((with_reducible apply T_ldM); (focus rfl); (focus exact hasA); (focus rfl))))
      refine T_lkF (ek := ei) (ev := ei) kd_ii (r := r1) (f := F) (MHas.init (MHas.init (MHas.of .last))) n0 (by rw [hf]; rfl) fun ob => ?_
      refine Idx_close hE ?_
      refine runs_drop_c hf (by omega) ?_
      rw [w64 (n := n + n0) (by omega) (by omega), w64 (n := s0 + (n + n0)) (by omega) (by omega)]
      refine fin (delF F s0) s0 (n + n0) (ok.del s0) (by omega) (by omega) (by omega) (fun s m hs => ?_) (fun y => ?_)
      · obtain ⟨hne, hs⟩ := delF_some hs
        rcases apart s m hs with h | h
        · left
          rcases Int.lt_or_gt_of_ne hne with g | g
          · exact ok.sep _ _ _ _ hs hf g
          · have := ok.sep _ _ _ _ hf hs g; have := ok.rng _ _ hs; omega
        · right; omega
      · rw [InR_del ok hf]
        constructor
        · rintro (h | h)
          · exact .inl (.inl h)
          · by_cases hy : y < start
            · left; right; omega
            · right; omega
        · rintro ((h | h) | h)
          · exact .inl h
          · right; omega
          · right; omega
end
def sumI : List (Int × Int) → Int | [] => 0 | p :: l => p.2 + sumI l
structure Sub (F : RF) (sn : List (Int × Int)) : Prop where
  nd : (sn.map (·.1)).Nodup
  mem : ∀ p ∈ sn, F p.1 = some p.2
theorem Sub.cons {F : RF} {sn : List (Int × Int)} (h : Sub F sn) {key v : Int} (hf : F key = some v) (hn : key ∉ sn.map (·.1)) : Sub F ((key, v) :: sn) :=
  ⟨by rw [List.map_cons, List.nodup_cons]; exact ⟨hn, h.nd⟩, fun p hp => by
    rcases List.mem_cons.1 hp with rfl | hp
    · exact hf
    · exact h.mem p hp⟩
theorem Sub.len {lim : Int} {F : RF} (ok : RunsOk lim F) {sn : List (Int × Int)} (h : Sub F sn) : (sn.length : Int) ≤ 2 ^ 20 := by
  have hB := ok.big
  have h1 : ((sn.map (·.1)).map Int.toNat).Nodup := by
    refine List.Pairwise.map _ (fun a b hab => ?_) (List.Pairwise.and_mem.1 h.nd)
    obtain ⟨ha, hb, hab⟩ := hab
    obtain ⟨p, hp, rfl⟩ := List.mem_map.1 ha
    obtain ⟨q, hq, rfl⟩ := List.mem_map.1 hb
    have := ok.rng _ _ (h.mem p hp)
    have := ok.rng _ _ (h.mem q hq)
    omega
  have := nodup_lt_len (2 ^ 20) _ h1 (fun x hx => by
    obtain ⟨a, ha, rfl⟩ := List.mem_map.1 hx
    obtain ⟨p, hp, rfl⟩ := List.mem_map.1 ha
    have := ok.rng _ _ (h.mem p hp)
    omega)
  simp only [List.length_map] at this
  omega
theorem Sub.sum {lim : Int} {F : RF} (ok : RunsOk lim F) {sn : List (Int × Int)} (h : Sub F sn) : 0 ≤ sumI sn ∧ sumI sn ≤ sn.length * 2 ^ 20 := by
  have hB := ok.big
  obtain ⟨h1, h2⟩ := h
  clear h1
  induction sn with
  | nil => simp [sumI]
  | cons p sn ih =>
    have := ih fun q hq => h2 q (by simp [hq])
    have := ok.rng _ _ (h2 p (by simp))
    simp only [sumI, List.length_cons]
    omega
section
variable {B : World} {P R : SL} {t : K}
theorem runs_Fill_c {lim : Int} (hlim : 0 ≤ lim) (hlim2 : lim ≤ 2 ^ 20) {s : Sl} {l : List (Int × Int)} (hr : Rd R s 2 (prs l)) (hl : l.length ≤ 2 ^ 30) (h1 : ∀ p ∈ l, 1 ≤ p.1 ∧ 1 ≤ p.2 ∧ p.1 + p.2 ≤ lim)
    (h2 : ∀ (i j : Nat) (p q : Int × Int), i < j → l[i]? = some p → l[j]? = some q → p.1 + p.2 ≤ q.1) {k : Option Addr × Int → K}
    (hk : ∀ x F, RunsOk lim F → (∀ y, InR F y ↔ ∃ p ∈ l, p.1 ≤ y ∧ y < p.1 + p.2) → T B (R * Idx x lim F) (k (da x, 0))) : T B R (c_runs_Fill lim s k) := by
  refine T_of (runs_Fill_ok lim s k) ?_
  refine T_rdlen hr fun hsn => ?_
  rw [prs_len] at hsn
  have hsl : s.n = l.length := by omega
  refine runs_New_c hlim fun x => ?_
  (dsimp only [runs_Fill, Zee0, Zee1, Zee2, Zee3, Zee4, Zee5, Zee6, Zee7, Zee8, Zee9, Zee10])
  refine T_lpW (fun _ z => ex fun F => R * Idx x lim F * pu (RunsOk lim F ∧ ∀ y, InR F y ↔ ∃ p ∈ l.take z.1.toNat, p.1 ≤ y ∧ y < p.1 + p.2)) (fun m (z : Int × Unit) => ∃ i : Nat, z.1 = i ∧ i ≤ l.length ∧ m = l.length - i) l.length (fun t ht => ?_) ⟨0, rfl, by omega, rfl⟩ ?_
  · intro w hw
    have h3 := Sat.puI (φ := RunsOk lim (fun _ => none) ∧ ∀ y, InR (fun _ => none) y ↔ ∃ p ∈ l.take (0 : Int).toNat, p.1 ≤ y ∧ y < p.1 + p.2) ⟨⟨hlim2, by simp, by simp⟩, fun y => by simp [InR]⟩ hw
    obtain ⟨⟨g, hg, hgb⟩, hkk⟩ := h3
    exact ht w ⟨⟨g, ⟨_, hg⟩, hgb⟩, hkk⟩
  rintro m ⟨z, u⟩ cc ⟨i, e1, e2, e3⟩ hc
  simp only at e1
  subst e1 e3
  simp only [Int.toNat_natCast]
  have key : ∀ F, RunsOk lim F → (∀ y, InR F y ↔ ∃ p ∈ l.take i, p.1 ≤ y ∧ y < p.1 + p.2) → T B (R * Idx x lim F) (brK (decide ((i : Int) < ((s.n : Nat) : Int))) (ixS s.p s.n i 2 fun x16 =>
      ldI .i64 (Addr.add x16 0) fun x17_0 => ldI .i64 (Addr.add x16 1) fun x17_1 => alK (.cells #[.int .i64 0, .int .i64 0] 152) fun b => stK (Addr.add ⟨b, 0, none⟩ 0) (.int .i64 x17_0) <| stK (Addr.add ⟨b, 0, none⟩ 1) (.int .i64 x17_1) <|
      ldI .i64 (Addr.add ⟨b, 0, none⟩ 0) fun x20 => ldI .i64 (Addr.add ⟨b, 0, none⟩ 1) fun x22 => c_runs_Index_Give (some ⟨x, 0, none⟩) x20 x22 fun x23 => brK (x23 != 0) (k (none, x23)) (cc (IntKind.wrap .i64 ((i : Int) + 1), ()))) (k (some ⟨x, 0, none⟩, 0))) := by
    intro F ok hF
    (repeat' (with_reducible refine T_brD (fun _ => ?_) (fun _ => ?_)))
    · have hlt : i < l.length := by omega
      refine T_ixP hr.init (by omega) (by rw [Int.toNat_natCast]; exact hlt) fun a ha => ?_
      simp only [Int.toNat_natCast] at ha
      refine T_ldAt ha rfl ?_
      refine T_ldAt ha rfl ?_
      (repeat (first | ((with_reducible apply T_ldI); (focus rfl); (focus exact hasA); (focus rfl)) | (with_reducible refine T_al ?_; intro _) | ((with_reducible apply T_st); (focus rfl); (focus exact updA); (focus simp); simp only [List.set, Nat.zero_add, Nat.reduceAdd])))
      rename_i b
      refine T_drop1 .last ?_
      have hp := h1 l[i] (List.getElem_mem hlt)
      refine runs_Give_c ok (by omega) (fun h => absurd hp h) (fun _ _ _ h => ?_) (fun _ _ _ _ F' ok' hF' => ?_)
      · exfalso
        obtain ⟨y, g1, g2, g3⟩ := h
        obtain ⟨p, hp2, g4, g5⟩ := (hF y).1 g3
        obtain ⟨j, hj, rfl⟩ := List.mem_iff_getElem.1 hp2
        simp only [List.length_take] at hj
        rw [List.getElem_take] at g4 g5
        have := h2 j i l[j] l[i] (by omega) (List.getElem?_eq_getElem (by omega)) (List.getElem?_eq_getElem hlt)
        omega
      · skip
        have hx := hc (l.length - (i + 1)) (IntKind.wrap .i64 ((i : Int) + 1), ()) (by omega) ⟨i + 1, w64 (by omega) (by omega), by omega, rfl⟩
        have e : (IntKind.wrap .i64 ((i : Int) + 1)).toNat = i + 1 := by rw [w64 (by omega) (by omega)]; omega
        simp only [e] at hx
        have hin : ∀ y, InR F' y ↔ ∃ p ∈ l.take (i + 1), p.1 ≤ y ∧ y < p.1 + p.2 := by
          intro y
          rw [hF', hF, List.take_succ_eq_append_getElem hlt]
          constructor
          · rintro (⟨p, hp, h⟩ | h)
            · exact ⟨p, List.mem_append.2 (.inl hp), h⟩
            · exact ⟨l[i], List.mem_append.2 (.inr (List.mem_singleton.2 rfl)), h⟩
          · rintro ⟨p, hp, h⟩
            rcases List.mem_append.1 hp with hp | hp
            · exact .inl ⟨p, hp, h⟩
            · simp only [List.mem_singleton] at hp; subst hp; exact .inr h
        intro w hw
        obtain ⟨⟨g, hg, hgb⟩, hkk⟩ := Sat.puI (φ := RunsOk lim F' ∧ ∀ y, InR F' y ↔ ∃ p ∈ l.take (i + 1), p.1 ≤ y ∧ y < p.1 + p.2) ⟨ok', hin⟩ hw
        exact T_brF hx w ⟨⟨g, ⟨F', hg⟩, hgb⟩, hkk⟩
    · have hi : i = l.length := by omega
      subst hi
      rw [List.take_length] at hF
      exact hk x F ok hF
  intro w hw
  obtain ⟨⟨g, ⟨F, hg⟩, hgb⟩, hkk⟩ := hw
  have k2 : T B (R * Idx x lim F * pu (RunsOk lim F ∧ ∀ y, InR F y ↔ ∃ p ∈ l.take i, p.1 ≤ y ∧ y < p.1 + p.2)) _ := T_pu fun h => key F h.1 h.2
  exact k2 w ⟨⟨g, hg, hgb⟩, hkk⟩
end
/-- a large object's headers stand from a block on -/
def WholeP (hs : List Hd) (b n : Nat) : Prop := 1 ≤ n ∧ b + n ≤ hs.length ∧ (hs.getD b (0, 0, 0)).1 = 2 ∧ (hs.getD b (0, 0, 0)).2.2 = n ∧ ∀ i : Nat, 1 ≤ i → i < n → hs.getD (b + i) (0, 0, 0) = (3, 0, (i : Int))
theorem WholeP.uniq {hs : List Hd} {b n n' : Nat} (h : WholeP hs b n) (h' : WholeP hs b n') : n = n' := by
  have := h.2.2.2.1
  have := h'.2.2.2.1
  omega
theorem getD_eq {α : Type} {l : List α} {i : Nat} (h : i < l.length) (d : α) : l.getD i d = l[i] := by
  rw [List.getD_eq_getElem?_getD, List.getElem?_eq_getElem h]; rfl
/-- headers of a large object of so many blocks -/
def runH (n : Nat) : List Hd := (List.range n).map fun (i : Nat) => if i = 0 then ((2, 0, (n : Int)) : Hd) else (3, 0, (i : Int))
theorem runH_len (n : Nat) : (runH n).length = n := by simp [runH]
theorem runH_get (n : Nat) {i : Nat} (h : i < n) : (runH n)[i]? = some (if i = 0 then (2, 0, (n : Int)) else (3, 0, (i : Int))) := by
  simp [runH, h]
theorem hds_drop (l : List Hd) (o : Nat) : (hds l).drop (o * 3) = hds (l.drop o) := by
  induction l generalizing o with
  | nil => simp [hds]
  | cons h l ih =>
    cases o with
    | zero => rfl
    | succ o => rw [List.drop_succ_cons, ← ih, hds_cons, show (o + 1) * 3 = o * 3 + 1 + 1 + 1 by omega]; rfl
theorem hds_take (l : List Hd) (o : Nat) : (hds l).take (o * 3) = hds (l.take o) := by
  induction l generalizing o with
  | nil => simp [hds]
  | cons h l ih =>
    cases o with
    | zero => simp [hds]
    | succ o => rw [List.take_succ_cons, hds_cons, hds_cons, ← ih, show (o + 1) * 3 = o * 3 + 1 + 1 + 1 by omega]; rfl
section
variable {B : World} {P R : SL} {t : K}
theorem bhead_Whole_c {hs : List Hd} {x : Sl} {b : Int} (hl2 : hs.length ≤ 2 ^ 30) (hb : -9223372036854775808 ≤ b ∧ b ≤ 9223372036854775807) (hx : Rd P x 3 (hds hs)) {k : Int × Bool → K}
    (h1 : ∀ bb n : Nat, b = bb → WholeP hs bb n → T B P (k ((n : Int), true))) (h0 : (∀ bb n : Nat, b = bb → ¬ WholeP hs bb n) → T B P (k (0, false))) : T B P (c_bhead_Whole x b k) := by
  refine T_of (bhead_Whole_ok x b k) ?_
  refine T_rdlen hx fun hxn => ?_
  rw [hds_len] at hxn
  have hxl : x.n = hs.length := by omega
  (repeat' (first | with_reducible refine T_brT ?_ | with_reducible refine T_brD (fun _ => ?_) (fun _ => ?_)))
  · refine h0 fun bb n e h => ?_; omega
  · refine h0 fun bb n e h => ?_; have := h.2.1; have := h.1; omega
  obtain ⟨bb, rfl⟩ := Int.eq_ofNat_of_zero_le (show 0 ≤ b by omega)
  have hlt : bb < hs.length := by omega
  refine T_ixH (l := hs) hx (by omega) (by rw [Int.toNat_natCast]; exact hlt) fun a ha => ?_
  simp only [Int.toNat_natCast] at ha
  refine T_ldAt ha rfl ?_
  (repeat' (with_reducible refine T_brNE (fun _ => ?_) (fun _ => ?_)))
  · rename_i hne
    refine h0 fun bb' n e h => ?_
    have : bb' = bb := by omega
    subst this
    have := h.2.2.1
    rw [getD_eq hlt] at this
    exact hne this
  rename_i hk2
  refine T_ixH (l := hs) hx (by omega) (by rw [Int.toNat_natCast]; exact hlt) fun a2 ha2 => ?_
  simp only [Int.toNat_natCast] at ha2
  refine T_ldAt ha2 rfl ?_
  have hno : ∀ m : Int, hs[bb].2.2 = m → (∀ n : Nat, m = n → ¬ WholeP hs bb n) → T B P (k (0, false)) := fun m hm h => h0 fun bb' n e hw => by
    have : bb' = bb := by omega
    subst this
    have := hw.2.2.2.1
    rw [getD_eq hlt] at this
    exact h n (by omega) hw
  (repeat' (first | with_reducible refine T_brT ?_ | with_reducible refine T_brD (fun _ => ?_) (fun _ => ?_)))
  · exact hno _ rfl fun n e hw => by have := hw.1; omega
  · rename_i hgt
    rw [w64 (by omega) (by omega)] at hgt
    exact hno _ rfl fun n e hw => by have := hw.2.1; omega
  rename_i hn1 hn2
  rw [w64 (by omega) (by omega)] at hn2
  obtain ⟨n, hn⟩ := Int.eq_ofNat_of_zero_le (show 0 ≤ hs[bb].2.2 by omega)
  (dsimp only [bhead_Whole, Zak0, Zak1, Zak2, Zak3, Zak4, Zak5, Zak6, Zak7, Zak8, Zak9, Zak10, Zak11, Zak12, Zak13])
  rw [hn]
  refine T_lpX (fun _ _ => P) (fun m (z : Int × Unit) => ∃ i : Nat, z.1 = i ∧ 1 ≤ i ∧ i ≤ n ∧ m = n - i ∧ ∀ j : Nat, 1 ≤ j → j < i → hs.getD (bb + j) (0, 0, 0) = (3, 0, (j : Int))) (n - 1) rfl ⟨1, rfl, by omega, by omega, rfl, fun j h1 h2 => by omega⟩ ?_
  rintro m ⟨z, u⟩ cc ⟨i, e1, e2, e3, e4, e5⟩ hc
  simp only at e1
  subst e1 e4
  (repeat' (with_reducible refine T_brD (fun _ => ?_) (fun _ => ?_)))
  · have hlt2 : bb + i < hs.length := by omega
    have ew : IntKind.wrap .i64 ((bb : Int) + i) = ((bb + i : Nat) : Int) := by rw [w64 (by omega) (by omega)]; omega
    rw [ew]
    refine T_ixH (l := hs) hx (by omega) (by rw [Int.toNat_natCast]; exact hlt2) fun a3 ha3 => ?_
    simp only [Int.toNat_natCast] at ha3
    refine T_ldAt ha3 rfl ?_
    refine T_ldAt ha3 rfl ?_
    refine T_ldAt ha3 rfl ?_
    by_cases hq : hs[bb + i] = (3, 0, (i : Int))
    · have : (!(hs[bb + i].1 == 3 && (hs[bb + i].2.1 == 0 && (hs[bb + i].2.2 == (i : Int) && true)))) = false := by rw [hq]; simp
      rw [this]
      (repeat (with_reducible refine T_brF ?_))
      rw [w64 (by omega) (by omega)]
      refine hc (n - (i + 1)) ((i : Int) + 1, ()) (by omega) ⟨i + 1, by simp, by omega, by omega, rfl, fun j g1 g2 => ?_⟩
      by_cases hj : j = i
      · subst hj; rw [getD_eq hlt2]; exact hq
      · exact e5 j g1 (by omega)
    · have : (!(hs[bb + i].1 == 3 && (hs[bb + i].2.1 == 0 && (hs[bb + i].2.2 == (i : Int) && true)))) = true := by
        cases hc2 : (hs[bb + i].1 == 3 && (hs[bb + i].2.1 == 0 && (hs[bb + i].2.2 == (i : Int) && true))) with
        | false => rfl
        | true =>
          simp only [Bool.and_eq_true, beq_iff_eq, Bool.and_true] at hc2
          exact absurd (Prod.ext hc2.1 (Prod.ext hc2.2.1 hc2.2.2)) hq
      rw [this]
      (repeat (with_reducible refine T_brT ?_))
      refine hno n hn fun n' e hw => ?_
      have := hw.2.2.2.2 i e2 (by omega)
      rw [getD_eq hlt2] at this
      exact hq this
  · have hi : i = n := by omega
    subst hi
    exact h1 bb i rfl ⟨by omega, by omega, by rw [getD_eq hlt]; exact hk2, by rw [getD_eq hlt]; exact hn, e5⟩
theorem bhead_Run_c {n : Nat} (hn : n ≤ 2 ^ 30) {k : Sl → K} (hk : ∀ s, T B (R * vec 143 3 s (hds (runH n))) (k s)) : T B R (c_bhead_Run n k) := by
  refine T_of (bhead_Run_ok _ k) ?_
  (dsimp only [bhead_Run, Zbb0, Zbb1, Zbb2, Zbb3, Zbb4, Zbb5, Zbb6, Zbb7, Zbb8, Zbb9, Zbb10])
  refine T_vecN (E := 143) (sz := 3) (s := ⟨none, 0, 0⟩) rfl rfl ?_
  have e0 : ∀ i : Nat, i ≤ n → (runH n).take i = (List.range i).map fun (i : Nat) => if i = 0 then ((2, 0, (n : Int)) : Hd) else (3, 0, (i : Int)) := by
    intro i hi
    unfold runH
    rw [← List.map_take, List.take_range, Nat.min_eq_left hi]
  refine T_lpX (fun _ s => R * vec 143 3 s.1 (hds ((runH n).take s.2.1.toNat))) (fun m (s : Sl × Int × Unit) => ∃ i : Nat, i ≤ n ∧ s.2.1 = i ∧ m = n - i) n rfl ⟨0, by omega, rfl, by omega⟩ ?_
  rintro m ⟨out, s1, u⟩ cc ⟨i, h1, h2, h3⟩ hc
  simp only at h2
  subst h2 h3
  simp only [Int.toNat_natCast]
  have hnext : ∀ s', i < n → T B (R * vec 143 3 s' (hds ((runH n).take i ++ [if i = 0 then ((2, 0, (n : Int)) : Hd) else (3, 0, (i : Int))]))) (cc (s', IntKind.wrap .i64 ((i : Int) + 1), ())) := by
    intro s' hlt
    have := hc (n - (i + 1)) (s', IntKind.wrap .i64 ((i : Int) + 1), ()) (by omega) ⟨i + 1, by omega, w64 (by omega) (by omega), rfl⟩
    have e : (IntKind.wrap .i64 ((i : Int) + 1)).toNat = i + 1 := by rw [w64 (by omega) (by omega)]; omega
    simp only [e] at this
    rw [e0 (i + 1) (by omega), List.range_succ, List.map_append, ← e0 i h1] at this
    exact this
  have hlen : (hds ((runH n).take i)).length / 3 + 1 ≤ 2 ^ 40 := by rw [hds_len]; simp [runH_len]; omega
  (repeat' (first | (with_reducible refine T_al ?_; intro _) | with_reducible refine T_brD (fun _ => ?_) (fun _ => ?_) | with_reducible refine T_brE (fun _ => ?_) (fun _ => ?_)))
  · rename_i b hlt heq
    have hi : i = 0 := by omega
    refine T_app1b (vs := hds ((runH n).take i)) (new := [.int .i64 2, .int .i64 0, .int .i64 n]) kd_hd rfl rfl hlen fun s' => ?_
    have := hnext s' (by omega)
    rw [hds_append, if_pos hi] at this
    exact this
  · rename_i b hlt hne
    have hi : i ≠ 0 := by omega
    refine T_app1b (vs := hds ((runH n).take i)) (new := [.int .i64 3, .int .i64 0, .int .i64 i]) kd_hd rfl rfl hlen fun s' => ?_
    have := hnext s' (by omega)
    rw [hds_append, if_neg hi] at this
    exact this
  · have hi : i = n := by omega
    subst hi
    rw [List.take_of_length_le (by rw [runH_len]; omega)]
    exact hk out
end
theorem splice_get? {α : Type} {l new : List α} {o : Nat} (h : o + new.length ≤ l.length) (i : Nat) : (splice l o new)[i]? = if o ≤ i ∧ i < o + new.length then new[i - o]? else l[i]? := by
  unfold splice
  have e1 : (l.take o).length = o := by simp; omega
  by_cases h1 : i < o
  · rw [if_neg (by omega), List.append_assoc, List.getElem?_append_left (by omega), List.getElem?_take_of_lt h1]
  · by_cases h2 : i < o + new.length
    · rw [if_pos ⟨by omega, h2⟩, List.append_assoc, List.getElem?_append_right (by omega), e1, List.getElem?_append_left (by omega)]
    · rw [if_neg (by omega), List.getElem?_append_right (by simp; omega), List.getElem?_drop]
      congr 1; simp; omega
theorem splice_getD {α : Type} {l new : List α} {o : Nat} (h : o + new.length ≤ l.length) (i : Nat) (d : α) : (splice l o new).getD i d = if o ≤ i ∧ i < o + new.length then new.getD (i - o) d else l.getD i d := by
  rw [List.getD_eq_getElem?_getD, splice_get? h]
  split <;> rw [List.getD_eq_getElem?_getD]
theorem splice_two {α : Type} {l xs : List α} {b : Nat} {x : α} (h : b + (xs.length + 1) ≤ l.length) : splice (splice l b [x]) (b + 1) xs = splice l b (x :: xs) := by
  have h1 : (splice l b [x]).length = l.length := splice_length (by simp; omega)
  apply List.ext_getElem?
  intro i
  rw [splice_get? (by rw [h1]; omega), splice_get? (by simp; omega), splice_get? (by simp; omega)]
  simp only [List.length_cons, List.length_nil]
  by_cases e : i = b
  · subst e; rw [if_neg (by omega), if_pos (by omega), if_pos (by omega)]; simp
  · by_cases e2 : b + 1 ≤ i ∧ i < b + 1 + xs.length
    · rw [if_pos e2, if_pos (by omega), show i - b = (i - (b + 1)) + 1 by omega, List.getElem?_cons_succ]
    · rw [if_neg e2, if_neg (by omega), if_neg (by omega)]
theorem splice_two' {α : Type} {l xs : List α} {b : Nat} {x : α} (h : b + (xs.length + 1) ≤ l.length) : splice (splice l (b + 1) xs) b [x] = splice l b (x :: xs) := by
  have h1 : (splice l (b + 1) xs).length = l.length := splice_length (by omega)
  apply List.ext_getElem?
  intro i
  rw [splice_get? (by rw [h1]; simp; omega), splice_get? (by omega), splice_get? (by simp; omega)]
  simp only [List.length_cons, List.length_nil]
  by_cases e : i = b
  · subst e; rw [if_pos (by omega), if_pos (by omega)]; simp
  · by_cases e2 : b + 1 ≤ i ∧ i < b + 1 + xs.length
    · rw [if_neg (by omega), if_pos e2, if_pos (by omega), show i - b = (i - (b + 1)) + 1 by omega, List.getElem?_cons_succ]
    · rw [if_neg (by omega), if_neg e2, if_neg (by omega)]
theorem wrH_two (xs : List Hd) (x : Hd) (c : List Int) (b : Nat) : wrH (wrH c (b + 1) xs) b [x] = wrH c b (x :: xs) := by
  show (wrH c (b + 1) xs).set (256 + b) (benc b x) = wrH (c.set (256 + b) (benc b x)) (b + 1) xs
  apply List.ext_getElem?
  intro i
  rw [List.getElem?_set, wrH_get, wrH_get, wrH_length, List.length_set, List.getElem?_set]
  by_cases e : 256 + b = i
  · subst e
    rw [if_pos rfl, if_pos rfl]
    by_cases h : 256 + b < c.length
    · rw [if_pos h, if_pos (by omega)]
    · rw [if_neg h, if_pos (by omega)]
  · rw [if_neg e, if_neg e]
structure Tie (g : Nat) (hs : List Hd) (F : RF) : Prop where
  ok : RunsOk g F
  len : hs.length = g
  two : 2 ≤ g
  fr : ∀ b : Int, InR F b ↔ 1 ≤ b ∧ b < g ∧ (hs.getD b.toNat (0, 0, 0)).1 = 0
theorem Tie.big {g : Nat} {hs : List Hd} {F : RF} (h : Tie g hs F) : g ≤ 2 ^ 20 := by have := h.ok.big; omega
theorem Tie.fr_of {g : Nat} {hs : List Hd} {F : RF} (h : Tie g hs F) {s q : Int} (hs' : F s = some q) : ∃ b : Nat, s = b ∧ 1 ≤ b ∧ 1 ≤ q ∧ s + q ≤ g := by
  have := h.ok.rng _ _ hs'
  exact ⟨s.toNat, by omega, by omega, by omega, by omega⟩
theorem Tie.take {g : Nat} {hs : List Hd} {F : RF} (h : Tie g hs F) {b : Nat} {q : Int} {xs : List Hd} (hf : F b = some q) (h1 : 1 ≤ xs.length) (h2 : (xs.length : Int) ≤ q) (h3 : ∀ x ∈ xs, x.1 ≠ 0) :
    Tie g (splice hs b xs) (takeF F b xs.length q) := by
  have hr := h.ok.rng _ _ hf
  have hl := h.len
  have hfit : b + xs.length ≤ hs.length := by omega
  refine ⟨h.ok.take hf (by omega) h2, by rw [splice_length hfit]; exact hl, h.two, fun y => ?_⟩
  rw [InR_take h.ok hf (by omega) h2, h.fr, splice_getD hfit]
  by_cases e : b ≤ y.toNat ∧ y.toNat < b + xs.length ∧ 0 ≤ y
  · rw [if_pos ⟨e.1, e.2.1⟩]
    have hm := h3 _ (getD_mem (d := (0, 0, 0)) (show y.toNat - b < xs.length by omega))
    constructor
    · rintro ⟨_, h⟩; omega
    · rintro ⟨_, _, h⟩; exact absurd h hm
  · constructor
    · rintro ⟨⟨a1, a2, a3⟩, _⟩; exact ⟨a1, a2, by rw [if_neg (by omega)]; exact a3⟩
    · rintro ⟨a1, a2, a3⟩; rw [if_neg (by omega)] at a3; exact ⟨⟨a1, a2, a3⟩, by omega⟩
theorem Tie.give {g : Nat} {hs : List Hd} {F F' : RF} (h : Tie g hs F) {b n : Nat} (hb : 1 ≤ b) (hn : b + n ≤ g) (ok : RunsOk g F') (hF : ∀ y, InR F' y ↔ InR F y ∨ ((b : Int) ≤ y ∧ y < b + n)) :
    Tie g (splice hs b (List.replicate n (0, 0, 0))) F' := by
  have hl := h.len
  have hfit : b + (List.replicate n ((0, 0, 0) : Hd)).length ≤ hs.length := by simp; omega
  refine ⟨ok, by rw [splice_length hfit]; exact hl, h.two, fun y => ?_⟩
  rw [hF, h.fr, splice_getD hfit, List.length_replicate]
  by_cases e : b ≤ y.toNat ∧ y.toNat < b + n ∧ 0 ≤ y
  · rw [if_pos ⟨e.1, e.2.1⟩]
    have : (List.replicate n ((0, 0, 0) : Hd)).getD (y.toNat - b) (0, 0, 0) = (0, 0, 0) := by rw [List.getD_eq_getElem?_getD, List.getElem?_replicate]; split <;> rfl
    rw [this]
    constructor
    · rintro (h | h)
      · exact ⟨h.1, h.2.1, rfl⟩
      · exact ⟨by omega, by omega, rfl⟩
    · intro _; right; omega
  · constructor
    · rintro (⟨a1, a2, a3⟩ | h)
      · exact ⟨a1, a2, by rw [if_neg (by omega)]; exact a3⟩
      · omega
    · rintro ⟨a1, a2, a3⟩; rw [if_neg (by omega)] at a3; exact .inl ⟨a1, a2, a3⟩
/-- the headers of blocks last as they are -/
def HLs (n : Nat) (c la : List Int) : Prop := ∀ i : Nat, 257 ≤ i → i < 256 + n / 64 → la[i]? = c[i]?
theorem HLs.put {n g b : Nat} {c la la' : List Int} {xs : List Hd} (hn : n = 64 * g) (h : HLs n c la) (hp : Pst n ((256 + (b : Int)) / 8).toNat (((256 + (b : Int)) + xs.length - 1) / 8 + 1).toNat (wrH c b xs) la la') : HLs n (wrH c b xs) la' := by
  intro i h1 h2
  have h0 := h i h1 h2
  have hl := hp.2 (i / 8) (by omega)
  have e : ∀ L : List Int, L[i]? = (ln L (i / 8))[i % 8]? := by
    intro L
    unfold ln
    rw [cut_get (by omega)]; congr 1; omega
  rw [e la', hl]
  split
  · exact (e _).symm
  · rw [← e la, h0, wrH_get, if_pos]
    omega
/-- a live device; what lasts is its headers, as they are -/
def LDx (d n : Nat) (c : List Int) : SL := ex fun la => LDev d n c la * pu (HLs n c la)
def Mg (m d g : Nat) (hs : List Hd) (F : RF) : SL := ex fun q : Nat × Nat => Tab q.1 d g hs * Idx q.2 g F * pt m (.cells [.pointer (da q.1), .pointer (da q.2), .int .i64 g].toArray 51) * pu (Tie g hs F)
section
variable {B : World} {P R : SL} {t : K}
theorem LDx_open {d n : Nat} {c : List Int} (h : ∀ la, HLs n c la → T B (R * LDev d n c la) t) : T B (R * LDx d n c) t := by
  refine T_ex fun la => ?_
  rw [← sep_assoc]
  exact T_pu fun hl => h la hl
theorem LDx_close {d n : Nat} {c la : List Int} (hl : HLs n c la) (h : T B (R * LDx d n c) t) : T B (R * LDev d n c la) t := by
  refine T_puI hl ?_
  rw [sep_assoc]
  exact T_exI la h
theorem Mg_open {m d g : Nat} {hs : List Hd} {F : RF} (h : ∀ a x, Tie g hs F → T B (R * Tab a d g hs * Idx x g F * pt m (.cells [.pointer (da a), .pointer (da x), .int .i64 g].toArray 51)) t) : T B (R * Mg m d g hs F) t := by
  refine T_ex fun q => ?_
  rw [← sep_assoc]
  refine T_pu fun ok => T.perm ?_ (h q.1 q.2 ok)
  simp only [sep_assoc]
theorem Mg_close {m d g a x : Nat} {hs : List Hd} {F : RF} (ok : Tie g hs F) (h : T B (R * Mg m d g hs F) t) : T B (R * Tab a d g hs * Idx x g F * pt m (.cells [.pointer (da a), .pointer (da x), .int .i64 g].toArray 51)) t := by
  have h2 := T_exI (B := B) (R := R) (t := t) (X := fun q : Nat × Nat => Tab q.1 d g hs * Idx q.2 g F * pt m (.cells [.pointer (da q.1), .pointer (da q.2), .int .i64 g].toArray 51) * pu (Tie g hs F)) (a, x) h
  rw [← sep_assoc] at h2
  refine T.perm ?_ (T_puI ok h2)
  simp only [sep_assoc]
theorem Mg_tie {m d g : Nat} {hs : List Hd} {F : RF} (h : Tie g hs F → T B (R * Mg m d g hs F) t) : T B (R * Mg m d g hs F) t := by
  refine Mg_open fun a x ok => Mg_close ok (h ok)
theorem bman_Geometry_c {m d g : Nat} {hs : List Hd} {F : RF} {k : Int → K} (hk : T B (R * Mg m d g hs F) (k (g : Int))) : T B (R * Mg m d g hs F) (c_bman_Manager_Geometry (da m) k) := by
  refine T_of (bman_Manager_Geometry_ok _ k) ?_
  refine Mg_open fun a x ok => ?_
  unfold da
  (repeat (first | with_reducible refine T_nn ?_ | ((with_reducible apply T_ldI); (focus rfl); (focus exact hasA); (focus rfl)) | (with_reducible refine T_al ?_; intro _) | ((with_reducible apply T_st); (focus rfl); (focus exact updA); (focus simp); simp only [List.set, Nat.zero_add, Nat.reduceAdd])))
  refine T.weak ?_
  exact Mg_close ok hk
theorem Mgd_close {m d n g a x : Nat} {hs : List Hd} {F : RF} {c la : List Int} (hla : HLs n c la) (ok : Tie g hs F) (h : T B (R * LDx d n c * Mg m d g hs F) t) : T B (R * LDev d n c la * Tab a d g hs * Idx x g F * pt m (.cells [.pointer (da a), .pointer (da x), .int .i64 g].toArray 51)) t := by
  have h2 : T B (R * Tab a d g hs * Idx x g F * pt m (.cells [.pointer (da a), .pointer (da x), .int .i64 g].toArray 51) * LDx d n c) t := T.perm (by ac_rfl) (Mg_close (a := a) (x := x) ok h)
  exact T.perm (by ac_rfl) (LDx_close (la := la) hla h2)
theorem bman_Small_c {m d n g : Nat} {hs : List Hd} {F : RF} {c : List Int} {kk : Int} (hn : n = 64 * g) (hkk : 0 ≤ kk ∧ kk < 32) {k : Int × Int → K}
    (h0 : (∀ s q, F s = some q → q < 1) → T B (R * LDx d n c * Mg m d g hs F) (k (0, 4)))
    (h1 : ∀ (b : Nat) (q : Int), F b = some q → 1 ≤ b → b < g → 1 ≤ q → T B (R * LDx d n (wrH c b [(1, kk, 0)]) * Mg m d g (splice hs b [(1, kk, 0)]) (takeF F b 1 q)) (k (b, 0))) :
    T B (R * LDx d n c * Mg m d g hs F) (c_bman_Manager_Small (da m) kk k) := by
  refine T_of (bman_Manager_Small_ok _ kk k) ?_
  refine Mg_open fun a x ok => ?_
  (repeat (first | ((with_reducible apply T_ldI); (focus rfl); (focus exact hasA); (focus rfl)) | (with_reducible refine T_al ?_; intro _) | ((with_reducible apply T_st); (focus rfl); (focus exact updA); (focus simp); simp only [List.set, Nat.zero_add, Nat.reduceAdd])))
  refine bhead_Right_c ?_
  have hr : hRight (1, kk, 0) := by unfold hRight; right; left; exact ⟨rfl, hkk.1, hkk.2, rfl⟩
  rw [decide_eq_true hr]
  unfold da
  simp only [Bool.not_true]
  (repeat (first | with_reducible refine T_nn ?_ | with_reducible refine T_brF ?_ | ((with_reducible apply T_ldP); (focus rfl); (focus exact hasA); (focus rfl))))
  rename_i b2
  refine T_bring (X := LDx d n c) (.init (.init (.init (.init .last)))) ?_
  refine LDx_open fun la hla => ?_
  refine T_bring (X := Idx x g F) (.init (.init (.init .last))) ?_
  have hg := ok.big
  have hg2 := ok.two
  refine runs_Take_c ok.ok (by omega) (fun hno => ?_) (fun s q hs1 hs2 hs3 => ?_)
  · (repeat' (first | with_reducible refine T_nn ?_ | with_reducible refine T_tick ?_ | ((with_reducible apply T_ldI); (focus rfl); (focus exact hasA); (focus rfl)) | ((with_reducible apply T_ldP); (focus rfl); (focus exact hasA); (focus rfl)) | (with_reducible refine T_al ?_; intro _) | with_reducible refine T_brNE (fun _ => ?_) (fun _ => ?_)))
    · refine T_drop1 (.init (.init .last)) ?_
      exact T.perm (by unfold da; ac_rfl) (Mgd_close (la := la) (a := a) (x := x) (R := R) hla ok (h0 hno))
    · rename_i h b1; exact absurd h (by decide)
  · obtain ⟨b, rfl, r1, r2, r3⟩ := ok.fr_of hs1
    (repeat' (first | with_reducible refine T_nn ?_ | with_reducible refine T_tick ?_ | ((with_reducible apply T_ldI); (focus rfl); (focus exact hasA); (focus rfl)) | ((with_reducible apply T_ldP); (focus rfl); (focus exact hasA); (focus rfl)) | (with_reducible refine T_al ?_; intro _) | with_reducible refine T_brNE (fun _ => ?_) (fun _ => ?_)))
    · rename_i h; exact absurd rfl h
    rename_i b1
    refine T_bring (X := LDev d n c la) (.init (.init .last)) ?_
    refine T_bring (X := Tab a d g hs) (.init (.init (.init (.init (.init .last))))) ?_
    refine blocks_Put_c (xs := [(1, kk, 0)]) ok.two ok.big hn ok.len r1 (by simp; omega) (by simp) (by simp [hr]) (Rd.one (n := 1) (c := 1) (l := [.int .i64 1, .int .i64 kk, .int .i64 0]) (by exact hasA) rfl (by omega)) fun la' hp => ?_
    (repeat' (with_reducible refine T_brNE (fun _ => ?_) (fun _ => ?_)))
    · rename_i h; exact absurd rfl h
    have ok' := ok.take (b := b) (xs := [(1, kk, 0)]) hs1 (by simp) (by simp; omega) (by simp)
    refine T_drop1 (.init (.init .last)) ?_
    refine T_drop1 (.init (.init (.init .last))) ?_
    exact T.perm (by unfold da; ac_rfl) (Mgd_close (la := la') (a := a) (x := x) (R := R) (hla.put hn hp) ok' (h1 b q hs1 r1 (by omega) r2))
end
end Go.Proofs.YtdgcbapclnnkkaaGreat.X
