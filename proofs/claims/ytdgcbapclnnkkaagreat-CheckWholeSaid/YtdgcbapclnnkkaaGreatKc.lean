/- Part 3 of the proof that the law holds for every input: the theorems of this part. Conditions: each theorem bears its own; the last has none. -/
import Derived.Test.YtdgcbapclnnkkaaGreatKb
set_option linter.all false
set_option maxRecDepth 4000
namespace Go.Proofs.YtdgcbapclnnkkaaGreat.X
open Go
section
set_option maxRecDepth 100000
abbrev Zda0 (k : ((List Value) → K)) (x6 : Addr) : K :=
  ldBlob x6 7 fun x6_1 =>
  k x6_1
abbrev Zda1 (k : ((List Value) → K)) (x6 : Addr) (x7 : Addr) : K :=
  ldBlob x7 7 fun x105 =>
  semU Tryz.prog (Instr.storeAt 97 (.pointer (some x6)) (.agg x105.toArray)) <|
  Zda0 k x6
abbrev Zda2 (x7 : Addr) (x10_1 : Int) (c : ((Int × Unit) → K)) (x11 : Addr) : K :=
  tick fun _ =>
  ixA x7 7 6 1 fun x96 =>
  ldI .i64 x96 fun x97 =>
  ldI .i64 (x11.add 0) fun x98_0 =>
  ldI .i64 (x11.add 1) fun x98_1 =>
  ldI .i64 (x11.add 0) fun x101_0 =>
  ldI .i64 (x11.add 1) fun x101_1 =>
  c_ref16_Room (x98_0, x98_1) fun x99 =>
  chk [.cell (x11.add 0) (.int .i64 x101_0), .cell (x11.add 1) (.int .i64 x101_1), .cell x96 (.int .i64 x97)] fun _ =>
  c_ref08_Size (x101_0, x101_1) fun x102 =>
  chk [.cell x96 (.int .i64 x97)] fun _ =>
  ixA x7 7 6 1 fun x104 =>
  stK (x104.add 0) (.int .i64 (IntKind.wrap .i64 ((IntKind.wrap .i64 (x97 + x99)) - x102))) <|
  c ((IntKind.wrap .i64 (x10_1 + 1)), ())
abbrev Zda3 (x7 : Addr) (x10_1 : Int) (c : ((Int × Unit) → K)) (x11 : Addr) : K :=
  tick fun _ =>
  ixA x7 7 4 1 fun x90 =>
  ldI .i64 x90 fun x91 =>
  ldI .i64 (x11.add 0) fun x92_0 =>
  ldI .i64 (x11.add 1) fun x92_1 =>
  c_ref08_Size (x92_0, x92_1) fun x93 =>
  chk [.cell x90 (.int .i64 x91)] fun _ =>
  ixA x7 7 4 1 fun x95 =>
  stK (x95.add 0) (.int .i64 (IntKind.wrap .i64 (x91 + x93))) <|
  Zda2 x7 x10_1 c x11
abbrev Zda4 (x7 : Addr) (x10_1 : Int) (c : ((Int × Unit) → K)) (x11 : Addr) : K :=
  ixA x7 7 3 1 fun x86 =>
  ldI .i64 x86 fun x87 =>
  ixA x7 7 3 1 fun x89 =>
  stK (x89.add 0) (.int .i64 (IntKind.wrap .i64 (x87 + 1))) <|
  Zda3 x7 x10_1 c x11
abbrev Zda5 (x2 : Sl) (x3 : Addr) (x7 : Addr) (x10_1 : Int) (c : ((Int × Unit) → K)) : K :=
  tick fun _ =>
  ldS (x3.add 0) fun x78_0 =>
  ldS (x3.add 1) fun x78_1 =>
  ldS (x3.add 2) fun x78_2 =>
  ldS (x3.add 3) fun x78_3 =>
  ldS (x3.add 4) fun x78_4 =>
  ldI .i64 (x3.add 5) fun x78_5 =>
  ldI .i64 (x3.add 6) fun x78_6 =>
  ldB (x3.add 7) fun x78_7 =>
  ixS x2.p x2.n x10_1 1 fun x81 =>
  ldI .i64 x81 fun x82 =>
  andK
  (c_ref15_Head (x78_0, (x78_1, (x78_2, (x78_3, (x78_4, (x78_5, (x78_6, x78_7))))))) x82 fun x83 =>
  alK (.cells #[.int .i64 0, .int .i64 0] 74) fun b =>
  stK (Addr.add ⟨b, 0, none⟩ 0) (.int .i64 x83.1.1) <|
  stK (Addr.add ⟨b, 0, none⟩ 1) (.int .i64 x83.1.2) <|
  Zda4 x7 x10_1 c ⟨b, 0, none⟩)
  (andK
  (alK (.cells #[.int .i64 0, .int .i64 0] 74) fun b_1 =>
  c_ref15_Head (x78_0, (x78_1, (x78_2, (x78_3, (x78_4, (x78_5, (x78_6, x78_7))))))) x82 fun x83_1 =>
  stK (Addr.add ⟨b_1, 0, none⟩ 0) (.int .i64 x83_1.1.1) <|
  stK (Addr.add ⟨b_1, 0, none⟩ 1) (.int .i64 x83_1.1.2) <|
  Zda4 x7 x10_1 c ⟨b_1, 0, none⟩)
  ((fun _ => True)))
abbrev Zda6 (x2 : Sl) (k : ((List Value) → K)) (x3 : Addr) (x6 : Addr) (x7 : Addr) (x10_1 : Int) (c : ((Int × Unit) → K)) (x74 : Bool) : K :=
  brK x74
  (Zda5 x2 x3 x7 x10_1 c)
  (Zda1 k x6 x7)
abbrev Zda7 (x2 : Sl) (k : ((List Value) → K)) (x3 : Addr) (x6 : Addr) (x7 : Addr) (x10_1 : Int) (c : ((Int × Unit) → K)) : K :=
  Zda6 x2 k x3 x6 x7 x10_1 c (decide (x10_1 < ((x2.n : Nat) : Int)))
abbrev Zda8 (x2 : Sl) (k : ((List Value) → K)) (x3 : Addr) (x6 : Addr) (x7 : Addr) (x10 : Int) : K :=
  lp (fun (z_ : (Int × Unit)) c_ => Zda7 x2 k x3 x6 x7 z_.1 c_) (x10, ())
abbrev Zda9 (x1 : Sl) (x2 : Sl) (x7 : Addr) (x9_1 : Int) (c_1 : ((Int × Unit) → K)) : K :=
  tick fun _ =>
  ixA x7 7 5 1 fun x62 =>
  ldI .i64 x62 fun x63 =>
  c_ref16_Free x1 x9_1 x2 fun x67 =>
  chk [.cell x62 (.int .i64 x63)] fun _ =>
  ixA x7 7 5 1 fun x70 =>
  stK (x70.add 0) (.int .i64 (IntKind.wrap .i64 (x63 + ((x67.n : Nat) : Int)))) <|
  c_1 ((IntKind.wrap .i64 (x9_1 + 1)), ())
abbrev Zda10 (x1 : Sl) (x2 : Sl) (k : ((List Value) → K)) (x3 : Addr) (x6 : Addr) (x7 : Addr) (x9_1 : Int) (c_1 : ((Int × Unit) → K)) (x59 : Bool) : K :=
  brK x59
  (Zda9 x1 x2 x7 x9_1 c_1)
  (Zda8 x2 k x3 x6 x7 0)
abbrev Zda11 (x1 : Sl) (x2 : Sl) (k : ((List Value) → K)) (x3 : Addr) (x6 : Addr) (x7 : Addr) (x9_1 : Int) (c_1 : ((Int × Unit) → K)) : K :=
  Zda10 x1 x2 k x3 x6 x7 x9_1 c_1 (decide (x9_1 < 32))
abbrev Zda12 (x1 : Sl) (x2 : Sl) (k : ((List Value) → K)) (x3 : Addr) (x6 : Addr) (x7 : Addr) (x9 : Int) : K :=
  lp (fun (z_ : (Int × Unit)) c_ => Zda11 x1 x2 k x3 x6 x7 z_.1 c_) (x9, ())
abbrev Zda13 (x1 : Sl) (x7 : Addr) (x8_1 : Int) (c_2 : ((Int × Unit) → K)) : K :=
  tick fun _ =>
  ixA x7 7 6 1 fun x40 =>
  ldI .i64 x40 fun x41 =>
  ixS x1.p x1.n x8_1 3 fun x45 =>
  ldI .i64 (x45.add 1) fun x47 =>
  ixS x1.p x1.n x8_1 3 fun x51 =>
  ldI .i64 (x51.add 1) fun x53 =>
  c_ref06_Cells x47 fun x48 =>
  chk [.cell (x51.add 1) (.int .i64 x53), .cell x40 (.int .i64 x41)] fun _ =>
  c_ref06_Words x53 fun x54 =>
  chk [.cell x40 (.int .i64 x41)] fun _ =>
  ixA x7 7 6 1 fun x57 =>
  stK (x57.add 0) (.int .i64 (IntKind.wrap .i64 ((IntKind.wrap .i64 (x41 + 512)) - (IntKind.wrap .i64 (x48 * x54))))) <|
  c_2 ((IntKind.wrap .i64 (x8_1 + 1)), ())
abbrev Zda14 (x1 : Sl) (x7 : Addr) (x8_1 : Int) (c_2 : ((Int × Unit) → K)) (x39 : Bool) : K :=
  brK x39
  (Zda13 x1 x7 x8_1 c_2)
  (c_2 ((IntKind.wrap .i64 (x8_1 + 1)), ()))
abbrev Zda15 (x1 : Sl) (x7 : Addr) (x8_1 : Int) (c_2 : ((Int × Unit) → K)) : K :=
  ixS x1.p x1.n x8_1 3 fun x36 =>
  ldI .i64 (x36.add 0) fun x38 =>
  Zda14 x1 x7 x8_1 c_2 (x38 == 1)
abbrev Zda16 (x1 : Sl) (x7 : Addr) (x8_1 : Int) (c_2 : ((Int × Unit) → K)) : K :=
  ixS x1.p x1.n x8_1 3 fun x27 =>
  ldI .i64 (x27.add 0) fun x29 =>
  ixA x7 7 x29 1 fun x30 =>
  ldI .i64 x30 fun x31 =>
  ixA x7 7 x29 1 fun x33 =>
  stK (x33.add 0) (.int .i64 (IntKind.wrap .i64 (x31 + 1))) <|
  Zda15 x1 x7 x8_1 c_2
abbrev Zda17 (x1 : Sl) (x7 : Addr) (x8_1 : Int) (c_2 : ((Int × Unit) → K)) (x24 : Bool) : K :=
  brK x24
  (Zda16 x1 x7 x8_1 c_2)
  (Zda15 x1 x7 x8_1 c_2)
abbrev Zda18 (x1 : Sl) (x7 : Addr) (x8_1 : Int) (c_2 : ((Int × Unit) → K)) : K :=
  ixS x1.p x1.n x8_1 3 fun x21 =>
  ldI .i64 (x21.add 0) fun x23 =>
  Zda17 x1 x7 x8_1 c_2 (decide (x23 < 3))
abbrev Zda19 (x1 : Sl) (x2 : Sl) (k : ((List Value) → K)) (x3 : Addr) (x6 : Addr) (x7 : Addr) (x8_1 : Int) (c_2 : ((Int × Unit) → K)) (x16 : Bool) : K :=
  brK x16
  (Zda18 x1 x7 x8_1 c_2)
  (Zda12 x1 x2 k x3 x6 x7 0)
abbrev Zda20 (x1 : Sl) (x2 : Sl) (k : ((List Value) → K)) (x3 : Addr) (x6 : Addr) (x7 : Addr) (x8_1 : Int) (c_2 : ((Int × Unit) → K)) : K :=
  Zda19 x1 x2 k x3 x6 x7 x8_1 c_2 (decide (x8_1 < ((x1.n : Nat) : Int)))
abbrev Zda21 (x1 : Sl) (x2 : Sl) (k : ((List Value) → K)) (x3 : Addr) (x6 : Addr) (x7 : Addr) (x8 : Int) : K :=
  lp (fun (z_ : (Int × Unit)) c_ => Zda20 x1 x2 k x3 x6 x7 z_.1 c_) (x8, ())
abbrev Zda22 (x1 : Sl) (x2 : Sl) (k : ((List Value) → K)) (x3 : Addr) (x6 : Addr) (x7 : Addr) : K :=
  Zda21 x1 x2 k x3 x6 x7 1
abbrev Zda23 (x1 : Sl) (x2 : Sl) (k : ((List Value) → K)) (x3 : Addr) (x6 : Addr) : K :=
  alK (.cells #[.int .i64 0, .int .i64 0, .int .i64 0, .int .i64 0, .int .i64 0, .int .i64 0, .int .i64 0] 97) fun b_2 =>
  Zda22 x1 x2 k x3 x6 ⟨b_2, 0, none⟩
abbrev ref28_Count (x0 : (Sl × (Sl × (Sl × (Sl × (Sl × (Int × (Int × Bool)))))))) (x1 : Sl) (x2 : Sl) : M (List Value) := fun k =>
  alK (.cells #[x0.1.v, x0.2.1.v, x0.2.2.1.v, x0.2.2.2.1.v, x0.2.2.2.2.1.v, .int .i64 x0.2.2.2.2.2.1, .int .i64 x0.2.2.2.2.2.2.1, .bool x0.2.2.2.2.2.2.2] 103) fun b_3 =>
  alK (.cells #[.int .i64 0, .int .i64 0, .int .i64 0, .int .i64 0, .int .i64 0, .int .i64 0, .int .i64 0] 97) fun b_4 =>
  Zda23 x1 x2 k ⟨b_3, 0, none⟩ ⟨b_4, 0, none⟩
theorem ref28_Count_ok (x0 : (Sl × (Sl × (Sl × (Sl × (Sl × (Int × (Int × Bool)))))))) (x1 : Sl) (x2 : Sl) (k : (List Value) → K) (w : World) (hyp_ : ref28_Count x0 x1 x2 k w) : c_ref28_Count x0 x1 x2 k w :=
  cl_of (P := Tryz.prog) Tryz.func49 rfl (by kernel_rfl)
  (Qs [(3, .addr), (6, .addr)] [1, 2] (fun z_ => Zda23 x1 x2 k z_.1 z_.2.1)
  Qz
  (fun ⟨x3, x6, _⟩ => Qs [(7, .addr)] [1, 2, 3, 6] (fun z_ => Zda22 x1 x2 k x3 x6 z_.1)
  Qz
  (fun ⟨x7, _⟩ => Qs [] [1, 2, 3, 6, 7] (fun z_ => Zda12 x1 x2 k x3 x6 x7 0)
  (Qs [(8, .int .i64)] [1, 2, 3, 6, 7] (fun z_ => Zda21 x1 x2 k x3 x6 x7 z_.1)
  Qz
  (fun ⟨x8, _⟩ => Qb (Ql [(8, .int .i64)] [1, 2, 3, 6, 7] (fun (z_ : (Int × Unit)) c_ => Zda20 x1 x2 k x3 x6 x7 z_.1 c_) (x8, ())
  (fun ⟨x8_1, _⟩ c_2 => Qs [] [1, 2, 3, 6, 7, 8] (fun z_ => Zda18 x1 x7 x8_1 c_2)
  (Qs [(16, .bool)] [1, 2, 3, 6, 7, 8] (fun z_ => Zda19 x1 x2 k x3 x6 x7 x8_1 c_2 z_.1)
  Qz
  (fun ⟨x16, _⟩ => Qc (x16) (Zda18 x1 x7 x8_1 c_2) (Zda12 x1 x2 k x3 x6 x7 0) Qk Qx))
  (fun _ => Qs [] [1, 2, 3, 6, 7, 8] (fun z_ => c_2 ((IntKind.wrap .i64 (x8_1 + 1)), ()))
  (Qb (Qs [] [1, 2, 3, 6, 7, 8] (fun z_ => Zda15 x1 x7 x8_1 c_2)
  (Qs [(24, .bool)] [1, 2, 3, 6, 7, 8] (fun z_ => Zda17 x1 x7 x8_1 c_2 z_.1)
  Qz
  (fun ⟨x24, _⟩ => Qc (x24) (Zda16 x1 x7 x8_1 c_2) (Zda15 x1 x7 x8_1 c_2) Qz Qk))
  (fun _ => Qs [(39, .bool)] [1, 2, 3, 6, 7, 8] (fun z_ => Zda14 x1 x7 x8_1 c_2 z_.1)
  Qz
  (fun ⟨x39, _⟩ => Qc (x39) (Zda13 x1 x7 x8_1 c_2) (c_2 ((IntKind.wrap .i64 (x8_1 + 1)), ())) (RefK.draw [] [0, 1, 3, 0, 0, 24, 56, 120, 248, 0, 0, 1536, 3584, 7680, 16376, 32760, 65535, 131071, 262143] [0, 1, 2, 3, 4, 5, 6, 7, 9, 10, 11, 12, 13, 8, 14, 15, 16, 17, 18] [0, 1, 2, 3, 4, 5, 6, 7, 8, 9, 10, 11, 12, 13, 14, 15, 16, 17, 18] (by kernel_rfl) (by kernel_rfl)) Qk))))
  (fun _ => Qz))))))
  (fun _ => Qs [] [2, 3, 6, 7] (fun z_ => Zda8 x2 k x3 x6 x7 0)
  (Qs [(9, .int .i64)] [1, 2, 3, 6, 7] (fun z_ => Zda12 x1 x2 k x3 x6 x7 z_.1)
  Qz
  (fun ⟨x9, _⟩ => Qb (Ql [(9, .int .i64)] [1, 2, 3, 6, 7] (fun (z_ : (Int × Unit)) c_ => Zda11 x1 x2 k x3 x6 x7 z_.1 c_) (x9, ())
  (fun ⟨x9_1, _⟩ c_1 => Qs [] [1, 2, 3, 6, 7, 9] (fun z_ => Zda9 x1 x2 x7 x9_1 c_1)
  (Qs [(59, .bool)] [1, 2, 3, 6, 7, 9] (fun z_ => Zda10 x1 x2 k x3 x6 x7 x9_1 c_1 z_.1)
  Qz
  (fun ⟨x59, _⟩ => Qc (x59) (Zda9 x1 x2 x7 x9_1 c_1) (Zda8 x2 k x3 x6 x7 0) Qk Qx))
  (fun _ => Qs [] [1, 2, 3, 6, 7, 9] (fun z_ => c_1 ((IntKind.wrap .i64 (x9_1 + 1)), ()))
  (Qb (RefK.draw [] [0, 1, 0, 0, 0, 28, 60, 127, 255, 511] [0, 1, 2, 3, 4, 5, 6, 7, 8, 9] [0, 1, 2, 3, 4, 5, 6, 7, 8, 9] (by kernel_rfl) (by kernel_rfl)))
  (fun _ => Qz))))))
  (fun _ => Qs [] [6, 7] (fun z_ => Zda1 k x6 x7)
  (Qs [(10, .int .i64)] [2, 3, 6, 7] (fun z_ => Zda8 x2 k x3 x6 x7 z_.1)
  Qz
  (fun ⟨x10, _⟩ => Qb (Ql [(10, .int .i64)] [2, 3, 6, 7] (fun (z_ : (Int × Unit)) c_ => Zda7 x2 k x3 x6 x7 z_.1 c_) (x10, ())
  (fun ⟨x10_1, _⟩ c => Qs [] [2, 3, 6, 7, 10] (fun z_ => Zda5 x2 x3 x7 x10_1 c)
  (Qs [(74, .bool)] [2, 3, 6, 7, 10] (fun z_ => Zda6 x2 k x3 x6 x7 x10_1 c z_.1)
  Qz
  (fun ⟨x74, _⟩ => Qc (x74) (Zda5 x2 x3 x7 x10_1 c) (Zda1 k x6 x7) Qk Qx))
  (fun _ => Qs [] [2, 3, 6, 7, 10] (fun z_ => c ((IntKind.wrap .i64 (x10_1 + 1)), ()))
  (Qb (Qs [(11, .addr)] [2, 3, 6, 7, 10] (fun z_ => Zda4 x7 x10_1 c z_.1)
  (RefK.drawM [] [0, 0, 0, 6, 14, 31, 63, 127, 127, 0, 767, 2047] (.step 0 (.step 1 (.step 2 (.step 3 (.step 4 (.alt 5 (.step 6 (.step 7 (.step 8 (.step 9 (.step 10 (.step 11 .nil)))))) (.alt 9 (.step 5 (.step 6 (.step 7 (.step 8 (.step 10 (.step 11 .nil)))))) .no))))))) [0, 1, 2, 3, 4, 5, 6, 7, 9, 10, 8, 11] (by kernel_rfl) (by kernel_rfl))
  (fun ⟨x11, _⟩ => Qs [] [2, 3, 6, 7, 10, 11] (fun z_ => Zda3 x7 x10_1 c x11)
  Qz
  (fun _ => Qs [] [2, 3, 6, 7, 10, 11] (fun z_ => Zda2 x7 x10_1 c x11)
  (RefK.draw [] [0, 1, 0, 4, 15, 31, 63] [0, 1, 2, 3, 4, 5, 6] [0, 1, 2, 3, 4, 5, 6] (by kernel_rfl) (by kernel_rfl))
  (fun _ => RefK.draw [] [0, 1, 0, 4, 15, 0, 44, 127, 255, 511] [0, 1, 2, 5, 3, 4, 6, 7, 8, 9] [0, 1, 2, 3, 4, 5, 6, 7, 8, 9] (by kernel_rfl) (by kernel_rfl))))))
  (fun _ => Qz))))))
  (fun _ => Qs [] [6] (fun z_ => Zda0 k x6)
  Qz
  (fun _ => Qr))))))) hyp_
abbrev Zdb0 (k : (OA → K)) (x2 : Addr) : K :=
  k (some x2)
abbrev Zdb1 (words : Sl) (k : (OA → K)) (n : Int) : K :=
  tick fun _ =>
  andK
  (c_slices_Clone_Suint64_uint64 words fun x9 =>
  andK
  (mkS Tryz.prog 109 ((words.n : Nat) : Int) ((words.n : Nat) : Int) fun b =>
  andK
  (mkS Tryz.prog 4 n n fun b_1 =>
  mkS Tryz.prog 4 n n fun b_2 =>
  alK (.cells #[words.v, x9.v, .slice (some ⟨b, 0, none⟩) (Int.toNat ((words.n : Nat) : Int)) (Int.toNat ((words.n : Nat) : Int)), .slice (some ⟨b_1, 0, none⟩) (Int.toNat n) (Int.toNat n), .slice (some ⟨b_2, 0, none⟩) (Int.toNat n) (Int.toNat n), .int .i64 0, .int .i64 0, .bool false, .bool false] 165) fun b_3 =>
  Zdb0 k ⟨b_3, 0, none⟩)
  (andK
  (mkS Tryz.prog 4 n n fun b_4 =>
  mkS Tryz.prog 4 n n fun b_5 =>
  alK (.cells #[words.v, x9.v, .slice (some ⟨b, 0, none⟩) (Int.toNat ((words.n : Nat) : Int)) (Int.toNat ((words.n : Nat) : Int)), .slice (some ⟨b_5, 0, none⟩) (Int.toNat n) (Int.toNat n), .slice (some ⟨b_4, 0, none⟩) (Int.toNat n) (Int.toNat n), .int .i64 0, .int .i64 0, .bool false, .bool false] 165) fun b_6 =>
  Zdb0 k ⟨b_6, 0, none⟩)
  ((fun _ => True))))
  (andK
  (mkS Tryz.prog 4 n n fun b_7 =>
  andK
  (mkS Tryz.prog 109 ((words.n : Nat) : Int) ((words.n : Nat) : Int) fun b_8 =>
  mkS Tryz.prog 4 n n fun b_9 =>
  alK (.cells #[words.v, x9.v, .slice (some ⟨b_8, 0, none⟩) (Int.toNat ((words.n : Nat) : Int)) (Int.toNat ((words.n : Nat) : Int)), .slice (some ⟨b_7, 0, none⟩) (Int.toNat n) (Int.toNat n), .slice (some ⟨b_9, 0, none⟩) (Int.toNat n) (Int.toNat n), .int .i64 0, .int .i64 0, .bool false, .bool false] 165) fun b_10 =>
  Zdb0 k ⟨b_10, 0, none⟩)
  (andK
  (mkS Tryz.prog 4 n n fun b_11 =>
  mkS Tryz.prog 109 ((words.n : Nat) : Int) ((words.n : Nat) : Int) fun b_12 =>
  alK (.cells #[words.v, x9.v, .slice (some ⟨b_12, 0, none⟩) (Int.toNat ((words.n : Nat) : Int)) (Int.toNat ((words.n : Nat) : Int)), .slice (some ⟨b_7, 0, none⟩) (Int.toNat n) (Int.toNat n), .slice (some ⟨b_11, 0, none⟩) (Int.toNat n) (Int.toNat n), .int .i64 0, .int .i64 0, .bool false, .bool false] 165) fun b_13 =>
  Zdb0 k ⟨b_13, 0, none⟩)
  ((fun _ => True))))
  (andK
  (mkS Tryz.prog 4 n n fun b_14 =>
  andK
  (mkS Tryz.prog 109 ((words.n : Nat) : Int) ((words.n : Nat) : Int) fun b_15 =>
  mkS Tryz.prog 4 n n fun b_16 =>
  alK (.cells #[words.v, x9.v, .slice (some ⟨b_15, 0, none⟩) (Int.toNat ((words.n : Nat) : Int)) (Int.toNat ((words.n : Nat) : Int)), .slice (some ⟨b_16, 0, none⟩) (Int.toNat n) (Int.toNat n), .slice (some ⟨b_14, 0, none⟩) (Int.toNat n) (Int.toNat n), .int .i64 0, .int .i64 0, .bool false, .bool false] 165) fun b_17 =>
  Zdb0 k ⟨b_17, 0, none⟩)
  (andK
  (mkS Tryz.prog 4 n n fun b_18 =>
  mkS Tryz.prog 109 ((words.n : Nat) : Int) ((words.n : Nat) : Int) fun b_19 =>
  alK (.cells #[words.v, x9.v, .slice (some ⟨b_19, 0, none⟩) (Int.toNat ((words.n : Nat) : Int)) (Int.toNat ((words.n : Nat) : Int)), .slice (some ⟨b_18, 0, none⟩) (Int.toNat n) (Int.toNat n), .slice (some ⟨b_14, 0, none⟩) (Int.toNat n) (Int.toNat n), .int .i64 0, .int .i64 0, .bool false, .bool false] 165) fun b_20 =>
  Zdb0 k ⟨b_20, 0, none⟩)
  ((fun _ => True))))
  ((fun _ => True)))))
  (andK
  (mkS Tryz.prog 109 ((words.n : Nat) : Int) ((words.n : Nat) : Int) fun b_21 =>
  andK
  (c_slices_Clone_Suint64_uint64 words fun x9_1 =>
  andK
  (mkS Tryz.prog 4 n n fun b_22 =>
  mkS Tryz.prog 4 n n fun b_23 =>
  alK (.cells #[words.v, x9_1.v, .slice (some ⟨b_21, 0, none⟩) (Int.toNat ((words.n : Nat) : Int)) (Int.toNat ((words.n : Nat) : Int)), .slice (some ⟨b_22, 0, none⟩) (Int.toNat n) (Int.toNat n), .slice (some ⟨b_23, 0, none⟩) (Int.toNat n) (Int.toNat n), .int .i64 0, .int .i64 0, .bool false, .bool false] 165) fun b_24 =>
  Zdb0 k ⟨b_24, 0, none⟩)
  (andK
  (mkS Tryz.prog 4 n n fun b_25 =>
  mkS Tryz.prog 4 n n fun b_26 =>
  alK (.cells #[words.v, x9_1.v, .slice (some ⟨b_21, 0, none⟩) (Int.toNat ((words.n : Nat) : Int)) (Int.toNat ((words.n : Nat) : Int)), .slice (some ⟨b_26, 0, none⟩) (Int.toNat n) (Int.toNat n), .slice (some ⟨b_25, 0, none⟩) (Int.toNat n) (Int.toNat n), .int .i64 0, .int .i64 0, .bool false, .bool false] 165) fun b_27 =>
  Zdb0 k ⟨b_27, 0, none⟩)
  ((fun _ => True))))
  (andK
  (mkS Tryz.prog 4 n n fun b_28 =>
  andK
  (c_slices_Clone_Suint64_uint64 words fun x9_2 =>
  mkS Tryz.prog 4 n n fun b_29 =>
  alK (.cells #[words.v, x9_2.v, .slice (some ⟨b_21, 0, none⟩) (Int.toNat ((words.n : Nat) : Int)) (Int.toNat ((words.n : Nat) : Int)), .slice (some ⟨b_28, 0, none⟩) (Int.toNat n) (Int.toNat n), .slice (some ⟨b_29, 0, none⟩) (Int.toNat n) (Int.toNat n), .int .i64 0, .int .i64 0, .bool false, .bool false] 165) fun b_30 =>
  Zdb0 k ⟨b_30, 0, none⟩)
  (andK
  (mkS Tryz.prog 4 n n fun b_31 =>
  c_slices_Clone_Suint64_uint64 words fun x9_3 =>
  alK (.cells #[words.v, x9_3.v, .slice (some ⟨b_21, 0, none⟩) (Int.toNat ((words.n : Nat) : Int)) (Int.toNat ((words.n : Nat) : Int)), .slice (some ⟨b_28, 0, none⟩) (Int.toNat n) (Int.toNat n), .slice (some ⟨b_31, 0, none⟩) (Int.toNat n) (Int.toNat n), .int .i64 0, .int .i64 0, .bool false, .bool false] 165) fun b_32 =>
  Zdb0 k ⟨b_32, 0, none⟩)
  ((fun _ => True))))
  (andK
  (mkS Tryz.prog 4 n n fun b_33 =>
  andK
  (c_slices_Clone_Suint64_uint64 words fun x9_4 =>
  mkS Tryz.prog 4 n n fun b_34 =>
  alK (.cells #[words.v, x9_4.v, .slice (some ⟨b_21, 0, none⟩) (Int.toNat ((words.n : Nat) : Int)) (Int.toNat ((words.n : Nat) : Int)), .slice (some ⟨b_34, 0, none⟩) (Int.toNat n) (Int.toNat n), .slice (some ⟨b_33, 0, none⟩) (Int.toNat n) (Int.toNat n), .int .i64 0, .int .i64 0, .bool false, .bool false] 165) fun b_35 =>
  Zdb0 k ⟨b_35, 0, none⟩)
  (andK
  (mkS Tryz.prog 4 n n fun b_36 =>
  c_slices_Clone_Suint64_uint64 words fun x9_5 =>
  alK (.cells #[words.v, x9_5.v, .slice (some ⟨b_21, 0, none⟩) (Int.toNat ((words.n : Nat) : Int)) (Int.toNat ((words.n : Nat) : Int)), .slice (some ⟨b_36, 0, none⟩) (Int.toNat n) (Int.toNat n), .slice (some ⟨b_33, 0, none⟩) (Int.toNat n) (Int.toNat n), .int .i64 0, .int .i64 0, .bool false, .bool false] 165) fun b_37 =>
  Zdb0 k ⟨b_37, 0, none⟩)
  ((fun _ => True))))
  ((fun _ => True)))))
  (andK
  (mkS Tryz.prog 4 n n fun b_38 =>
  andK
  (c_slices_Clone_Suint64_uint64 words fun x9_6 =>
  andK
  (mkS Tryz.prog 109 ((words.n : Nat) : Int) ((words.n : Nat) : Int) fun b_39 =>
  mkS Tryz.prog 4 n n fun b_40 =>
  alK (.cells #[words.v, x9_6.v, .slice (some ⟨b_39, 0, none⟩) (Int.toNat ((words.n : Nat) : Int)) (Int.toNat ((words.n : Nat) : Int)), .slice (some ⟨b_38, 0, none⟩) (Int.toNat n) (Int.toNat n), .slice (some ⟨b_40, 0, none⟩) (Int.toNat n) (Int.toNat n), .int .i64 0, .int .i64 0, .bool false, .bool false] 165) fun b_41 =>
  Zdb0 k ⟨b_41, 0, none⟩)
  (andK
  (mkS Tryz.prog 4 n n fun b_42 =>
  mkS Tryz.prog 109 ((words.n : Nat) : Int) ((words.n : Nat) : Int) fun b_43 =>
  alK (.cells #[words.v, x9_6.v, .slice (some ⟨b_43, 0, none⟩) (Int.toNat ((words.n : Nat) : Int)) (Int.toNat ((words.n : Nat) : Int)), .slice (some ⟨b_38, 0, none⟩) (Int.toNat n) (Int.toNat n), .slice (some ⟨b_42, 0, none⟩) (Int.toNat n) (Int.toNat n), .int .i64 0, .int .i64 0, .bool false, .bool false] 165) fun b_44 =>
  Zdb0 k ⟨b_44, 0, none⟩)
  ((fun _ => True))))
  (andK
  (mkS Tryz.prog 109 ((words.n : Nat) : Int) ((words.n : Nat) : Int) fun b_45 =>
  andK
  (c_slices_Clone_Suint64_uint64 words fun x9_7 =>
  mkS Tryz.prog 4 n n fun b_46 =>
  alK (.cells #[words.v, x9_7.v, .slice (some ⟨b_45, 0, none⟩) (Int.toNat ((words.n : Nat) : Int)) (Int.toNat ((words.n : Nat) : Int)), .slice (some ⟨b_38, 0, none⟩) (Int.toNat n) (Int.toNat n), .slice (some ⟨b_46, 0, none⟩) (Int.toNat n) (Int.toNat n), .int .i64 0, .int .i64 0, .bool false, .bool false] 165) fun b_47 =>
  Zdb0 k ⟨b_47, 0, none⟩)
  (andK
  (mkS Tryz.prog 4 n n fun b_48 =>
  c_slices_Clone_Suint64_uint64 words fun x9_8 =>
  alK (.cells #[words.v, x9_8.v, .slice (some ⟨b_45, 0, none⟩) (Int.toNat ((words.n : Nat) : Int)) (Int.toNat ((words.n : Nat) : Int)), .slice (some ⟨b_38, 0, none⟩) (Int.toNat n) (Int.toNat n), .slice (some ⟨b_48, 0, none⟩) (Int.toNat n) (Int.toNat n), .int .i64 0, .int .i64 0, .bool false, .bool false] 165) fun b_49 =>
  Zdb0 k ⟨b_49, 0, none⟩)
  ((fun _ => True))))
  (andK
  (mkS Tryz.prog 4 n n fun b_50 =>
  andK
  (c_slices_Clone_Suint64_uint64 words fun x9_9 =>
  mkS Tryz.prog 109 ((words.n : Nat) : Int) ((words.n : Nat) : Int) fun b_51 =>
  alK (.cells #[words.v, x9_9.v, .slice (some ⟨b_51, 0, none⟩) (Int.toNat ((words.n : Nat) : Int)) (Int.toNat ((words.n : Nat) : Int)), .slice (some ⟨b_38, 0, none⟩) (Int.toNat n) (Int.toNat n), .slice (some ⟨b_50, 0, none⟩) (Int.toNat n) (Int.toNat n), .int .i64 0, .int .i64 0, .bool false, .bool false] 165) fun b_52 =>
  Zdb0 k ⟨b_52, 0, none⟩)
  (andK
  (mkS Tryz.prog 109 ((words.n : Nat) : Int) ((words.n : Nat) : Int) fun b_53 =>
  c_slices_Clone_Suint64_uint64 words fun x9_10 =>
  alK (.cells #[words.v, x9_10.v, .slice (some ⟨b_53, 0, none⟩) (Int.toNat ((words.n : Nat) : Int)) (Int.toNat ((words.n : Nat) : Int)), .slice (some ⟨b_38, 0, none⟩) (Int.toNat n) (Int.toNat n), .slice (some ⟨b_50, 0, none⟩) (Int.toNat n) (Int.toNat n), .int .i64 0, .int .i64 0, .bool false, .bool false] 165) fun b_54 =>
  Zdb0 k ⟨b_54, 0, none⟩)
  ((fun _ => True))))
  ((fun _ => True)))))
  (andK
  (mkS Tryz.prog 4 n n fun b_55 =>
  andK
  (c_slices_Clone_Suint64_uint64 words fun x9_11 =>
  andK
  (mkS Tryz.prog 109 ((words.n : Nat) : Int) ((words.n : Nat) : Int) fun b_56 =>
  mkS Tryz.prog 4 n n fun b_57 =>
  alK (.cells #[words.v, x9_11.v, .slice (some ⟨b_56, 0, none⟩) (Int.toNat ((words.n : Nat) : Int)) (Int.toNat ((words.n : Nat) : Int)), .slice (some ⟨b_57, 0, none⟩) (Int.toNat n) (Int.toNat n), .slice (some ⟨b_55, 0, none⟩) (Int.toNat n) (Int.toNat n), .int .i64 0, .int .i64 0, .bool false, .bool false] 165) fun b_58 =>
  Zdb0 k ⟨b_58, 0, none⟩)
  (andK
  (mkS Tryz.prog 4 n n fun b_59 =>
  mkS Tryz.prog 109 ((words.n : Nat) : Int) ((words.n : Nat) : Int) fun b_60 =>
  alK (.cells #[words.v, x9_11.v, .slice (some ⟨b_60, 0, none⟩) (Int.toNat ((words.n : Nat) : Int)) (Int.toNat ((words.n : Nat) : Int)), .slice (some ⟨b_59, 0, none⟩) (Int.toNat n) (Int.toNat n), .slice (some ⟨b_55, 0, none⟩) (Int.toNat n) (Int.toNat n), .int .i64 0, .int .i64 0, .bool false, .bool false] 165) fun b_61 =>
  Zdb0 k ⟨b_61, 0, none⟩)
  ((fun _ => True))))
  (andK
  (mkS Tryz.prog 109 ((words.n : Nat) : Int) ((words.n : Nat) : Int) fun b_62 =>
  andK
  (c_slices_Clone_Suint64_uint64 words fun x9_12 =>
  mkS Tryz.prog 4 n n fun b_63 =>
  alK (.cells #[words.v, x9_12.v, .slice (some ⟨b_62, 0, none⟩) (Int.toNat ((words.n : Nat) : Int)) (Int.toNat ((words.n : Nat) : Int)), .slice (some ⟨b_63, 0, none⟩) (Int.toNat n) (Int.toNat n), .slice (some ⟨b_55, 0, none⟩) (Int.toNat n) (Int.toNat n), .int .i64 0, .int .i64 0, .bool false, .bool false] 165) fun b_64 =>
  Zdb0 k ⟨b_64, 0, none⟩)
  (andK
  (mkS Tryz.prog 4 n n fun b_65 =>
  c_slices_Clone_Suint64_uint64 words fun x9_13 =>
  alK (.cells #[words.v, x9_13.v, .slice (some ⟨b_62, 0, none⟩) (Int.toNat ((words.n : Nat) : Int)) (Int.toNat ((words.n : Nat) : Int)), .slice (some ⟨b_65, 0, none⟩) (Int.toNat n) (Int.toNat n), .slice (some ⟨b_55, 0, none⟩) (Int.toNat n) (Int.toNat n), .int .i64 0, .int .i64 0, .bool false, .bool false] 165) fun b_66 =>
  Zdb0 k ⟨b_66, 0, none⟩)
  ((fun _ => True))))
  (andK
  (mkS Tryz.prog 4 n n fun b_67 =>
  andK
  (c_slices_Clone_Suint64_uint64 words fun x9_14 =>
  mkS Tryz.prog 109 ((words.n : Nat) : Int) ((words.n : Nat) : Int) fun b_68 =>
  alK (.cells #[words.v, x9_14.v, .slice (some ⟨b_68, 0, none⟩) (Int.toNat ((words.n : Nat) : Int)) (Int.toNat ((words.n : Nat) : Int)), .slice (some ⟨b_67, 0, none⟩) (Int.toNat n) (Int.toNat n), .slice (some ⟨b_55, 0, none⟩) (Int.toNat n) (Int.toNat n), .int .i64 0, .int .i64 0, .bool false, .bool false] 165) fun b_69 =>
  Zdb0 k ⟨b_69, 0, none⟩)
  (andK
  (mkS Tryz.prog 109 ((words.n : Nat) : Int) ((words.n : Nat) : Int) fun b_70 =>
  c_slices_Clone_Suint64_uint64 words fun x9_15 =>
  alK (.cells #[words.v, x9_15.v, .slice (some ⟨b_70, 0, none⟩) (Int.toNat ((words.n : Nat) : Int)) (Int.toNat ((words.n : Nat) : Int)), .slice (some ⟨b_67, 0, none⟩) (Int.toNat n) (Int.toNat n), .slice (some ⟨b_55, 0, none⟩) (Int.toNat n) (Int.toNat n), .int .i64 0, .int .i64 0, .bool false, .bool false] 165) fun b_71 =>
  Zdb0 k ⟨b_71, 0, none⟩)
  ((fun _ => True))))
  ((fun _ => True)))))
  ((fun _ => True)))))
abbrev nvm_load (words : Sl) : M OA := fun k =>
  Zdb1 words k (IntKind.wrap .i64 (Int.tdiv ((words.n : Nat) : Int) 8))
theorem nvm_load_ok (words : Sl) (k : OA → K) (w : World) (hyp_ : nvm_load words k w) : c_nvm_load words k w :=
  cl_of (P := Tryz.prog) Tryz.func176 rfl (by kernel_rfl)
  (Qs [] [0] (fun z_ => Zdb1 words k (IntKind.wrap .i64 (Int.tdiv ((words.n : Nat) : Int) 8)))
  Qz
  (fun _ => Qs [(3, .int .i64)] [0] (fun z_ => Zdb1 words k z_.1)
  Qz
  (fun ⟨n, _⟩ => Qs [(2, .addr)] [] (fun z_ => Zdb0 k z_.1)
  (RefK.drawM [] [0, 0, 2, 0, 8, 24, 0, 64, 0, 256, 1023, 2047, 4095] (.step 0 (.step 1 (.step 3 (.step 4 (.step 6 (.step 8 (.alt 2 (.alt 5 (.alt 7 (.step 9 (.step 10 (.step 11 (.step 12 .nil)))) (.alt 9 (.step 7 (.step 10 (.step 11 (.step 12 .nil)))) .no)) (.alt 7 (.alt 5 (.step 9 (.step 10 (.step 11 (.step 12 .nil)))) (.alt 9 (.step 5 (.step 10 (.step 11 (.step 12 .nil)))) .no)) (.alt 9 (.alt 5 (.step 7 (.step 10 (.step 11 (.step 12 .nil)))) (.alt 7 (.step 5 (.step 10 (.step 11 (.step 12 .nil)))) .no)) .no))) (.alt 5 (.alt 2 (.alt 7 (.step 9 (.step 10 (.step 11 (.step 12 .nil)))) (.alt 9 (.step 7 (.step 10 (.step 11 (.step 12 .nil)))) .no)) (.alt 7 (.alt 2 (.step 9 (.step 10 (.step 11 (.step 12 .nil)))) (.alt 9 (.step 2 (.step 10 (.step 11 (.step 12 .nil)))) .no)) (.alt 9 (.alt 2 (.step 7 (.step 10 (.step 11 (.step 12 .nil)))) (.alt 7 (.step 2 (.step 10 (.step 11 (.step 12 .nil)))) .no)) .no))) (.alt 7 (.alt 2 (.alt 5 (.step 9 (.step 10 (.step 11 (.step 12 .nil)))) (.alt 9 (.step 5 (.step 10 (.step 11 (.step 12 .nil)))) .no)) (.alt 5 (.alt 2 (.step 9 (.step 10 (.step 11 (.step 12 .nil)))) (.alt 9 (.step 2 (.step 10 (.step 11 (.step 12 .nil)))) .no)) (.alt 9 (.alt 2 (.step 5 (.step 10 (.step 11 (.step 12 .nil)))) (.alt 5 (.step 2 (.step 10 (.step 11 (.step 12 .nil)))) .no)) .no))) (.alt 9 (.alt 2 (.alt 5 (.step 7 (.step 10 (.step 11 (.step 12 .nil)))) (.alt 7 (.step 5 (.step 10 (.step 11 (.step 12 .nil)))) .no)) (.alt 5 (.alt 2 (.step 7 (.step 10 (.step 11 (.step 12 .nil)))) (.alt 7 (.step 2 (.step 10 (.step 11 (.step 12 .nil)))) .no)) (.alt 7 (.alt 2 (.step 5 (.step 10 (.step 11 (.step 12 .nil)))) (.alt 5 (.step 2 (.step 10 (.step 11 (.step 12 .nil)))) .no)) .no))) .no)))))))))) [0, 1, 2, 3, 4, 5, 6, 7, 8, 9, 10, 11, 12] (by kernel_rfl) (by kernel_rfl))
  (fun ⟨x2, _⟩ => Qr)))) hyp_
end
structure Dv where
  lasting : List Int
  cache : List Int
  flushed : List Int
  dirty : List Bool
  pending : List Bool
  steps : Int
  fuse : Int
  armed : Bool
  dead : Bool
structure Dv.Ok (v : Dv) (n : Nat) : Prop where
  big : n ≤ 2 ^ 32
  l1 : v.lasting.length = 8 * n
  l2 : v.cache.length = 8 * n
  l3 : v.flushed.length = 8 * n
  l4 : v.dirty.length = n
  l5 : v.pending.length = n
abbrev Q5 := Sl × Sl × Sl × Sl × Sl
def devC (v : Dv) (q : Q5) : Obj := .cells [q.1.v, q.2.1.v, q.2.2.1.v, q.2.2.2.1.v, q.2.2.2.2.v, .int .i64 v.steps, .int .i64 v.fuse, .bool v.armed, .bool v.dead].toArray 165
def DevQ (d : Nat) (v : Dv) (q : Q5) : SL :=
  vec 109 1 q.1 (wds v.lasting) * vec 109 1 q.2.1 (wds v.cache) * vec 109 1 q.2.2.1 (wds v.flushed) * vec 4 1 q.2.2.2.1 (bls v.dirty) * vec 4 1 q.2.2.2.2 (bls v.pending) * pt d (devC v q)
def Dev (d : Nat) (v : Dv) : SL := ex (DevQ d v)
def da (d : Nat) : Option Addr := some ⟨d, 0, none⟩
section
variable {B : World} {R : SL} {t : K}
theorem Dev_open {d : Nat} {v : Dv} (h : ∀ q, T B (R * vec 109 1 q.1 (wds v.lasting) * vec 109 1 q.2.1 (wds v.cache) * vec 109 1 q.2.2.1 (wds v.flushed) * vec 4 1 q.2.2.2.1 (bls v.dirty) * vec 4 1 q.2.2.2.2 (bls v.pending) * pt d (devC v q)) t) : T B (R * Dev d v) t := by
  refine T_ex fun q => T.perm ?_ (h q)
  unfold DevQ; simp only [sep_assoc]
theorem Dev_close {d : Nat} {v : Dv} (q : Q5) (h : T B (R * Dev d v) t) : T B (R * vec 109 1 q.1 (wds v.lasting) * vec 109 1 q.2.1 (wds v.cache) * vec 109 1 q.2.2.1 (wds v.flushed) * vec 4 1 q.2.2.2.1 (bls v.dirty) * vec 4 1 q.2.2.2.2 (bls v.pending) * pt d (devC v q)) t := by
  refine T.perm ?_ (T_exI q h)
  unfold DevQ; simp only [sep_assoc]
def getI (l : List Int) (a : Int) : Int := if a < 0 then 0 else l.getD a.toNat 0
theorem nvm_Len_c {d : Nat} {v : Dv} {k : Int → K} (hk : T B (R * Dev d v) (k v.cache.length)) : T B (R * Dev d v) (c_nvm_Device_Len (da d) k) := by
  refine T_of (nvm_Device_Len_ok _ k) ?_
  unfold da
  refine Dev_open fun q => ?_
  unfold devC
  (repeat (first | with_reducible refine T_nn ?_ | ((with_reducible apply T_ldS); (focus rfl); (focus exact hasA); (focus rfl))))
  refine T_vlen (E := 109) (sz := 1) (s := q.2.1) (vs := wds v.cache) (.init (.init (.init (.init .last)))) fun hn => ?_
  rw [wds_len, Nat.mul_one] at hn
  rw [hn]
  exact Dev_close q hk
theorem nvm_Get_c {d : Nat} {v : Dv} {a : Int} {k : Int → K} (hk : T B (R * Dev d v) (k (getI v.cache a))) : T B (R * Dev d v) (c_nvm_Device_Get (da d) a k) := by
  refine T_of (nvm_Device_Get_ok _ a k) ?_
  unfold da getI at *
  (repeat' (first | with_reducible refine T_nn ?_ | with_reducible refine T_brT ?_ | with_reducible refine T_brD (fun _ => ?_) (fun _ => ?_)))
  · rename_i h
    rw [if_pos h] at hk; exact hk
  · rename_i h
    rw [if_neg h] at hk
    refine Dev_open fun q => ?_
    unfold devC
    (repeat (((with_reducible apply T_ldS); (focus rfl); (focus exact hasA); (focus rfl))))
    refine T_vlen (E := 109) (sz := 1) (s := q.2.1) (vs := wds v.cache) (.init (.init (.init (.init .last)))) fun hn => ?_
    rw [wds_len, Nat.mul_one] at hn
    (repeat' (first | with_reducible refine T_nn ?_ | ((with_reducible apply T_ldS); (focus rfl); (focus exact hasA); (focus rfl)) | with_reducible refine T_brD (fun _ => ?_) (fun _ => ?_)))
    · rename_i h2
      rw [List.getD_eq_getElem?_getD, List.getElem?_eq_none (by omega)] at hk
      exact Dev_close q hk
    · rename_i h2
      have hlt : a.toNat < v.cache.length := by omega
      refine T_ixV (Rd.vec (E := 109) (s := q.2.1) (vs := wds v.cache) (.init (.init (.init (.init .last))))) (by omega) (wds_at hlt) ?_
      rw [List.getD_eq_getElem?_getD, List.getElem?_eq_getElem hlt] at hk
      exact Dev_close q hk
theorem nvm_Lasting_c {d : Nat} {v : Dv} {a : Int} {k : Int → K} (hk : T B (R * Dev d v) (k (getI v.lasting a))) : T B (R * Dev d v) (c_nvm_Device_Lasting (da d) a k) := by
  refine T_of (nvm_Device_Lasting_ok _ a k) ?_
  unfold da getI at *
  (repeat' (first | with_reducible refine T_nn ?_ | with_reducible refine T_brT ?_ | with_reducible refine T_brD (fun _ => ?_) (fun _ => ?_)))
  · rename_i h
    rw [if_pos h] at hk; exact hk
  · rename_i h
    rw [if_neg h] at hk
    refine Dev_open fun q => ?_
    unfold devC
    (repeat (((with_reducible apply T_ldS); (focus rfl); (focus exact hasA); (focus rfl))))
    refine T_vlen (E := 109) (sz := 1) (s := q.1) (vs := wds v.lasting) (.init (.init (.init (.init (.init .last))))) fun hn => ?_
    rw [wds_len, Nat.mul_one] at hn
    (repeat' (first | with_reducible refine T_nn ?_ | ((with_reducible apply T_ldS); (focus rfl); (focus exact hasA); (focus rfl)) | with_reducible refine T_brD (fun _ => ?_) (fun _ => ?_)))
    · rename_i h2
      rw [List.getD_eq_getElem?_getD, List.getElem?_eq_none (by omega)] at hk
      exact Dev_close q hk
    · rename_i h2
      have hlt : a.toNat < v.lasting.length := by omega
      refine T_ixV (Rd.vec (E := 109) (s := q.1) (vs := wds v.lasting) (.init (.init (.init (.init (.init .last)))))) (by omega) (wds_at hlt) ?_
      rw [List.getD_eq_getElem?_getD, List.getElem?_eq_getElem hlt] at hk
      exact Dev_close q hk
def Dv.stops (v : Dv) : Bool := v.dead || (v.armed && v.fuse == 0)
def Dv.stepV (v : Dv) : Dv := if v.stops then { v with dead := true } else { v with fuse := IntKind.wrap .i64 (v.fuse - 1), steps := IntKind.wrap .i64 (v.steps + 1) }
theorem nvm_step_c {d : Nat} {v : Dv} {k : Bool → K} (hk : T B (R * Dev d v.stepV) (k (!v.stops))) : T B (R * Dev d v) (c_nvm_Device_step (da d) k) := by
  refine T_of (nvm_Device_step_ok _ k) ?_
  unfold da
  refine Dev_open fun q => ?_
  unfold devC
  obtain ⟨l1, l2, l3, l4, l5, st, fu, ar, de⟩ := v
  cases de <;> cases ar <;> simp only [Dv.stops, Dv.stepV, Bool.false_or, Bool.true_or, Bool.false_and, Bool.true_and, if_true, Bool.not_true, Bool.not_false, Bool.false_eq_true, if_false] at hk
  · (repeat' (first | with_reducible refine T_nn ?_ | with_reducible refine T_brF ?_ | ((with_reducible apply T_ldI); (focus rfl); (focus exact hasA); (focus rfl)) | ((with_reducible apply T_ldB); (focus rfl); (focus exact hasA); (focus rfl)) | ((with_reducible apply T_st); (focus rfl); (focus exact updA); (focus simp); simp only [List.set, Nat.zero_add, Nat.reduceAdd])))
    exact Dev_close (v := ⟨l1, l2, l3, l4, l5, IntKind.wrap .i64 (st + 1), IntKind.wrap .i64 (fu - 1), false, false⟩) q hk
  · (repeat' (first | with_reducible refine T_nn ?_ | with_reducible refine T_brT ?_ | with_reducible refine T_brF ?_ | ((with_reducible apply T_ldI); (focus rfl); (focus exact hasA); (focus rfl)) | ((with_reducible apply T_ldB); (focus rfl); (focus exact hasA); (focus rfl)) | ((with_reducible apply T_st); (focus rfl); (focus exact updA); (focus simp); simp only [List.set, Nat.zero_add, Nat.reduceAdd]) | with_reducible refine T_brE (fun _ => ?_) (fun _ => ?_)))
    · rename_i h0
      simp only at h0
      subst h0
      exact Dev_close (v := ⟨l1, l2, l3, l4, l5, st, 0, true, true⟩) q hk
    · rename_i h0
      simp only [ne_eq] at h0
      have : (fu == 0) = false := by simpa using h0
      rw [this] at hk
      exact Dev_close (v := ⟨l1, l2, l3, l4, l5, IntKind.wrap .i64 (st + 1), IntKind.wrap .i64 (fu - 1), true, false⟩) q hk
  · (repeat' (first | with_reducible refine T_nn ?_ | with_reducible refine T_brT ?_ | ((with_reducible apply T_ldB); (focus rfl); (focus exact hasA); (focus rfl)) | ((with_reducible apply T_st); (focus rfl); (focus exact updA); (focus simp); simp only [List.set, Nat.zero_add, Nat.reduceAdd])))
    exact Dev_close (v := ⟨l1, l2, l3, l4, l5, st, fu, false, true⟩) q hk
  · (repeat' (first | with_reducible refine T_nn ?_ | with_reducible refine T_brT ?_ | ((with_reducible apply T_ldB); (focus rfl); (focus exact hasA); (focus rfl)) | ((with_reducible apply T_st); (focus rfl); (focus exact updA); (focus simp); simp only [List.set, Nat.zero_add, Nat.reduceAdd])))
    exact Dev_close (v := ⟨l1, l2, l3, l4, l5, st, fu, true, true⟩) q hk
def Dv.storeV (v : Dv) (a w : Int) : Int × Dv :=
  if a < 0 ∨ a ≥ v.cache.length then (2, v) else if v.stops then (3, v.stepV) else (0, { v.stepV with cache := v.cache.set a.toNat w, dirty := v.dirty.set (a / 8).toNat true })
theorem stepV_same (v : Dv) : v.stepV.cache = v.cache ∧ v.stepV.dirty = v.dirty ∧ v.stepV.lasting = v.lasting ∧ v.stepV.flushed = v.flushed ∧ v.stepV.pending = v.pending := by
  unfold Dv.stepV; split <;> exact ⟨rfl, rfl, rfl, rfl, rfl⟩
theorem nvm_Store_c {d n : Nat} {v : Dv} {a w : Int} (ok : v.Ok n) {k : Int → K} (hk : T B (R * Dev d (v.storeV a w).2) (k (v.storeV a w).1)) : T B (R * Dev d v) (c_nvm_Device_Store (da d) a w k) := by
  refine T_of (nvm_Device_Store_ok _ a w k) ?_
  have hb := ok.big
  have h2 := ok.l2
  have h4 := ok.l4
  unfold Dv.storeV at hk
  by_cases hr : a < 0 ∨ a ≥ v.cache.length
  · rw [if_pos hr] at hk
    (repeat' (first | with_reducible refine T_brT ?_ | with_reducible refine T_brD (fun _ => ?_) (fun _ => ?_)))
    · exact hk
    · unfold da
      refine Dev_open fun q => ?_
      unfold devC
      (repeat (first | with_reducible refine T_nn ?_ | ((with_reducible apply T_ldS); (focus rfl); (focus exact hasA); (focus rfl))))
      refine T_vlen (E := 109) (sz := 1) (s := q.2.1) (vs := wds v.cache) (.init (.init (.init (.init .last)))) fun hn => ?_
      rw [wds_len, Nat.mul_one] at hn
      (repeat' (with_reducible refine T_brD (fun _ => ?_) (fun _ => ?_)))
      · exact Dev_close q hk
      · exfalso; omega
  · rw [if_neg hr] at hk
    (repeat' (first | with_reducible refine T_brT ?_ | with_reducible refine T_brD (fun _ => ?_) (fun _ => ?_)))
    · exfalso; omega
    refine Dev_open fun q => ?_
    unfold devC
    unfold da
    (repeat (first | with_reducible refine T_nn ?_ | ((with_reducible apply T_ldS); (focus rfl); (focus exact hasA); (focus rfl))))
    refine T_vlen (E := 109) (sz := 1) (s := q.2.1) (vs := wds v.cache) (.init (.init (.init (.init .last)))) fun hn => ?_
    rw [wds_len, Nat.mul_one] at hn
    (repeat' (with_reducible refine T_brD (fun _ => ?_) (fun _ => ?_)))
    · exfalso; omega
    refine Dev_close q ?_
    refine nvm_step_c (d := d) ?_
    cases hs : v.stops
    · rw [hs] at hk
      simp only [Bool.not_true, Bool.not_false]
      (repeat (first | with_reducible refine T_nn ?_ | with_reducible refine T_brF ?_))
      refine Dev_open fun q => ?_
      unfold devC
      obtain ⟨e1, e2, e3, e4, e5⟩ := stepV_same v
      rw [e1, e2, e3, e4, e5]
      (repeat (((with_reducible apply T_ldS); (focus rfl); (focus exact hasA); (focus rfl))))
      refine T_stV (i := a) (E := 109) (s := q.2.1) (vs := wds v.cache) (.init (.init (.init (.init .last)))) (by omega) (by rw [wds_len]; omega) ?_
      rw [wds_set]
      (repeat (first | with_reducible refine T_nn ?_ | ((with_reducible apply T_ldS); (focus rfl); (focus exact hasA); (focus rfl))))
      have e8 : Int.tdiv a 8 = a / 8 := Int.tdiv_eq_ediv_of_nonneg (by omega)
      rw [e8, w64 (n := a / 8) (by omega) (by omega)]
      refine T_stV (i := a / 8) (E := 4) (s := q.2.2.2.1) (vs := bls v.dirty) (.init (.init (.init .last))) (by omega) (by rw [bls_len]; omega) ?_
      rw [bls_set]
      simp only [Bool.false_eq_true, if_false] at hk
      have hk' := Dev_close q hk
      refine T.perm ?_ hk'
      simp only [e3, e4, e5]
      unfold devC
      ac_rfl
    · rw [hs] at hk
      simp only [Bool.not_true, Bool.not_false]
      (repeat (with_reducible refine T_brT ?_))
      exact hk
theorem nvm_part_c {d : Option Addr} {s : Sl} {line : Nat} (h1 : line ≤ 2 ^ 40) (h2 : 8 * line + 8 ≤ s.n) (h3 : s.n ≤ s.c) {k : Sl → K} (hk : T B R (k ⟨cutP s.p (8 * line) s.c 1, 8, s.c - 8 * line⟩)) : T B R (c_nvm_Device_part d s line k) := by
  refine T_of (nvm_Device_part_ok _ s line k) ?_
  have e1 : IntKind.wrap .i64 ((IntKind.wrap .i64 ((line : Int) + 1)) * 8) = ((8 * line + 8 : Nat) : Int) := by rw [w64 (n := (line : Int) + 1) (by omega) (by omega), w64 (by omega) (by omega)]; omega
  have e2 : IntKind.wrap .i64 ((line : Int) * 8) = ((8 * line : Nat) : Int) := by rw [w64 (by omega) (by omega)]; omega
  (dsimp only [nvm_Device_part, Zcz0, Zcz1])
  rw [e1, e2]
  refine T_lo (by omega) (by omega) ?_
  refine T_lo (by omega) (by omega) ?_
  rw [Int.toNat_natCast, Int.toNat_natCast, show 8 * line + 8 - 8 * line = 8 by omega]
  exact hk
end
theorem wds_cut (l : List Int) (o n : Nat) : wds (cut l o n) = cut (wds l) o n := cut_map _ _ _ _
theorem wds_splice (l new : List Int) (o : Nat) : wds (splice l o new) = splice (wds l) o (wds new) := splice_map _ _ _ _
section
variable {B : World} {P R : SL} {t : K}
theorem T_rdfull {x : Sl} {vs : List Value} (h : Rd P x 1 vs) (ht : x.n = vs.length → x.n ≤ x.c → T B P t) : T B P t := fun w s => ht (by rw [(h B w s).1, Nat.mul_one]) (by have := (h B w s).2.1; omega) w s
theorem Rd.pieceW {x y : Sl} {l : List Int} {o n : Nat} (h : Rd P x 1 (wds l)) (ho : o + n ≤ l.length) (h1 : y.p = cutP x.p o x.c 1) (h2 : y.n = n) (h3 : y.c = x.c - o) : Rd P y 1 (wds (cut l o n)) := by
  have := Rd.piece (o := o) (n := n) (by omega) h (by rw [wds_len]; omega) h1 h2 h3
  rw [Nat.mul_one, Nat.mul_one, ← wds_cut] at this
  exact this
def line8 (v : Dv) (l : Nat) : Dv := { v with pending := v.pending.set l true, flushed := splice v.flushed (8 * l) (cut v.cache (8 * l) 8) }
def Dv.flushV (v : Dv) (l : Nat) : Int × Dv := if v.stops then (3, v.stepV) else (0, if v.dirty.getD l false then line8 v.stepV l else v.stepV)
theorem nvm_Flush_c {d n : Nat} {v : Dv} {l : Nat} (ok : v.Ok n) (hl : l < n) {k : Int → K} (hk : T B (R * Dev d (v.flushV l).2) (k (v.flushV l).1)) : T B (R * Dev d v) (c_nvm_Device_Flush (da d) l k) := by
  refine T_of (nvm_Device_Flush_ok _ l k) ?_
  have hb := ok.big
  have h2 := ok.l2
  have h3 := ok.l3
  have h4 := ok.l4
  have h5 := ok.l5
  unfold Dv.flushV at hk
  (repeat' (first | with_reducible refine T_brT ?_ | with_reducible refine T_brD (fun _ => ?_) (fun _ => ?_)))
  · exfalso; omega
  refine Dev_open fun q => ?_
  unfold devC
  unfold da
  (repeat (first | with_reducible refine T_nn ?_ | ((with_reducible apply T_ldS); (focus rfl); (focus exact hasA); (focus rfl))))
  refine T_vlen (E := 4) (sz := 1) (s := q.2.2.2.1) (vs := bls v.dirty) (.init (.init .last)) fun hn => ?_
  rw [bls_len, Nat.mul_one] at hn
  (repeat' (with_reducible refine T_brD (fun _ => ?_) (fun _ => ?_)))
  · exfalso; omega
  refine Dev_close q ?_
  refine nvm_step_c (d := d) ?_
  cases hs : v.stops
  · rw [hs] at hk
    simp only [Bool.not_true, Bool.not_false]
    (repeat (first | with_reducible refine T_nn ?_ | with_reducible refine T_brF ?_))
    refine Dev_open fun q => ?_
    unfold devC
    have hs' : ∀ w : Dv, w = v.stepV → w.stepV = w.stepV := fun _ _ => rfl
    obtain ⟨e1, e2, e3, e4, e5⟩ := stepV_same v
    generalize v.stepV = w at *
    (repeat (((with_reducible apply T_ldS); (focus rfl); (focus exact hasA); (focus rfl))))
    have hld : l < w.dirty.length := by rw [e2]; omega
    refine T_ixVB (Rd.vec (E := 4) (s := q.2.2.2.1) (vs := bls w.dirty) (.init (.init .last))) (by omega) (by rw [Int.toNat_natCast]; exact bls_at hld) ?_
    simp only [Bool.false_eq_true, if_false] at hk
    rw [← e2, List.getD_eq_getElem?_getD, List.getElem?_eq_getElem hld, Option.getD_some] at hk
    cases hd : w.dirty[l]
    · rw [hd] at hk
      (repeat (with_reducible refine T_brF ?_))
      exact Dev_close q hk
    · rw [hd] at hk
      (repeat (first | with_reducible refine T_nn ?_ | with_reducible refine T_brT ?_ | ((with_reducible apply T_ldS); (focus rfl); (focus exact hasA); (focus rfl))))
      refine T_stV (i := l) (E := 4) (s := q.2.2.2.2) (vs := bls w.pending) (.init .last) (by omega) (by rw [bls_len]; rw [e5]; omega) ?_
      rw [bls_set, Int.toNat_natCast]
      (repeat (first | with_reducible refine T_nn ?_ | with_reducible refine T_tick ?_ | ((with_reducible apply T_ldS); (focus rfl); (focus exact hasA); (focus rfl))))
      refine T_rdfull (x := q.2.2.1) (Rd.vec (E := 109) (vs := wds w.flushed) (.init (.init (.init .last)))) fun n3 c3 => ?_
      refine T_rdfull (x := q.2.1) (Rd.vec (E := 109) (vs := wds w.cache) (.init (.init (.init (.init .last))))) fun n2 c2 => ?_
      rw [wds_len] at n2 n3
      rw [e1] at n2
      rw [e4] at n3
      refine nvm_part_c (by omega) (by omega) c3 ?_
      (repeat (first | with_reducible refine T_chk0 ?_ | ((with_reducible apply T_chk); (focus rfl); (focus exact hasA); (focus rfl))))
      refine nvm_part_c (by omega) (by omega) c2 ?_
      refine T_copyV (o := 8 * l) kd_u64 (s := q.2.2.1) (vs := wds w.flushed) (.init (.init (.init .last)))
        (Rd.pieceW (l := w.cache) (o := 8 * l) (n := 8) (Rd.vec (E := 109) (s := q.2.1) (.init (.init (.init .last)))) (by rw [e1]; omega) rfl rfl rfl) (wds_scal _) rfl rfl (by rw [wds_len, e4]; simp only; omega) ?_
      rw [← wds_splice]
      refine T.perm ?_ (Dev_close q hk)
      simp only [if_true, line8]
      unfold devC
      ac_rfl
  · rw [hs] at hk
    simp only [Bool.not_true, Bool.not_false]
    (repeat (with_reducible refine T_brT ?_))
    exact hk
def fenceL (v : Dv) (l : Nat) : Dv :=
  if v.pending.getD l false then { v with lasting := splice v.lasting (8 * l) (cut v.flushed (8 * l) 8), pending := v.pending.set l false, dirty := v.dirty.set l (!decide (cut (splice v.lasting (8 * l) (cut v.flushed (8 * l) 8)) (8 * l) 8 = cut v.cache (8 * l) 8)) } else v
def fenceN (v : Dv) : Nat → Dv
  | 0 => v
  | i + 1 => fenceL (fenceN v i) i
def Dv.fenceV (v : Dv) : Int × Dv := if v.stops then (3, v.stepV) else (0, fenceN v.stepV v.pending.length)
theorem fenceL_ok {v : Dv} {n l : Nat} (ok : v.Ok n) (hl : l < n) : (fenceL v l).Ok n := by
  unfold fenceL
  split
  · have h1 := ok.l1
    have h3 := ok.l3
    have hc : (cut v.flushed (8 * l) 8).length = 8 := cut_length (by omega)
    exact ⟨ok.big, by simp only; rw [splice_length (by rw [hc]; omega)]; exact ok.l1, ok.l2, ok.l3, by simpa using ok.l4, by simpa using ok.l5⟩
  · exact ok
theorem fenceN_ok {v : Dv} {n : Nat} (ok : v.Ok n) : ∀ i, i ≤ n → (fenceN v i).Ok n
  | 0, _ => ok
  | i + 1, h => fenceL_ok (fenceN_ok ok i (by omega)) (by omega)
theorem stepV_ok {v : Dv} {n : Nat} (ok : v.Ok n) : v.stepV.Ok n := by
  obtain ⟨e1, e2, e3, e4, e5⟩ := stepV_same v
  exact ⟨ok.big, by rw [e3]; exact ok.l1, by rw [e1]; exact ok.l2, by rw [e4]; exact ok.l3, by rw [e2]; exact ok.l4, by rw [e5]; exact ok.l5⟩
theorem nvm_Fence_c {d n : Nat} {v : Dv} (ok : v.Ok n) {k : Int → K} (hk : T B (R * Dev d v.fenceV.2) (k v.fenceV.1)) : T B (R * Dev d v) (c_nvm_Device_Fence (da d) k) := by
  refine T_of (nvm_Device_Fence_ok _ k) ?_
  unfold Dv.fenceV at hk
  have ok' := stepV_ok ok
  have hp5 : v.pending = v.stepV.pending := (stepV_same v).2.2.2.2.symm
  refine nvm_step_c (d := d) ?_
  cases hs : v.stops
  · rw [hs] at hk
    simp only [Bool.not_true, Bool.not_false]
    (repeat (with_reducible refine T_brF ?_))
    simp only [Bool.false_eq_true, if_false] at hk
    rw [hp5] at hk
    generalize v.stepV = w at *
    unfold da
    refine Dev_open fun q => ?_
    unfold devC
    (repeat (first | with_reducible refine T_nn ?_ | ((with_reducible apply T_ldS); (focus rfl); (focus exact hasA); (focus rfl))))
    refine T_vlen (E := 4) (sz := 1) (s := q.2.2.2.2) (vs := bls w.pending) (.init .last) fun hn => ?_
    rw [bls_len, Nat.mul_one] at hn
    have hw5 := ok'.l5
    have hw := ok'.big
    refine T_lpX (fun n s => R * DevQ d (fenceN w s.1.toNat) q) (fun m (s : Int × Unit) => ∃ i : Nat, i ≤ n ∧ s.1 = i ∧ m = n - i) n ?_ ⟨0, by omega, rfl, by omega⟩ ?_
    · show _ = R * DevQ d w q
      unfold DevQ devC; simp only [sep_assoc]
    rintro m ⟨s1, u⟩ c ⟨i, hi, h1, h2⟩ hc
    simp only at h1
    subst h1 h2
    simp only [Int.toNat_natCast]
    have okv := fenceN_ok ok' i hi
    have hnext : i < n → T B (R * DevQ d (fenceL (fenceN w i) i) q) (c (IntKind.wrap .i64 ((i : Int) + 1), ())) := by
      intro hlt
      have := hc (n - (i + 1)) (IntKind.wrap .i64 ((i : Int) + 1), ()) (by omega) ⟨i + 1, by omega, w64 (by omega) (by omega), rfl⟩
      have e : (IntKind.wrap .i64 ((i : Int) + 1)).toNat = i + 1 := by rw [w64 (by omega) (by omega)]; omega
      simp only [e] at this
      exact this
    clear hc
    unfold fenceL at hnext
    have hend : i = n → T B (R * DevQ d (fenceN w i) q) (k 0) := by
      intro e; subst e; rw [hw5] at hk; exact T_exI q hk
    generalize fenceN w i = v' at *
    have hq : R * DevQ d v' q = R * vec 109 1 q.1 (wds v'.lasting) * vec 109 1 q.2.1 (wds v'.cache) * vec 109 1 q.2.2.1 (wds v'.flushed) * vec 4 1 q.2.2.2.1 (bls v'.dirty) * vec 4 1 q.2.2.2.2 (bls v'.pending) * pt d (devC v' q) := by
      unfold DevQ; simp only [sep_assoc]
    rw [hq] at hend ⊢
    (repeat' (with_reducible refine T_brD (fun _ => ?_) (fun _ => ?_)))
    · rename_i hlt
      have hlt' : i < n := by omega
      have hnx := hnext hlt'
      have o1 := okv.l1; have o2 := okv.l2; have o3 := okv.l3; have o4 := okv.l4; have o5 := okv.l5
      have hip : i < v'.pending.length := by omega
      refine T_ixVB (Rd.vec (E := 4) (s := q.2.2.2.2) (vs := bls v'.pending) (.init .last)) (by omega) (by rw [Int.toNat_natCast]; exact bls_at hip) ?_
      rw [List.getD_eq_getElem?_getD, List.getElem?_eq_getElem hip, Option.getD_some] at hnx
      cases hpi : v'.pending[i]
      · rw [hpi] at hnx
        simp only [Bool.false_eq_true, if_false] at hnx
        rw [hq] at hnx
        (repeat (with_reducible refine T_brF ?_))
        exact hnx
      · rw [hpi] at hnx
        simp only [if_true] at hnx
        (repeat (first | with_reducible refine T_nn ?_ | with_reducible refine T_tick ?_ | with_reducible refine T_brT ?_))
        unfold devC
        (repeat (first | with_reducible refine T_nn ?_ | ((with_reducible apply T_ldS); (focus rfl); (focus exact hasA); (focus rfl))))
        refine T_rdfull (x := q.1) (Rd.vec (E := 109) (vs := wds v'.lasting) (.init (.init (.init (.init (.init .last)))))) fun n1 c1 => ?_
        refine T_rdfull (x := q.2.2.1) (Rd.vec (E := 109) (vs := wds v'.flushed) (.init (.init (.init .last)))) fun n3 c3 => ?_
        refine T_rdfull (x := q.2.1) (Rd.vec (E := 109) (vs := wds v'.cache) (.init (.init (.init (.init .last))))) fun n2 c2 => ?_
        rw [wds_len] at n1 n2 n3
        refine nvm_part_c (by omega) (by omega) c1 ?_
        (repeat (first | with_reducible refine T_chk0 ?_ | ((with_reducible apply T_chk); (focus rfl); (focus exact hasA); (focus rfl))))
        refine nvm_part_c (by omega) (by omega) c3 ?_
        have hcl : (cut v'.flushed (8 * i) 8).length = 8 := cut_length (by omega)
        refine T_copyV (o := 8 * i) kd_u64 (s := q.1) (vs := wds v'.lasting) (.init (.init (.init (.init (.init .last)))))
          (Rd.pieceW (l := v'.flushed) (o := 8 * i) (n := 8) (Rd.vec (E := 109) (s := q.2.2.1) (.init (.init (.init .last)))) (by omega) rfl rfl rfl) (wds_scal _) rfl rfl (by rw [wds_len]; simp only; omega) ?_
        rw [← wds_splice]
        generalize hla : splice v'.lasting (8 * i) (cut v'.flushed (8 * i) 8) = la at *
        have hlal : la.length = 8 * n := by rw [← hla, splice_length (by rw [hcl]; omega)]; exact o1
        (repeat (first | with_reducible refine T_nn ?_ | ((with_reducible apply T_ldS); (focus rfl); (focus exact hasA); (focus rfl))))
        refine T_stV (i := i) (E := 4) (s := q.2.2.2.2) (vs := bls v'.pending) (.init (.init .last)) (by omega) (by rw [bls_len]; omega) ?_
        rw [bls_set, Int.toNat_natCast]
        (repeat (first | with_reducible refine T_nn ?_ | with_reducible refine T_tick ?_ | ((with_reducible apply T_ldS); (focus rfl); (focus exact hasA); (focus rfl))))
        refine nvm_part_c (by omega) (by omega) c1 ?_
        (repeat (first | with_reducible refine T_chk0 ?_ | ((with_reducible apply T_chk); (focus rfl); (focus exact hasA); (focus rfl))))
        refine nvm_part_c (by omega) (by omega) c2 ?_
        (repeat (first | with_reducible refine T_chk0 ?_ | ((with_reducible apply T_chk); (focus rfl); (focus exact hasA); (focus rfl))))
        refine equal_u64_c (l1 := cut la (8 * i) 8) (l2 := cut v'.cache (8 * i) 8) (by rw [cut_length (by omega)]; omega)
          (Rd.pieceW (o := 8 * i) (n := 8) (Rd.vec (E := 109) (s := q.1) (.init .last)) (by omega) rfl rfl rfl)
          (Rd.pieceW (o := 8 * i) (n := 8) (Rd.vec (E := 109) (s := q.2.1) (.init (.init (.init (.init (.init .last)))))) (by omega) rfl rfl rfl) ?_
        (repeat (first | with_reducible refine T_chk0 ?_ | ((with_reducible apply T_chk); (focus rfl); (focus exact hasA); (focus rfl))))
        refine T_stV (i := i) (E := 4) (s := q.2.2.2.1) (vs := bls v'.dirty) (.init (.init (.init .last))) (by omega) (by rw [bls_len]; omega) ?_
        rw [bls_set, Int.toNat_natCast]
        refine T.perm ?_ hnx
        unfold DevQ devC
        ac_rfl
    · rename_i hge
      exact hend (by omega)
  · rw [hs] at hk
    simp only [Bool.not_true, Bool.not_false]
    (repeat (with_reducible refine T_brT ?_))
    exact hk
end
def ln (L : List Int) (l : Nat) : List Int := cut L (8 * l) 8
theorem ln_splice {L new : List Int} {m l n : Nat} (hL : L.length = 8 * n) (hm : m < n) (hn : new.length = 8) : ln (splice L (8 * m) new) l = if l = m then new else ln L l := by
  unfold ln
  apply List.ext_getElem?
  intro j
  by_cases hj : j < 8
  · rw [cut_get hj]
    unfold splice
    split
    · rename_i h; subst h
      rw [List.getElem?_append_left (by simp; omega), List.getElem?_append_right (by simp; omega)]
      congr 1; simp; omega
    · rename_i h
      rw [cut_get hj]
      by_cases hlt : l < m
      · rw [List.append_assoc, List.getElem?_append_left (by simp; omega), List.getElem?_take_of_lt (by omega)]
      · rw [List.getElem?_append_right (by simp; omega), List.getElem?_drop]
        congr 1
        simp only [List.length_append, List.length_take, hn, hL]
        omega
  · have : (cut (splice L (8 * m) new) (8 * l) 8)[j]? = none := List.getElem?_eq_none (by simp [cut]; omega)
    rw [this]
    split
    · rw [List.getElem?_eq_none (by omega)]
    · rw [List.getElem?_eq_none (by simp [cut]; omega)]
theorem getD_setB {l : List Bool} {i j : Nat} {b : Bool} (h : i < l.length) : (l.set i b).getD j false = if j = i then b else l.getD j false := by
  rw [List.getD_eq_getElem?_getD, List.getElem?_set]
  split
  · rename_i e; subst e; simp [h]
  · rename_i e; rw [if_neg (Ne.symm e), List.getD_eq_getElem?_getD]
theorem fenceN_spec {v : Dv} {n : Nat} (ok : v.Ok n) : ∀ i, i ≤ n → (fenceN v i).cache = v.cache ∧ (fenceN v i).flushed = v.flushed ∧ (fenceN v i).armed = v.armed ∧ (fenceN v i).dead = v.dead ∧
    (∀ l, l < n → ln (fenceN v i).lasting l = if l < i ∧ v.pending.getD l false = true then ln v.flushed l else ln v.lasting l) ∧
    (∀ l, l < n → (fenceN v i).pending.getD l false = if l < i then false else v.pending.getD l false) ∧
    (∀ l, l < n → (fenceN v i).dirty.getD l false = if l < i ∧ v.pending.getD l false = true then !decide (ln v.flushed l = ln v.cache l) else v.dirty.getD l false) := by
  intro i
  induction i with
  | zero => intro _; refine ⟨rfl, rfl, rfl, rfl, ?_, ?_, ?_⟩ <;> (intro l _; simp [fenceN])
  | succ i ih =>
    intro hi
    obtain ⟨h1, h2, h3, h4, h5, h6, h7⟩ := ih (by omega)
    have okw := fenceN_ok ok i (by omega)
    show (fenceL (fenceN v i) i).cache = _ ∧ (fenceL (fenceN v i) i).flushed = _ ∧ (fenceL (fenceN v i) i).armed = _ ∧ (fenceL (fenceN v i) i).dead = _ ∧ (∀ l, l < n → ln (fenceL (fenceN v i) i).lasting l = _) ∧ (∀ l, l < n → (fenceL (fenceN v i) i).pending.getD l false = _) ∧ (∀ l, l < n → (fenceL (fenceN v i) i).dirty.getD l false = _)
    have hpi := h6 i (by omega)
    rw [if_neg (by omega)] at hpi
    generalize fenceN v i = w at *
    unfold fenceL
    rw [hpi]
    have hcl : (cut w.flushed (8 * i) 8).length = 8 := cut_length (by have := okw.l3; omega)
    cases hp : v.pending.getD i false
    · simp only [Bool.false_eq_true, if_false]
      refine ⟨h1, h2, h3, h4, fun l hl => ?_, fun l hl => ?_, fun l hl => ?_⟩
      · rw [h5 l hl]
        by_cases e : l = i
        · subst e; rw [hp]; simp
        · simp only [show l < i + 1 ↔ l < i by omega]
      · rw [h6 l hl]
        by_cases e : l = i
        · subst e; rw [hp]; simp
        · simp only [show l < i + 1 ↔ l < i by omega]
      · rw [h7 l hl]
        by_cases e : l = i
        · subst e; rw [hp]; simp
        · simp only [show l < i + 1 ↔ l < i by omega]
    · simp only [if_true]
      have hs : ∀ l, ln (splice w.lasting (8 * i) (cut w.flushed (8 * i) 8)) l = if l = i then ln v.flushed i else ln w.lasting l := by
        intro l
        rw [ln_splice okw.l1 (by omega) hcl, h2]; rfl
      refine ⟨h1, h2, h3, h4, fun l hl => ?_, fun l hl => ?_, fun l hl => ?_⟩
      · rw [hs l]
        by_cases e : l = i
        · subst e; rw [if_pos rfl, if_pos ⟨by omega, hp⟩]
        · rw [if_neg e, h5 l hl]; simp only [show l < i + 1 ↔ l < i by omega]
      · rw [getD_setB (by rw [okw.l5]; omega)]
        by_cases e : l = i
        · subst e; rw [if_pos rfl, if_pos (by omega)]
        · rw [if_neg e, h6 l hl]; simp only [show l < i + 1 ↔ l < i by omega]
      · rw [getD_setB (by rw [okw.l4]; omega)]
        by_cases e : l = i
        · subst e
          rw [if_pos rfl, if_pos ⟨by omega, hp⟩]
          have := hs l
          rw [if_pos rfl] at this
          show (!decide (ln (splice w.lasting (8 * l) (cut w.flushed (8 * l) 8)) l = ln w.cache l)) = _
          rw [this, h1]
        · rw [if_neg e, h7 l hl]; simp only [show l < i + 1 ↔ l < i by omega]
/-- a device that goes on, with nothing flushed that was not fenced -/
structure Live (v : Dv) (n : Nat) : Prop where
  ok : v.Ok n
  a : v.armed = false
  de : v.dead = false
  pe : ∀ l, l < n → v.pending.getD l false = false
  cl : ∀ l, l < n → v.dirty.getD l false = false → ln v.lasting l = ln v.cache l
/-- .. lines from one up to another were flushed -/
structure Mid (v0 v : Dv) (n a b : Nat) : Prop where
  ok : v.Ok n
  ar : v.armed = false
  de : v.dead = false
  ca : v.cache = v0.cache
  la : v.lasting = v0.lasting
  di : v.dirty = v0.dirty
  pe : ∀ l, l < n → v.pending.getD l false = (decide (a ≤ l ∧ l < b) && v0.dirty.getD l false)
  fl : ∀ l, l < n → v.pending.getD l false = true → ln v.flushed l = ln v.cache l
theorem Live.mid {v : Dv} {n : Nat} (h : Live v n) (a : Nat) : Mid v v n a a := by
  refine ⟨h.ok, h.a, h.de, rfl, rfl, rfl, fun l hl => ?_, fun l hl hp => ?_⟩
  · rw [h.pe l hl]
    have : decide (a ≤ l ∧ l < a) = false := decide_eq_false (by omega)
    rw [this]; rfl
  · rw [h.pe l hl] at hp; cases hp
theorem stepV_go {v : Dv} (h1 : v.armed = false) (h2 : v.dead = false) : v.stops = false ∧ v.stepV = { v with fuse := IntKind.wrap .i64 (v.fuse - 1), steps := IntKind.wrap .i64 (v.steps + 1) } := by
  have : v.stops = false := by unfold Dv.stops; rw [h1, h2]; rfl
  exact ⟨this, by unfold Dv.stepV; rw [this]; rfl⟩
theorem Mid.flush {v0 v : Dv} {n a b : Nat} (h : Mid v0 v n a b) (hb : b < n) (hab : a ≤ b) : (v.flushV b).1 = 0 ∧ Mid v0 (v.flushV b).2 n a (b + 1) := by
  obtain ⟨s1, s2⟩ := stepV_go h.ar h.de
  have hlp : b < v.pending.length := by rw [h.ok.l5]; exact hb
  have hcl : (cut v.cache (8 * b) 8).length = 8 := cut_length (by rw [h.ok.l2]; omega)
  unfold Dv.flushV
  rw [s1, s2]
  simp only [Bool.false_eq_true, if_false, true_and]
  cases hd : v.dirty.getD b false
  · simp only [Bool.false_eq_true, if_false]
    refine ⟨⟨h.ok.big, h.ok.l1, h.ok.l2, h.ok.l3, h.ok.l4, h.ok.l5⟩, h.ar, h.de, h.ca, h.la, h.di, fun l hl => ?_, h.fl⟩
    show v.pending.getD l false = _
    rw [h.pe l hl]
    by_cases e : l = b
    · subst e; rw [← h.di, hd]; try simp
    · simp only [show (a ≤ l ∧ l < b + 1) ↔ (a ≤ l ∧ l < b) by omega]
  · simp only [if_true]
    unfold line8
    refine ⟨⟨h.ok.big, h.ok.l1, h.ok.l2, ?_, h.ok.l4, ?_⟩, h.ar, h.de, h.ca, h.la, h.di, fun l hl => ?_, fun l hl => ?_⟩
    · simp only; rw [splice_length (by rw [hcl, h.ok.l3]; omega)]; exact h.ok.l3
    · simp only [List.length_set]; exact h.ok.l5
    · simp only
      rw [getD_setB hlp]
      by_cases e : l = b
      · subst e; rw [if_pos rfl, ← h.di, hd]; simp; omega
      · rw [if_neg e, h.pe l hl]; simp only [show (a ≤ l ∧ l < b + 1) ↔ (a ≤ l ∧ l < b) by omega]
    · simp only
      rw [getD_setB hlp, ln_splice h.ok.l3 hb hcl]
      by_cases e : l = b
      · subst e; intro _; rw [if_pos rfl]; rfl
      · rw [if_neg e, if_neg e]; exact h.fl l hl
theorem Mid.fence {v0 v : Dv} {n a b : Nat} (h0 : Live v0 n) (h : Mid v0 v n a b) : v.fenceV.1 = 0 ∧ Live v.fenceV.2 n ∧ v.fenceV.2.cache = v0.cache ∧ ∀ l, l < n → ln v.fenceV.2.lasting l = if a ≤ l ∧ l < b then ln v0.cache l else ln v0.lasting l := by
  obtain ⟨s1, s2⟩ := stepV_go h.ar h.de
  have okw : ({ v with fuse := IntKind.wrap .i64 (v.fuse - 1), steps := IntKind.wrap .i64 (v.steps + 1) } : Dv).Ok n := ⟨h.ok.big, h.ok.l1, h.ok.l2, h.ok.l3, h.ok.l4, h.ok.l5⟩
  unfold Dv.fenceV
  rw [s1, s2, h.ok.l5]
  simp only [Bool.false_eq_true, if_false, true_and]
  obtain ⟨h1, h2, h3, h4, h5, h6, h7⟩ := fenceN_spec okw n (Nat.le_refl _)
  have okf := fenceN_ok okw n (Nat.le_refl _)
  generalize fenceN { v with fuse := IntKind.wrap .i64 (v.fuse - 1), steps := IntKind.wrap .i64 (v.steps + 1) } n = w at *
  simp only at h1 h2 h3 h4 h5 h6 h7
  have key : ∀ l, l < n → ln w.lasting l = if a ≤ l ∧ l < b then ln v0.cache l else ln v0.lasting l := by
    intro l hl
    rw [h5 l hl]
    have hp := h.pe l hl
    cases hpl : v.pending.getD l false
    · rw [if_neg (by simp), h.la]
      rw [hpl] at hp
      split
      · rename_i hin
        refine h0.cl l hl ?_
        have : decide (a ≤ l ∧ l < b) = true := by simpa using hin
        rw [this] at hp; simpa using hp.symm
      · rfl
    · rw [if_pos ⟨hl, rfl⟩, h.fl l hl hpl, h.ca]
      rw [hpl] at hp
      have := (Bool.and_eq_true_iff.1 hp.symm).1
      rw [if_pos (by simpa using this)]
  refine ⟨⟨okf, h3.trans h.ar, h4.trans h.de, fun l hl => ?_, fun l hl hd => ?_⟩, h1.trans h.ca, key⟩
  · rw [h6 l hl, if_pos hl]
  · rw [key l hl, h1, h.ca]
    have := h7 l hl
    rw [hd] at this
    have hp := h.pe l hl
    split
    · rfl
    · rename_i hin
      have hf : decide (a ≤ l ∧ l < b) = false := by simpa using hin
      rw [hf, Bool.false_and] at hp
      rw [hp, if_neg (by simp), h.di] at this
      exact h0.cl l hl this.symm
section
variable {B : World} {P R : SL} {t : K}
theorem Live.storeV {v : Dv} {n : Nat} {a w : Int} (h : Live v n) (h0 : 0 ≤ a) (h1 : a < v.cache.length) : (v.storeV a w).1 = 0 ∧ Live (v.storeV a w).2 n ∧ (v.storeV a w).2.cache = v.cache.set a.toNat w ∧ (v.storeV a w).2.lasting = v.lasting := by
  obtain ⟨s1, s2⟩ := stepV_go h.a h.de
  have hl2 := h.ok.l2
  have hl4 := h.ok.l4
  unfold Dv.storeV
  rw [if_neg (by omega), s1, s2]
  simp only [Bool.false_eq_true, if_false, true_and, and_true]
  refine ⟨⟨h.ok.big, h.ok.l1, ?_, h.ok.l3, ?_, h.ok.l5⟩, h.a, h.de, h.pe, fun l hl hd => ?_⟩
  · simp only [List.length_set]; exact hl2
  · simp only [List.length_set]; exact hl4
  · simp only at hd ⊢
    rw [getD_setB (by omega)] at hd
    split at hd
    · cases hd
    · rename_i hne
      have := h.cl l hl hd
      rw [this]
      unfold ln cut
      apply List.ext_getElem?
      intro j
      by_cases hj : j < 8
      · rw [List.getElem?_take_of_lt hj, List.getElem?_take_of_lt hj, List.getElem?_drop, List.getElem?_drop, List.getElem?_set]
        rw [if_neg (by omega)]
      · rw [List.getElem?_eq_none (by simp; omega), List.getElem?_eq_none (by simp; omega)]
/-- what a live device is: its words now, and those that last -/
def LDev (d n : Nat) (c la : List Int) : SL := ex fun v => Dev d v * pu (Live v n ∧ v.cache = c ∧ v.lasting = la)
theorem LDev_open {d n : Nat} {c la : List Int} (h : ∀ v, Live v n → v.cache = c → v.lasting = la → T B (R * Dev d v) t) : T B (R * LDev d n c la) t := by
  refine T_ex fun v => ?_
  rw [← sep_assoc]
  exact T_pu fun hv => h v hv.1 hv.2.1 hv.2.2
theorem LDev_close {d n : Nat} {v : Dv} {c la : List Int} (hv : Live v n) (h1 : v.cache = c) (h2 : v.lasting = la) (h : T B (R * LDev d n c la) t) : T B (R * Dev d v) t := by
  refine T_puI (φ := Live v n ∧ v.cache = c ∧ v.lasting = la) ⟨hv, h1, h2⟩ ?_
  rw [sep_assoc]
  exact T_exI v h
theorem LLen_c {d n : Nat} {c la : List Int} {k : Int → K} (hk : c.length = 8 * n → n ≤ 2 ^ 32 → T B (R * LDev d n c la) (k ((8 * n : Nat) : Int))) : T B (R * LDev d n c la) (c_nvm_Device_Len (da d) k) := by
  refine LDev_open fun v hv h1 h2 => ?_
  refine nvm_Len_c (LDev_close hv h1 h2 ?_)
  have hl := hv.ok.l2
  rw [hl]
  exact hk (h1 ▸ hl) hv.ok.big
theorem LGet_c {d n : Nat} {c la : List Int} {a : Int} {k : Int → K} (hk : T B (R * LDev d n c la) (k (getI c a))) : T B (R * LDev d n c la) (c_nvm_Device_Get (da d) a k) := by
  refine LDev_open fun v hv h1 h2 => ?_
  refine nvm_Get_c (LDev_close hv h1 h2 ?_)
  rw [h1]; exact hk
theorem LLasting_c {d n : Nat} {c la : List Int} {a : Int} {k : Int → K} (hk : T B (R * LDev d n c la) (k (getI la a))) : T B (R * LDev d n c la) (c_nvm_Device_Lasting (da d) a k) := by
  refine LDev_open fun v hv h1 h2 => ?_
  refine nvm_Lasting_c (LDev_close hv h1 h2 ?_)
  rw [h2]; exact hk
theorem LStore_c {d n : Nat} {c la : List Int} {a w : Int} {k : Int → K} (h0 : 0 ≤ a) (h1 : a < 8 * n) (hk : T B (R * LDev d n (c.set a.toNat w) la) (k 0)) : T B (R * LDev d n c la) (c_nvm_Device_Store (da d) a w k) := by
  refine LDev_open fun v hv e1 e2 => ?_
  have hl := hv.ok.l2
  obtain ⟨s1, s2, s3, s4⟩ := hv.storeV (w := w) h0 (by omega)
  refine nvm_Store_c hv.ok ?_
  rw [s1]
  exact LDev_close s2 (by rw [s3, e1]) (by rw [s4, e2]) hk
/-- what lasts behind a Persist -/
def Pst (n a b : Nat) (c la la' : List Int) : Prop := la'.length = 8 * n ∧ ∀ l, l < n → ln la' l = if a ≤ l ∧ l < b then ln c l else ln la l
theorem LPersist_c {d n : Nat} {c la : List Int} {a w : Int} {k : Int → K} (h0 : 0 ≤ a) (h1 : 0 < w) (h2 : a + w ≤ 8 * n)
    (hk : ∀ la', Pst n (a / 8).toNat ((a + w - 1) / 8 + 1).toNat c la la' → T B (R * LDev d n c la') (k 0)) : T B (R * LDev d n c la) (c_nvm_Device_Persist (da d) a w k) := by
  refine T_of (nvm_Device_Persist_ok _ a w k) ?_
  (repeat' (first | with_reducible refine T_brT ?_ | with_reducible refine T_brD (fun _ => ?_) (fun _ => ?_)))
  · exfalso; omega
  · exfalso; omega
  refine LLen_c fun hl hn => ?_
  (repeat' (first | with_reducible refine T_brT ?_ | with_reducible refine T_brD (fun _ => ?_) (fun _ => ?_)))
  · exfalso; omega
  refine LLen_c fun hl hn => ?_
  (repeat' (with_reducible refine T_brD (fun _ => ?_) (fun _ => ?_)))
  · rename_i h
    exfalso
    rw [w64 (by omega) (by omega)] at h; omega
  · obtain ⟨a0, ha0⟩ : ∃ m : Nat, a / 8 = m := ⟨(a / 8).toNat, by omega⟩
    obtain ⟨b0, hb0⟩ : ∃ m : Nat, (a + w - 1) / 8 + 1 = m := ⟨((a + w - 1) / 8 + 1).toNat, by omega⟩
    rw [ha0, hb0] at hk
    simp only [Int.toNat_natCast] at hk
    refine LDev_open fun v hv e1 e2 => ?_
    subst e1 e2
    have e3 : IntKind.wrap .i64 (Int.tdiv a 8) = (a0 : Int) := by rw [Int.tdiv_eq_ediv_of_nonneg h0, w64 (by omega) (by omega)]; exact ha0
    have e4 : IntKind.wrap .i64 (Int.tdiv (IntKind.wrap .i64 ((IntKind.wrap .i64 (a + w)) - 1)) 8) = (b0 : Int) - 1 := by
      rw [w64 (n := a + w) (by omega) (by omega), w64 (n := a + w - 1) (by omega) (by omega), Int.tdiv_eq_ediv_of_nonneg (by omega), w64 (by omega) (by omega)]; omega
    (dsimp only [nvm_Device_Persist, Zcw0, Zcw1, Zcw2, Zcw3, Zcw4, Zcw5, Zcw6, Zcw7, Zcw8, Zcw9, Zcw10, Zcw11, Zcw12])
    rw [e3, e4]
    have hm0 := hv.mid a0
    have close : ∀ (v' : Dv) (j : Nat) (t : K), Mid v v' n a0 j → T B (R * ex fun v' => Dev d v' * pu (Mid v v' n a0 j)) t → T B (R * Dev d v') t := by
      intro v' j t hm h
      refine T_puI hm ?_
      rw [sep_assoc]
      exact T_exI v' h
    refine T_lpW (fun m s => R * ex fun v' => Dev d v' * pu (Mid v v' n a0 s.1.toNat)) (fun m (s : Int × Unit) => ∃ i : Nat, s.1 = i ∧ a0 ≤ i ∧ i ≤ b0 ∧ m = b0 - i) (b0 - a0)
      (fun t ht => close v a0 t hm0 (by simpa using ht)) ⟨a0, rfl, by omega, by omega, rfl⟩ ?_
    rintro m ⟨s1, u⟩ c ⟨i, h3, h4, h5, h6⟩ hc
    simp only at h3
    subst h3 h6
    simp only [Int.toNat_natCast]
    refine T_ex fun v' => ?_
    rw [← sep_assoc]
    refine T_pu fun hm => ?_
    (repeat' (with_reducible refine T_brD (fun _ => ?_) (fun _ => ?_)))
    · rename_i hle
      have hlt : i < b0 := by omega
      obtain ⟨f1, f2⟩ := hm.flush (by omega) h4
      refine nvm_Flush_c hm.ok (by omega) ?_
      rw [f1]
      skip
      have := hc (b0 - (i + 1)) (IntKind.wrap .i64 ((i : Int) + 1), ()) (by omega) ⟨i + 1, w64 (by omega) (by omega), by omega, by omega, rfl⟩
      have e : (IntKind.wrap .i64 ((i : Int) + 1)).toNat = i + 1 := by rw [w64 (by omega) (by omega)]; omega
      simp only [e] at this
      (repeat' (with_reducible refine T_brNE (fun _ => ?_) (fun _ => ?_)))
      · rename_i hx; exact absurd rfl hx
      exact close _ (i + 1) _ f2 this
    · rename_i hgt
      have hib : i = b0 := by omega
      subst hib
      obtain ⟨f1, f2, f3, f4⟩ := hm.fence hv
      refine nvm_Fence_c hm.ok ?_
      rw [f1]
      exact LDev_close f2 f3 rfl (hk _ ⟨f2.ok.l1, f4⟩)
  · exfalso; omega
end
section
variable {B : World} {P R : SL} {t t1 t2 : K}
theorem T_andK (h1 : T B P t1) (h2 : T B P t2) : T B P (andK t1 t2) := fun w s => ⟨h1 w s, h2 w s⟩
theorem T_true : T B P (fun _ => True) := fun _ _ => trivial
def newV (l : List Int) (n : Nat) : Dv := ⟨l, l, List.replicate (8 * n) 0, List.replicate n false, List.replicate n false, 0, 0, false, false⟩
theorem newV_live {l : List Int} {n : Nat} (hl : l.length = 8 * n) (hn : n ≤ 2 ^ 32) : Live (newV l n) n := by
  refine ⟨⟨hn, hl, hl, by simp [newV], by simp [newV], by simp [newV]⟩, rfl, rfl, fun i hi => ?_, fun i hi _ => rfl⟩
  simp only [newV, List.getD_eq_getElem?_getD, List.getElem?_replicate, hi, if_true, Option.getD_some]
theorem Dev_new {d n : Nat} {l : List Int} (hl : l.length = 8 * n) (hn : n ≤ 2 ^ 32) {s1 s2 : Sl} {p3 p4 p5 : Option Addr} {n3 c3 n4 c4 n5 c5 : Nat}
    (hP : P = R * vec 109 1 s1 (wds l) * vec 109 1 s2 (wds l) * vec 109 1 ⟨p3, n3, c3⟩ (wds (List.replicate (8 * n) 0)) * vec 4 1 ⟨p4, n4, c4⟩ (bls (List.replicate n false)) * vec 4 1 ⟨p5, n5, c5⟩ (bls (List.replicate n false)))
    (h : T B (R * LDev d n l l) t) :
    T B (P * pt d (.cells #[s1.v, s2.v, .slice p3 n3 c3, .slice p4 n4 c4, .slice p5 n5 c5, .int .i64 0, .int .i64 0, .bool false, .bool false] 165)) t := by
  subst hP
  exact Dev_close (v := newV l n) (s1, s2, ⟨p3, n3, c3⟩, ⟨p4, n4, c4⟩, ⟨p5, n5, c5⟩) (LDev_close (newV_live hl hn) rfl rfl h)
theorem nvm_load_c {s : Sl} {l : List Int} {n : Nat} (hl : l.length = 8 * n) (hn : n ≤ 2 ^ 32) {k : Option Addr → K} (hk : ∀ d, T B (R * LDev d n l l) (k (da d))) : T B (R * vec 109 1 s (wds l)) (c_nvm_load s k) := by
  refine T_of (nvm_load_ok s k) ?_
  refine T_vlen (.last) fun hs => ?_
  rw [wds_len, Nat.mul_one, hl] at hs
  have e1 : IntKind.wrap .i64 (Int.tdiv ((s.n : Nat) : Int) 8) = ((n : Nat) : Int) := by rw [hs, Int.tdiv_eq_ediv_of_nonneg (by omega), w64 (by omega) (by omega)]; omega
  (dsimp only [nvm_load, Zdb0, Zdb1])
  rw [e1, hs]
  (repeat (with_reducible refine T_tick ?_))
  have hr3 : repZ (zerosP Tryz.prog 109) (Int.toNat ((8 * n : Nat) : Int)) = wds (List.replicate (8 * n) 0) := by rw [Int.toNat_natCast, repZ_wds]
  have hr4 : repZ (zerosP Tryz.prog 4) (Int.toNat ((n : Nat) : Int)) = bls (List.replicate n false) := by rw [Int.toNat_natCast, repZ_bls]
  repeat' (first
    | with_reducible exact T_true
    | with_reducible refine T_andK ?_ ?_
    | refine clone_u64_c (l := l) (by omega) (Rd.vec (E := 109) (s := s) (by exact frmA)) fun s' => ?_
    | refine T_mkV kd_u64 (by omega) (by omega) (by omega) fun b => ?_
    | refine T_mkV kd_bool (by omega) (by omega) (by omega) fun b => ?_
    | with_reducible refine T_al fun d => ?_)
  all_goals
    rw [hr3, hr4]
    refine Dev_new (R := R) hl hn ?_ (hk _)
    ac_rfl
theorem nvm_New_c {w : Int} {n : Nat} (hw : w = 8 * n) (hn : n ≤ 2 ^ 32) {k : Option Addr → K} (hk : ∀ d, T B (R * LDev d n (List.replicate (8 * n) 0) (List.replicate (8 * n) 0)) (k (da d))) : T B R (c_nvm_New w k) := by
  refine T_of (nvm_New_ok w k) ?_
  subst hw
  refine bits_Up_c (by omega) (by omega) (by omega) ?_
  have e1 : (8 * (n : Int) + 8 - 1) / 8 = n := by omega
  have e2 : IntKind.wrap .i64 ((n : Int) * 8) = ((8 * n : Nat) : Int) := by rw [w64 (by omega) (by omega)]; omega
  (dsimp only [nvm_New, Zcu0, Zcu1, Zcu2])
  rw [e1, e2]
  refine T_mkV kd_u64 (by omega) (by omega) (by omega) fun b => ?_
  rw [Int.toNat_natCast, repZ_wds]
  exact nvm_load_c (by simp) hn hk
end
/-- cells that an address leads to, wherever the assertion holds -/
def At (P : SL) (a : Addr) (vs : List Value) : Prop := ∀ B w, Sat B P w → ∀ j v, vs[j]? = some v → w.cell? (a.add j) = some v
section
variable {B : World} {P Q R : SL} {t : K}
theorem At.init {a : Addr} {vs : List Value} (h : At P a vs) : At (P * Q) a vs := fun B w s => h B w s.left
theorem T_ixEl {s : Sl} {sz : Nat} {vs : List Value} {i : Int} {k : Addr → K} (hsz : 0 < sz) (h : Rd P s sz vs) (h0 : 0 ≤ i) (hi : (i.toNat + 1) * sz ≤ vs.length) (ht : ∀ a, At P a (cut vs (i.toNat * sz) sz) → T B P (k a)) : T B P (ixS s.p s.n i sz k) := by
  intro w hw
  obtain ⟨e1, _, e3⟩ := h B w hw
  have hlt : i.toNat < s.n := by
    rw [e1] at hi
    exact Nat.le_of_mul_le_mul_right hi hsz
  rw [Nat.add_mul, Nat.one_mul] at hi
  rcases e3 with ⟨_, rfl⟩ | ⟨a, p1, p2⟩
  · simp at hi; omega
  · refine ⟨a, p1, ⟨h0, by omega⟩, ht _ (fun B' w' hw' j v hj => ?_) w hw⟩
    obtain ⟨_, _, f3⟩ := h B' w' hw'
    have hjs : j < sz := by
      have : (cut vs (i.toNat * sz) sz).length = sz := cut_length hi
      rw [← this]; exact (List.getElem?_eq_some_iff.1 hj).1
    rw [cut_get hjs] at hj
    rcases f3 with ⟨q1, _⟩ | ⟨a', q1, q2⟩
    · rw [p1] at q1; cases q1
    · rw [p1] at q1; cases q1
      rw [add_add]; exact q2 _ _ hj
theorem T_ldAt {a : Addr} {vs : List Value} {j : Nat} {kd : IntKind} {n : Int} {k : Int → K} (h : At P a vs) (hj : vs[j]? = some (.int kd n)) (ht : T B P (k n)) : T B P (ldI kd (a.add j) k) :=
  fun w hw => ⟨n, h B w hw j _ hj, ht w hw⟩
theorem T_vopen {E : TypeId} {sz : Nat} {s : Sl} {vs : List Value} (hF : Frm P (vec E sz s vs) R) (hne : vs ≠ [])
    (ht : ∀ b rest, s.p = some ⟨b, 0, none⟩ → s.n * sz = vs.length → s.c * sz = vs.length + rest.length → s.c ≤ maxLen → T B (R * pt b (.cells (vs ++ rest).toArray E)) t) : T B P t := by
  unfold Frm at hF; subst hF
  intro w hw
  rcases vec_cases hw with ⟨_, _, rfl, _⟩ | ⟨b, rest, h1, h2, h3, h4, hR⟩
  · exact absurd rfl hne
  · exact ht b rest h1 h2 h3 h4 w hR
/-- headers of blocks -/
def hds (l : List Hd) : List Value := l.flatMap fun h => [.int .i64 h.1, .int .i64 h.2.1, .int .i64 h.2.2]
def prs (l : List (Int × Int)) : List Value := l.flatMap fun h => [.int .i64 h.1, .int .i64 h.2]
theorem kd_hd : Kd Tryz.prog 80 143 3 := ⟨by kernel_rfl, by kernel_rfl, by kernel_rfl, by kernel_rfl, by kernel_rfl, by decide +kernel, by decide +kernel⟩
theorem kd_sp : Kd Tryz.prog 150 152 2 := ⟨by kernel_rfl, by kernel_rfl, by kernel_rfl, by kernel_rfl, by kernel_rfl, by decide +kernel, by decide +kernel⟩
theorem hds_cons (h : Hd) (l : List Hd) : hds (h :: l) = .int .i64 h.1 :: .int .i64 h.2.1 :: .int .i64 h.2.2 :: hds l := rfl
theorem prs_cons (h : Int × Int) (l : List (Int × Int)) : prs (h :: l) = .int .i64 h.1 :: .int .i64 h.2 :: prs l := rfl
theorem hds_append (l m : List Hd) : hds (l ++ m) = hds l ++ hds m := List.flatMap_append
theorem prs_append (l m : List (Int × Int)) : prs (l ++ m) = prs l ++ prs m := List.flatMap_append
theorem hds_len (l : List Hd) : (hds l).length = l.length * 3 := by
  induction l with
  | nil => rfl
  | cons h l ih => rw [hds_cons]; simp only [List.length_cons, ih]; omega
theorem prs_len (l : List (Int × Int)) : (prs l).length = l.length * 2 := by
  induction l with
  | nil => rfl
  | cons h l ih => rw [prs_cons]; simp only [List.length_cons, ih]; omega
theorem hds_scal (l : List Hd) : (hds l).all scal = true := by
  induction l with
  | nil => rfl
  | cons h l ih => rw [hds_cons]; simp only [List.all_cons, ih, scal, Bool.and_self]
theorem hds_cut {l : List Hd} {i : Nat} (h : i < l.length) : cut (hds l) (i * 3) 3 = [.int .i64 l[i].1, .int .i64 l[i].2.1, .int .i64 l[i].2.2] := by
  induction l generalizing i with
  | nil => simp at h
  | cons x l ih =>
    cases i with
    | zero => rfl
    | succ i =>
      have := ih (i := i) (by simpa using h)
      rw [hds_cons, List.getElem_cons_succ, ← this]
      unfold cut
      rw [show (i + 1) * 3 = i * 3 + 1 + 1 + 1 by omega]; rfl
theorem prs_cut {l : List (Int × Int)} {i : Nat} (h : i < l.length) : cut (prs l) (i * 2) 2 = [.int .i64 l[i].1, .int .i64 l[i].2] := by
  induction l generalizing i with
  | nil => simp at h
  | cons x l ih =>
    cases i with
    | zero => rfl
    | succ i =>
      have := ih (i := i) (by simpa using h)
      rw [prs_cons, List.getElem_cons_succ, ← this]
      unfold cut
      rw [show (i + 1) * 2 = i * 2 + 1 + 1 by omega]; rfl
theorem hds_set {l : List Hd} {i : Nat} {x : Hd} (h : i < l.length) : (((hds l).set (i * 3) (.int .i64 x.1)).set (i * 3 + 1) (.int .i64 x.2.1)).set (i * 3 + 2) (.int .i64 x.2.2) = hds (l.set i x) := by
  induction l generalizing i with
  | nil => simp at h
  | cons y l ih =>
    cases i with
    | zero => rfl
    | succ i =>
      have := ih (i := i) (by simpa using h)
      rw [List.set_cons_succ, hds_cons, hds_cons, ← this, show (i + 1) * 3 = i * 3 + 1 + 1 + 1 by omega]; rfl
theorem prs_set1 {l : List (Int × Int)} {i : Nat} {x : Int} (h : i < l.length) : (prs l).set (i * 2 + 1) (.int .i64 x) = prs (l.set i (l[i].1, x)) := by
  induction l generalizing i with
  | nil => simp at h
  | cons y l ih =>
    cases i with
    | zero => rfl
    | succ i =>
      have := ih (i := i) (by simpa using h)
      rw [List.getElem_cons_succ, List.set_cons_succ, prs_cons, prs_cons, ← this, show (i + 1) * 2 + 1 = i * 2 + 1 + 1 + 1 by omega]; rfl
theorem repZ_hds (n : Nat) : repZ (zerosP Tryz.prog 143) n = hds (List.replicate n (0, 0, 0)) := by
  have : zerosP Tryz.prog 143 = [.int .i64 0, .int .i64 0, .int .i64 0] := by kernel_rfl
  rw [this]
  induction n with
  | zero => rfl
  | succ n ih => rw [List.replicate_succ, hds_cons, ← ih]; rfl
/-- a header out of a slice -/
theorem T_ixH {s : Sl} {l : List Hd} {i : Int} {k : Addr → K} (h : Rd P s 3 (hds l)) (h0 : 0 ≤ i) (hi : i.toNat < l.length)
    (ht : ∀ a, At P a [.int .i64 l[i.toNat].1, .int .i64 l[i.toNat].2.1, .int .i64 l[i.toNat].2.2] → T B P (k a)) : T B P (ixS s.p s.n i 3 k) := by
  refine T_ixEl (by omega) h h0 (by rw [hds_len]; omega) fun a ha => ?_
  rw [hds_cut hi] at ha
  exact ht a ha
theorem T_ixP {s : Sl} {l : List (Int × Int)} {i : Int} {k : Addr → K} (h : Rd P s 2 (prs l)) (h0 : 0 ≤ i) (hi : i.toNat < l.length)
    (ht : ∀ a, At P a [.int .i64 l[i.toNat].1, .int .i64 l[i.toNat].2] → T B P (k a)) : T B P (ixS s.p s.n i 2 k) := by
  refine T_ixEl (by omega) h h0 (by rw [prs_len]; omega) fun a ha => ?_
  rw [prs_cut hi] at ha
  exact ht a ha
theorem T_stH {s : Sl} {l : List Hd} {i : Int} {x : Hd} (hF : Frm P (vec 143 3 s (hds l)) R) (h0 : 0 ≤ i) (hi : i.toNat < l.length) (ht : T B (R * vec 143 3 s (hds (l.set i.toNat x))) t) :
    T B P (ixS s.p s.n i 3 fun a => stK (a.add 0) (.int .i64 x.1) (stK (a.add 1) (.int .i64 x.2.1) (stK (a.add 2) (.int .i64 x.2.2) t))) := by
  have hl := hds_len l
  refine T_vopen hF (fun e => by rw [e] at hl; simp at hl; omega) fun b rest h1 h2 h3 h4 => ?_
  refine T_ixS h1 h0 (by omega) ?_
  rw [add_mk, Nat.zero_add]
  refine T_st (i := i.toNat * 3) (by rw [add_mk]; rfl) Upd.last (by simp; omega) ?_
  refine T_st (i := i.toNat * 3 + 1) (by rw [add_mk]) Upd.last (by simp; omega) ?_
  refine T_st (i := i.toNat * 3 + 2) (by rw [add_mk]) Upd.last (by simp; omega) ?_
  rw [List.set_append_left _ _ (by omega), List.set_append_left _ _ (by simp; omega), List.set_append_left _ _ (by simp; omega), hds_set hi]
  refine T_vecI h1 ?_ ?_ h4 ht
  · rw [h2, hds_len, hds_len]; simp
  · rw [h3, hds_len, hds_len]; simp
theorem T_stP1 {s : Sl} {l : List (Int × Int)} {i : Int} {x : Int} (hF : Frm P (vec 152 2 s (prs l)) R) (h0 : 0 ≤ i) (hi : i.toNat < l.length) (ht : T B (R * vec 152 2 s (prs (l.set i.toNat (l[i.toNat].1, x)))) t) :
    T B P (ixS s.p s.n i 2 fun a => stK ((a.add 1).add 0) (.int .i64 x) t) := by
  have hl := prs_len l
  refine T_vopen hF (fun e => by rw [e] at hl; simp at hl; omega) fun b rest h1 h2 h3 h4 => ?_
  refine T_ixS h1 h0 (by omega) ?_
  rw [add_mk, Nat.zero_add]
  refine T_st (i := i.toNat * 2 + 1) (by rw [add_mk, add_mk]) Upd.last (by simp; omega) ?_
  rw [List.set_append_left _ _ (by omega), prs_set1 hi]
  refine T_vecI h1 ?_ ?_ h4 ht
  · rw [h2, prs_len, prs_len]; simp
  · rw [h3, prs_len, prs_len]; simp
end
section
set_option maxRecDepth 100000
abbrev Zdc0 (k : (Int → K)) (x2 : Int) : K :=
  k x2
abbrev Zdc1 (t : OA) (k : (Int → K)) : K :=
  nn t fun x4 =>
  ldS (x4.add 2) fun x6 =>
  Zdc0 k ((x6.n : Nat) : Int)
abbrev blocks_Table_Len (t : OA) : M Int := fun k =>
  Zdc1 t k
theorem blocks_Table_Len_ok (t : OA) (k : Int → K) (w : World) (hyp_ : blocks_Table_Len t k w) : c_blocks_Table_Len t k w :=
  cl_of (P := Tryz.prog) Tryz.func13 rfl (by kernel_rfl)
  (Qs [] [0] (fun z_ => Zdc1 t k)
  Qz
  (fun _ => Qs [(2, .int .i64)] [] (fun z_ => Zdc0 k z_.1)
  Qz
  (fun ⟨x2, _⟩ => Qr))) hyp_
abbrev Zdd0 (k : (Sl → K)) (x2 : Sl) : K :=
  k x2
abbrev Zdd1 (t : OA) (k : (Sl → K)) : K :=
  alK (.cells #[] 143) fun b =>
  nn t fun x5 =>
  ldS (x5.add 2) fun x7 =>
  semT Tryz.prog (Builtin.append_ #[80, 80] 80 #[.slice (some ⟨b, 0, none⟩) 0 0, x7.v]) (.one (.sc (.slice))) fun x8 =>
  Zdd0 k x8
abbrev blocks_Table_All (t : OA) : M Sl := fun k =>
  Zdd1 t k
theorem blocks_Table_All_ok (t : OA) (k : Sl → K) (w : World) (hyp_ : blocks_Table_All t k w) : c_blocks_Table_All t k w :=
  cl_of (P := Tryz.prog) Tryz.func36 rfl (by kernel_rfl)
  (Qs [] [0] (fun z_ => Zdd1 t k)
  Qz
  (fun _ => Qs [(2, .slice)] [] (fun z_ => Zdd0 k z_.1)
  Qz
  (fun ⟨x2, _⟩ => Qr))) hyp_
abbrev Zde0 (k : (Int → K)) (x2 : Addr) : K :=
  ldI .i64 (x2.add 0) fun x2_0 =>
  k x2_0
abbrev Zde1 (m : OA) (k : (Int → K)) (x2 : Addr) : K :=
  nn m fun x4 =>
  ldI .i64 (Addr.add (x4.add 2) 0) fun x6_0 =>
  stK (x2.add 0) (.int .i64 x6_0) <|
  Zde0 k x2
abbrev bman_Manager_Geometry (m : OA) : M Int := fun k =>
  alK (.cells #[.int .i64 0] 43) fun b =>
  Zde1 m k ⟨b, 0, none⟩
theorem bman_Manager_Geometry_ok (m : OA) (k : Int → K) (w : World) (hyp_ : bman_Manager_Geometry m k w) : c_bman_Manager_Geometry m k w :=
  cl_of (P := Tryz.prog) Tryz.func57 rfl (by kernel_rfl)
  (Qs [(2, .addr)] [0] (fun z_ => Zde1 m k z_.1)
  Qz
  (fun ⟨x2, _⟩ => Qs [] [2] (fun z_ => Zde0 k x2)
  Qz
  (fun _ => Qr))) hyp_
abbrev Zdf0 (k : (Bool → K)) (x4 : Bool) : K :=
  k x4
abbrev Zdf1 (s : OA) (at_1 : Int) (k : (Bool → K)) : K :=
  c_bitmap_Set_in s at_1 fun x7 =>
  brK x7
  (nn s fun x10 =>
  ldS (x10.add 0) fun x12 =>
  ixS x12.p x12.n (IntKind.wrap .i64 (Int.tdiv at_1 64)) 1 fun x15 =>
  ldI .u64 x15 fun x16 =>
  nneg (IntKind.wrap .u64 (Int.tmod at_1 64)) <|
  Zdf0 k ((bitI .and .u64 (shrI .u64 x16 (IntKind.wrap .u64 (Int.tmod at_1 64))) 1) == 1))
  (Zdf0 k false)
abbrev bitmap_Set_Has (s : OA) (at_1 : Int) : M Bool := fun k =>
  Zdf1 s at_1 k
theorem bitmap_Set_Has_ok (s : OA) (at_1 : Int) (k : Bool → K) (w : World) (hyp_ : bitmap_Set_Has s at_1 k w) : c_bitmap_Set_Has s at_1 k w :=
  cl_of (P := Tryz.prog) Tryz.func77 rfl (by kernel_rfl)
  (Qs [] [0, 1] (fun z_ => Zdf1 s at_1 k)
  Qz
  (fun _ => Qs [(4, .bool)] [] (fun z_ => Zdf0 k z_.1)
  (Qp [3])
  (fun ⟨x4, _⟩ => Qr))) hyp_
abbrev Zdg0 (k : (Int → K)) (x4 : Int) : K :=
  k x4
abbrev Zdg1 (m : OA) (block : Int) (k : (Int → K)) (n_1 : Int) : K :=
  nn m fun x50 =>
  ldP (x50.add 1) fun x52 =>
  c_runs_Index_Give x52 block n_1 fun x55 =>
  Zdg0 k x55
abbrev Zdg2 (k : (Int → K)) (x4_1 : Int) : K :=
  k x4_1
abbrev Zdg3 (m : OA) (block : Int) (k : (Int → K)) (n_1 : Int) (e : Int) (x47 : Bool) : K :=
  brK x47
  (Zdg2 k e)
  (Zdg1 m block k n_1)
abbrev Zdg4 (m : OA) (block : Int) (k : (Int → K)) (n_1 : Int) (e : Int) : K :=
  Zdg3 m block k n_1 e (e != 0)
abbrev Zdg5 (m : OA) (block : Int) (k : (Int → K)) (n_1 : Int) : K :=
  tick fun _ =>
  nn m fun x37 =>
  ldP (x37.add 0) fun x39 =>
  mkS Tryz.prog 143 (IntKind.wrap .i64 (n_1 - 1)) (IntKind.wrap .i64 (n_1 - 1)) fun b =>
  c_blocks_Table_Put x39 (IntKind.wrap .i64 (block + 1)) ⟨(some ⟨b, 0, none⟩), (Int.toNat (IntKind.wrap .i64 (n_1 - 1))), (Int.toNat (IntKind.wrap .i64 (n_1 - 1)))⟩ fun x45 =>
  Zdg4 m block k n_1 x45
abbrev Zdg6 (m : OA) (block : Int) (k : (Int → K)) (n_1 : Int) (x35 : Bool) : K :=
  brK x35
  (Zdg5 m block k n_1)
  (Zdg1 m block k n_1)
abbrev Zdg7 (k : (Int → K)) (x4_2 : Int) : K :=
  k x4_2
abbrev Zdg8 (m : OA) (block : Int) (k : (Int → K)) (n_1 : Int) (e_1 : Int) (x32 : Bool) : K :=
  brK x32
  (Zdg7 k e_1)
  (Zdg6 m block k n_1 (decide (n_1 > 1)))
abbrev Zdg9 (m : OA) (block : Int) (k : (Int → K)) (n_1 : Int) (e_1 : Int) : K :=
  Zdg8 m block k n_1 e_1 (e_1 != 0)
abbrev Zdg10 (m : OA) (block : Int) (k : (Int → K)) (n_1 : Int) : K :=
  nn m fun x24 =>
  ldP (x24.add 0) fun x26 =>
  alK (.cells #[.int .i64 0, .int .i64 0, .int .i64 0] 143) fun b_1 =>
  c_blocks_Table_Put x26 block ⟨(some ⟨b_1, 0, none⟩), 1, 1⟩ fun x30 =>
  Zdg9 m block k n_1 x30
abbrev Zdg11 (k : (Int → K)) (x4_3 : Int) : K :=
  k x4_3
abbrev Zdg12 (m : OA) (block : Int) (k : (Int → K)) (h : Addr) : K :=
  ldI .i64 (h.add 2) fun x22 =>
  Zdg10 m block k x22
abbrev Zdg13 (m : OA) (block : Int) (k : (Int → K)) (h : Addr) (x19 : Bool) : K :=
  brK x19
  (Zdg12 m block k h)
  (Zdg11 k 42)
abbrev Zdg14 (m : OA) (block : Int) (k : (Int → K)) (h : Addr) (n : Int) (x16 : Int) (x17 : Bool) : K :=
  brK x17
  (Zdg10 m block k n)
  (Zdg13 m block k h (x16 == 2))
abbrev Zdg15 (m : OA) (block : Int) (k : (Int → K)) (h : Addr) (n : Int) (x16 : Int) : K :=
  Zdg14 m block k h n x16 (x16 == 1)
abbrev Zdg16 (m : OA) (block : Int) (k : (Int → K)) (h : Addr) (n : Int) : K :=
  ldI .i64 (h.add 0) fun x16_1 =>
  Zdg15 m block k h n x16_1
abbrev Zdg17 (m : OA) (block : Int) (k : (Int → K)) (h : Addr) : K :=
  Zdg16 m block k h 1
abbrev Zdg18 (m : OA) (block : Int) (k : (Int → K)) : K :=
  nn m fun x10 =>
  ldP (x10.add 0) fun x12 =>
  c_blocks_Table_Get x12 block fun x14 =>
  alK (.cells #[.int .i64 0, .int .i64 0, .int .i64 0] 143) fun b_2 =>
  stK (Addr.add ⟨b_2, 0, none⟩ 0) (.int .i64 x14.1) <|
  stK (Addr.add ⟨b_2, 0, none⟩ 1) (.int .i64 x14.2.1) <|
  stK (Addr.add ⟨b_2, 0, none⟩ 2) (.int .i64 x14.2.2) <|
  Zdg17 m block k ⟨b_2, 0, none⟩
abbrev bman_Manager_Release (m : OA) (block : Int) : M Int := fun k =>
  Zdg18 m block k
theorem bman_Manager_Release_ok (m : OA) (block : Int) (k : Int → K) (w : World) (hyp_ : bman_Manager_Release m block k w) : c_bman_Manager_Release m block k w :=
  cl_of (P := Tryz.prog) Tryz.func79 rfl (by kernel_rfl)
  (Qs [] [0, 1] (fun z_ => Zdg18 m block k)
  Qz
  (fun _ => Qs [(5, .addr)] [0, 1] (fun z_ => Zdg17 m block k z_.1)
  Qz
  (fun ⟨h, _⟩ => Qs [(6, .int .i64)] [0, 1, 5] (fun z_ => Zdg16 m block k h z_.1)
  Qz
  (fun ⟨n, _⟩ => Qs [(6, .int .i64)] [0, 1] (fun z_ => Zdg10 m block k z_.1)
  (Qs [(16, .int .i64)] [0, 1, 5, 6] (fun z_ => Zdg15 m block k h n z_.1)
  Qz
  (fun ⟨x16, _⟩ => Qb (Qs [(17, .bool)] [0, 1, 5, 6, 16] (fun z_ => Zdg14 m block k h n x16 z_.1)
  Qz
  (fun ⟨x17, _⟩ => Qc (x17) (Zdg10 m block k n) (Zdg13 m block k h (x16 == 2)) Qk (Qs [(19, .bool)] [0, 1, 5] (fun z_ => Zdg13 m block k h z_.1)
  Qz
  (fun ⟨x19, _⟩ => Qc (x19) (Zdg12 m block k h) (Zdg11 k 42) Qz (Qs [(4, .int .i64)] [] (fun z_ => Zdg11 k z_.1)
  Qz
  (fun ⟨x4_3, _⟩ => Qr))))))))
  (fun ⟨n_1, _⟩ => Qs [] [0, 1, 6] (fun z_ => Zdg6 m block k n_1 (decide (n_1 > 1)))
  (Qs [(7, .int .i64)] [0, 1, 6] (fun z_ => Zdg9 m block k n_1 z_.1)
  Qz
  (fun ⟨e_1, _⟩ => Qs [(32, .bool)] [0, 1, 6, 7] (fun z_ => Zdg8 m block k n_1 e_1 z_.1)
  Qz
  (fun ⟨x32, _⟩ => Qc (x32) (Zdg7 k e_1) (Zdg6 m block k n_1 (decide (n_1 > 1))) (Qs [(4, .int .i64)] [] (fun z_ => Zdg7 k z_.1)
  Qz
  (fun ⟨x4_2, _⟩ => Qr)) Qk)))
  (fun _ => Qs [] [0, 1, 6] (fun z_ => Zdg1 m block k n_1)
  (Qs [(35, .bool)] [0, 1, 6] (fun z_ => Zdg6 m block k n_1 z_.1)
  Qz
  (fun ⟨x35, _⟩ => Qc (x35) (Zdg5 m block k n_1) (Zdg1 m block k n_1) (Qs [(8, .int .i64)] [0, 1, 6] (fun z_ => Zdg4 m block k n_1 z_.1)
  (RefK.draw [] [0, 1, 3, 7, 0, 16, 0, 64, 192, 511, 1023] [0, 1, 2, 3, 4, 5, 6, 7, 8, 9, 10] [0, 1, 2, 3, 4, 5, 6, 7, 8, 9, 10] (by kernel_rfl) (by kernel_rfl))
  (fun ⟨e, _⟩ => Qs [(47, .bool)] [0, 1, 6, 8] (fun z_ => Zdg3 m block k n_1 e z_.1)
  Qz
  (fun ⟨x47, _⟩ => Qc (x47) (Zdg2 k e) (Zdg1 m block k n_1) (Qs [(4, .int .i64)] [] (fun z_ => Zdg2 k z_.1)
  Qz
  (fun ⟨x4_1, _⟩ => Qr)) Qk))) Qk))
  (fun _ => Qs [(4, .int .i64)] [] (fun z_ => Zdg0 k z_.1)
  Qz
  (fun ⟨x4, _⟩ => Qr)))))))) hyp_
abbrev Zdh0 (k : (Bool → K)) (x4 : Bool) : K :=
  k x4
abbrev Zdh1 (s : OA) (k : (Bool → K)) : K :=
  nn s fun x24 =>
  ldI .i64 (x24.add 2) fun x26 =>
  nn s fun x28 =>
  stK (Addr.add (x28.add 2) 0) (.int .i64 (IntKind.wrap .i64 (x26 - 1))) <|
  Zdh0 k true
abbrev Zdh2 (s : OA) (at_1 : Int) (k : (Bool → K)) : K :=
  nn s fun x10 =>
  ldS (x10.add 0) fun x12 =>
  ixS x12.p x12.n (IntKind.wrap .i64 (Int.tdiv at_1 64)) 1 fun x15 =>
  ldI .u64 x15 fun x16 =>
  nneg (IntKind.wrap .u64 (Int.tmod at_1 64)) <|
  ixS x12.p x12.n (IntKind.wrap .i64 (Int.tdiv at_1 64)) 1 fun x22 =>
  stK (x22.add 0) (.int .u64 (bitI .andNot .u64 x16 (shlI .u64 1 (IntKind.wrap .u64 (Int.tmod at_1 64))))) <|
  Zdh1 s k
abbrev Zdh3 (k : (Bool → K)) (x4_1 : Bool) : K :=
  k x4_1
abbrev Zdh4 (s : OA) (at_1 : Int) (k : (Bool → K)) (x8 : Bool) : K :=
  brK x8
  (Zdh3 k false)
  (Zdh2 s at_1 k)
abbrev Zdh5 (s : OA) (at_1 : Int) (k : (Bool → K)) : K :=
  c_bitmap_Set_Has s at_1 fun x7 =>
  Zdh4 s at_1 k (!x7)
abbrev bitmap_Set_Drop (s : OA) (at_1 : Int) : M Bool := fun k =>
  Zdh5 s at_1 k
theorem bitmap_Set_Drop_ok (s : OA) (at_1 : Int) (k : Bool → K) (w : World) (hyp_ : bitmap_Set_Drop s at_1 k w) : c_bitmap_Set_Drop s at_1 k w :=
  cl_of (P := Tryz.prog) Tryz.func81 rfl (by kernel_rfl)
  (Qs [] [0, 1] (fun z_ => Zdh5 s at_1 k)
  Qz
  (fun _ => Qs [] [0, 1] (fun z_ => Zdh2 s at_1 k)
  (Qs [(8, .bool)] [0, 1] (fun z_ => Zdh4 s at_1 k z_.1)
  Qz
  (fun ⟨x8, _⟩ => Qc (x8) (Zdh3 k false) (Zdh2 s at_1 k) (Qs [(4, .bool)] [] (fun z_ => Zdh3 k z_.1)
  Qz
  (fun ⟨x4_1, _⟩ => Qr)) Qk))
  (fun _ => Qs [] [0] (fun z_ => Zdh1 s k)
  Qz
  (fun _ => Qs [] [] (fun z_ => Zdh0 k true)
  Qz
  (fun _ => Qs [(4, .bool)] [] (fun z_ => Zdh0 k z_.1)
  Qz
  (fun ⟨x4, _⟩ => Qr)))))) hyp_
abbrev Zdi0 (k : (Int → K)) (x6 : Int) : K :=
  k x6
abbrev Zdi1 (l : OA) (k_1 : Int) (at_1 : Int) (k : (Int → K)) : K :=
  tick fun _ =>
  nn l fun x20 =>
  ixA (x20.add 0) 32 k_1 1 fun x22 =>
  ldS x22 fun x23 =>
  nn l fun x27 =>
  alK (.cells #[.int .i64 at_1] 3) fun b =>
  semT Tryz.prog (Builtin.append_ #[27, 27] 27 #[x23.v, .slice (some ⟨b, 0, none⟩) 1 1]) (.one (.sc (.slice))) fun x26 =>
  ixA (x27.add 0) 32 k_1 1 fun x29 =>
  stK (x29.add 0) (x26.v) <|
  Zdi0 k 0
abbrev Zdi2 (k : (Int → K)) (x6_1 : Int) : K :=
  k x6_1
abbrev Zdi3 (k : (Int → K)) (x6_2 : Int) : K :=
  k x6_2
abbrev Zdi4 (l : OA) (k_1 : Int) (at_1 : Int) (k : (Int → K)) (x11 : Bool) : K :=
  brK x11
  (Zdi3 k 41)
  (Zdi1 l k_1 at_1 k)
abbrev Zdi5 (l : OA) (k_1 : Int) (at_1 : Int) (k : (Int → K)) : K :=
  c_free_Lists_Has l k_1 at_1 fun x15 =>
  Zdi4 l k_1 at_1 k x15
abbrev Zdi6 (l : OA) (k_1 : Int) (at_1 : Int) (k : (Int → K)) (x7 : Bool) : K :=
  brK x7
  (Zdi2 k 1)
  (Zdi5 l k_1 at_1 k)
abbrev Zdi7 (l : OA) (k_1 : Int) (at_1 : Int) (k : (Int → K)) : K :=
  c_class_Right k_1 fun x9 =>
  Zdi6 l k_1 at_1 k (!x9)
abbrev free_Lists_Push (l : OA) (k_1 : Int) (at_1 : Int) : M Int := fun k =>
  Zdi7 l k_1 at_1 k
theorem free_Lists_Push_ok (l : OA) (k_1 : Int) (at_1 : Int) (k : Int → K) (w : World) (hyp_ : free_Lists_Push l k_1 at_1 k w) : c_free_Lists_Push l k_1 at_1 k w :=
  cl_of (P := Tryz.prog) Tryz.func82 rfl (by kernel_rfl)
  (Qs [] [0, 1, 2] (fun z_ => Zdi7 l k_1 at_1 k)
  Qz
  (fun _ => Qs [] [0, 1, 2] (fun z_ => Zdi1 l k_1 at_1 k)
  (Qb (Qs [(7, .bool)] [0, 1, 2] (fun z_ => Zdi6 l k_1 at_1 k z_.1)
  Qz
  (fun ⟨x7, _⟩ => Qc (x7) (Zdi2 k 1) (Zdi5 l k_1 at_1 k) (Qs [(6, .int .i64)] [] (fun z_ => Zdi2 k z_.1)
  Qz
  (fun ⟨x6_1, _⟩ => Qr)) (Qs [(11, .bool)] [0, 1, 2] (fun z_ => Zdi4 l k_1 at_1 k z_.1)
  Qz
  (fun ⟨x11, _⟩ => Qc (x11) (Zdi3 k 41) (Zdi1 l k_1 at_1 k) (Qs [(6, .int .i64)] [] (fun z_ => Zdi3 k z_.1)
  Qz
  (fun ⟨x6_2, _⟩ => Qr)) Qk)))))
  (fun _ => Qs [] [] (fun z_ => Zdi0 k 0)
  (RefK.draw [] [0, 0, 0, 0, 4, 20, 60, 124, 0, 256, 1020, 1, 2049, 8191, 16383] [0, 1, 2, 3, 4, 5, 6, 7, 8, 11, 12, 9, 10, 13, 14] [0, 1, 2, 3, 4, 5, 6, 7, 8, 9, 10, 11, 12, 13, 14] (by kernel_rfl) (by kernel_rfl))
  (fun _ => Qs [(6, .int .i64)] [] (fun z_ => Zdi0 k z_.1)
  Qz
  (fun ⟨x6, _⟩ => Qr))))) hyp_
abbrev Zdj0 (k : (Int → K)) (x8 : Int) : K :=
  k x8
abbrev Zdj1 (x0 : OA) (k : (Int → K)) (x9 : Addr) (x10 : Sl) (x11 : Int) : K :=
  tick fun _ =>
  nn x0 fun x64 =>
  ldM (x64.add 32) fun x66 =>
  ldI .i64 (x9.add 0) fun x67_0 =>
  ldI .i64 (x9.add 1) fun x67_1 =>
  loB (some (.int .i64 x11)) 0 x10.n fun l =>
  c_slices_Clone_Sint_int ⟨(cutP x10.p l x10.c 1), (x10.n - l), (x10.c - l)⟩ fun x71 =>
  chk [.cell (x9.add 0) (.int .i64 x67_0), .cell (x9.add 1) (.int .i64 x67_1), .cell (x64.add 32) (.map x66)] fun _ =>
  semU Tryz.prog (Instr.mapUpdate 197 (.map x66) (.agg #[.int .i64 x67_0, .int .i64 x67_1]) x71.v) <|
  Zdj0 k 0
abbrev Zdj2 (x0 : OA) (x2 : Int) (k : (Int → K)) (x9 : Addr) (x10 : Sl) (x11 : Int) : K :=
  tick fun _ =>
  nn x0 fun x52 =>
  ixA (x52.add 0) 32 x2 1 fun x54 =>
  ldS x54 fun x55 =>
  loB (some (.int .i64 x11)) x10.n x10.c fun h =>
  nn x0 fun x60 =>
  semT Tryz.prog (Builtin.append_ #[27, 27] 27 #[x55.v, .slice (cutP x10.p 0 x10.c 1) (h - 0) (x10.c - 0)]) (.one (.sc (.slice))) fun x59 =>
  ixA (x60.add 0) 32 x2 1 fun x62 =>
  stK (x62.add 0) (x59.v) <|
  Zdj1 x0 k x9 x10 x11
abbrev Zdj3 (x0 : OA) (x2 : Int) (k : (Int → K)) (x9 : Addr) (x10 : Sl) (x44 : Bool) : K :=
  brK x44
  (Zdj2 x0 x2 k x9 x10 (IntKind.wrap .i64 (Int.tdiv ((x10.n : Nat) : Int) 2)))
  (Zdj0 k 0)
abbrev Zdj4 (x0 : OA) (x2 : Int) (k : (Int → K)) (x9 : Addr) (x10 : Sl) : K :=
  Zdj3 x0 x2 k x9 x10 (decide (((x10.n : Nat) : Int) > 8))
abbrev Zdj5 (x0 : OA) (x2 : Int) (k : (Int → K)) (x9 : Addr) : K :=
  tick fun _ =>
  nn x0 fun x37 =>
  ldM (x37.add 32) fun x39 =>
  ldI .i64 (x9.add 0) fun x40_0 =>
  ldI .i64 (x9.add 1) fun x40_1 =>
  lkE Tryz.prog 201 (.slice none 0 0) (.sc (.slice)) x39 (.agg #[.int .i64 x40_0, .int .i64 x40_1]) fun r ob x41 ok =>
  Zdj4 x0 x2 k x9 x41
abbrev Zdj6 (x0 : OA) (x2 : Int) (x3 : Int) (k : (Int → K)) (x9 : Addr) : K :=
  tick fun _ =>
  nn x0 fun x26 =>
  ldM (x26.add 32) fun x28 =>
  ldI .i64 (x9.add 0) fun x29_0 =>
  ldI .i64 (x9.add 1) fun x29_1 =>
  alK (.cells #[.int .i64 x3] 3) fun b =>
  semT Tryz.prog (Instr.mapEntry 197 (.map x28) (.agg #[.int .i64 x29_0, .int .i64 x29_1])) (.tup [.sc (.slice), .sc (.int .i64)]) fun e =>
  semT Tryz.prog (Builtin.append_ #[27, 27] 27 #[e.1.v, .slice (some ⟨b, 0, none⟩) 1 1]) (.one (.sc (.slice))) fun x34 =>
  semU Tryz.prog (Instr.entryStore 197 (.map x28) (.int .i64 e.2) x34.v) <|
  Zdj5 x0 x2 k x9
abbrev Zdj7 (x0 : OA) (x1 : Int) (x2 : Int) (x3 : Int) (k : (Int → K)) : K :=
  alK (.cells #[.int .i64 0, .int .i64 0] 201) fun b_1 =>
  stK (Addr.add ⟨b_1, 0, none⟩ 0) (.int .i64 x1) <|
  stK (Addr.add ⟨b_1, 0, none⟩ 1) (.int .i64 x2) <|
  Zdj6 x0 x2 x3 k ⟨b_1, 0, none⟩
abbrev Zdj8 (k : (Int → K)) (x8_1 : Int) : K :=
  k x8_1
abbrev Zdj9 (k : (Int → K)) (x8_2 : Int) : K :=
  k x8_2
abbrev Zdj10 (x0 : OA) (x1 : Int) (x2 : Int) (x3 : Int) (k : (Int → K)) (x17 : Bool) : K :=
  brK x17
  (Zdj9 k 41)
  (Zdj7 x0 x1 x2 x3 k)
abbrev Zdj11 (x0 : OA) (x1 : Int) (x2 : Int) (x3 : Int) (k : (Int → K)) : K :=
  c_free_Lists_Has x0 x2 x3 fun x21 =>
  Zdj10 x0 x1 x2 x3 k x21
abbrev Zdj12 (x0 : OA) (x1 : Int) (x2 : Int) (x3 : Int) (k : (Int → K)) (x12 : Bool) : K :=
  brK x12
  (Zdj8 k 1)
  (Zdj11 x0 x1 x2 x3 k)
abbrev Zdj13 (x0 : OA) (x1 : Int) (x2 : Int) (x3 : Int) (k : (Int → K)) : K :=
  c_free_right x1 x2 fun x15 =>
  Zdj12 x0 x1 x2 x3 k (!x15)
abbrev free_Lists_Put (x0 : OA) (x1 : Int) (x2 : Int) (x3 : Int) : M Int := fun k =>
  Zdj13 x0 x1 x2 x3 k
theorem free_Lists_Put_ok (x0 : OA) (x1 : Int) (x2 : Int) (x3 : Int) (k : Int → K) (w : World) (hyp_ : free_Lists_Put x0 x1 x2 x3 k w) : c_free_Lists_Put x0 x1 x2 x3 k w :=
  cl_of (P := Tryz.prog) Tryz.func83 rfl (by kernel_rfl)
  (Qs [] [0, 1, 2, 3] (fun z_ => Zdj13 x0 x1 x2 x3 k)
  Qz
  (fun _ => Qs [] [0, 1, 2, 3] (fun z_ => Zdj7 x0 x1 x2 x3 k)
  (Qb (Qs [(12, .bool)] [0, 1, 2, 3] (fun z_ => Zdj12 x0 x1 x2 x3 k z_.1)
  Qz
  (fun ⟨x12, _⟩ => Qc (x12) (Zdj8 k 1) (Zdj11 x0 x1 x2 x3 k) (Qs [(8, .int .i64)] [] (fun z_ => Zdj8 k z_.1)
  Qz
  (fun ⟨x8_1, _⟩ => Qr)) (Qs [(17, .bool)] [0, 1, 2, 3] (fun z_ => Zdj10 x0 x1 x2 x3 k z_.1)
  Qz
  (fun ⟨x17, _⟩ => Qc (x17) (Zdj9 k 41) (Zdj7 x0 x1 x2 x3 k) (Qs [(8, .int .i64)] [] (fun z_ => Zdj9 k z_.1)
  Qz
  (fun ⟨x8_2, _⟩ => Qr)) Qk)))))
  (fun _ => Qs [(9, .addr)] [0, 2, 3] (fun z_ => Zdj6 x0 x2 x3 k z_.1)
  Qz
  (fun ⟨x9, _⟩ => Qs [] [0, 2, 9] (fun z_ => Zdj5 x0 x2 k x9)
  (RefK.draw [] [0, 1, 3, 7, 0, 0, 32, 127, 255, 511, 255, 2047] [0, 1, 2, 3, 4, 5, 6, 7, 8, 10, 9, 11] [0, 1, 2, 3, 4, 5, 6, 7, 8, 9, 10, 11] (by kernel_rfl) (by kernel_rfl))
  (fun _ => Qs [] [] (fun z_ => Zdj0 k 0)
  (Qs [(10, .slice)] [0, 2, 9] (fun z_ => Zdj4 x0 x2 k x9 z_.1)
  (RefK.draw [] [0, 1, 3, 7, 0, 31, 63] [0, 1, 2, 3, 4, 5, 6] [0, 1, 2, 3, 4, 5, 6] (by kernel_rfl) (by kernel_rfl))
  (fun ⟨x10, _⟩ => Qs [(44, .bool)] [0, 2, 9, 10] (fun z_ => Zdj3 x0 x2 k x9 x10 z_.1)
  Qz
  (fun ⟨x44, _⟩ => Qc (x44) (Zdj2 x0 x2 k x9 x10 (IntKind.wrap .i64 (Int.tdiv ((x10.n : Nat) : Int) 2))) (Zdj0 k 0) (Qs [(11, .int .i64)] [0, 2, 9, 10] (fun z_ => Zdj2 x0 x2 k x9 x10 z_.1)
  Qz
  (fun ⟨x11, _⟩ => Qs [] [0, 9, 10, 11] (fun z_ => Zdj1 x0 k x9 x10 x11)
  (RefK.draw [] [0, 0, 0, 0, 4, 20, 60, 124, 0, 0, 768, 2044, 1, 4097, 16383, 32767] [0, 1, 2, 3, 4, 5, 6, 7, 8, 9, 10, 12, 13, 11, 14, 15] [0, 1, 2, 3, 4, 5, 6, 7, 8, 9, 10, 11, 12, 13, 14, 15] (by kernel_rfl) (by kernel_rfl))
  (fun _ => RefK.draw [] [0, 1, 3, 7, 0, 0, 0, 96, 224, 511] [0, 1, 2, 3, 4, 5, 6, 7, 8, 9] [0, 1, 2, 3, 4, 5, 6, 7, 8, 9] (by kernel_rfl) (by kernel_rfl)))) Qk)))
  (fun _ => Qs [(8, .int .i64)] [] (fun z_ => Zdj0 k z_.1)
  Qz
  (fun ⟨x8, _⟩ => Qr))))))) hyp_
abbrev Zdk0 (k : (Bool → K)) (x4 : Bool) : K :=
  k x4
abbrev Zdk1 (s : OA) (k : (Bool → K)) : K :=
  nn s fun x29 =>
  ldI .i64 (x29.add 2) fun x31 =>
  nn s fun x33 =>
  stK (Addr.add (x33.add 2) 0) (.int .i64 (IntKind.wrap .i64 (x31 + 1))) <|
  Zdk0 k true
abbrev Zdk2 (s : OA) (at_1 : Int) (k : (Bool → K)) : K :=
  nn s fun x15 =>
  ldS (x15.add 0) fun x17 =>
  ixS x17.p x17.n (IntKind.wrap .i64 (Int.tdiv at_1 64)) 1 fun x20 =>
  ldI .u64 x20 fun x21 =>
  nneg (IntKind.wrap .u64 (Int.tmod at_1 64)) <|
  ixS x17.p x17.n (IntKind.wrap .i64 (Int.tdiv at_1 64)) 1 fun x27 =>
  stK (x27.add 0) (.int .u64 (bitI .or .u64 x21 (shlI .u64 1 (IntKind.wrap .u64 (Int.tmod at_1 64))))) <|
  Zdk1 s k
abbrev Zdk3 (k : (Bool → K)) (x4_1 : Bool) : K :=
  k x4_1
abbrev Zdk4 (s : OA) (at_1 : Int) (k : (Bool → K)) (x13 : Bool) : K :=
  brK x13
  (Zdk3 k false)
  (Zdk2 s at_1 k)
abbrev Zdk5 (s : OA) (at_1 : Int) (k : (Bool → K)) : K :=
  c_bitmap_Set_in s at_1 fun x7 =>
  brK (!x7)
  (Zdk4 s at_1 k true)
  (c_bitmap_Set_Has s at_1 fun x12 =>
  Zdk4 s at_1 k x12)
abbrev bitmap_Set_Add (s : OA) (at_1 : Int) : M Bool := fun k =>
  Zdk5 s at_1 k
theorem bitmap_Set_Add_ok (s : OA) (at_1 : Int) (k : Bool → K) (w : World) (hyp_ : bitmap_Set_Add s at_1 k w) : c_bitmap_Set_Add s at_1 k w :=
  cl_of (P := Tryz.prog) Tryz.func91 rfl (by kernel_rfl)
  (Qs [] [0, 1] (fun z_ => Zdk5 s at_1 k)
  Qz
  (fun _ => Qs [] [0, 1] (fun z_ => Zdk2 s at_1 k)
  (Qs [(13, .bool)] [0, 1] (fun z_ => Zdk4 s at_1 k z_.1)
  (Qp [4])
  (fun ⟨x13, _⟩ => Qc (x13) (Zdk3 k false) (Zdk2 s at_1 k) (Qs [(4, .bool)] [] (fun z_ => Zdk3 k z_.1)
  Qz
  (fun ⟨x4_1, _⟩ => Qr)) Qk))
  (fun _ => Qs [] [0] (fun z_ => Zdk1 s k)
  Qz
  (fun _ => Qs [] [] (fun z_ => Zdk0 k true)
  Qz
  (fun _ => Qs [(4, .bool)] [] (fun z_ => Zdk0 k z_.1)
  Qz
  (fun ⟨x4, _⟩ => Qr)))))) hyp_
abbrev Zdl0 (k : (Sl → K)) (x2 : Sl) : K :=
  k x2
abbrev Zdl1 (m : OA) (k : (Sl → K)) : K :=
  nn m fun x4 =>
  ldP (x4.add 1) fun x6 =>
  c_runs_Index_List x6 fun x7 =>
  Zdl0 k x7
abbrev bman_Manager_Runs (m : OA) : M Sl := fun k =>
  Zdl1 m k
theorem bman_Manager_Runs_ok (m : OA) (k : Sl → K) (w : World) (hyp_ : bman_Manager_Runs m k w) : c_bman_Manager_Runs m k w :=
  cl_of (P := Tryz.prog) Tryz.func103 rfl (by kernel_rfl)
  (Qs [] [0] (fun z_ => Zdl1 m k)
  Qz
  (fun _ => Qs [(2, .slice)] [] (fun z_ => Zdl0 k z_.1)
  Qz
  (fun ⟨x2, _⟩ => Qr))) hyp_
abbrev Zdm0 (k : (Int → K)) (x4 : Int) : K :=
  k x4
abbrev Zdm1 (d : OA) (k : (Int → K)) (g_1 : Addr) : K :=
  tick fun _ =>
  ldI .i64 (g_1.add 0) fun x25_0 =>
  ldI .i64 (g_1.add 0) fun x28 =>
  c_geom_Geometry_Header x25_0 1 fun x26 =>
  chk [.cell (g_1.add 0) (.int .i64 x28)] fun _ =>
  c_nvm_Device_Persist d x26 (IntKind.wrap .i64 (x28 - 1)) fun x30 =>
  Zdm0 k x30
abbrev Zdm2 (k : (Int → K)) (x4_1 : Int) : K :=
  k x4_1
abbrev Zdm3 (k : (Int → K)) (b_1 : Int) (c : ((Int × Unit) → K)) (e : Int) (x22 : Bool) : K :=
  brK x22
  (Zdm2 k e)
  (c ((IntKind.wrap .i64 (b_1 + 1)), ()))
abbrev Zdm4 (k : (Int → K)) (b_1 : Int) (c : ((Int × Unit) → K)) (e : Int) : K :=
  Zdm3 k b_1 c e (e != 0)
abbrev Zdm5 (d : OA) (k : (Int → K)) (g_1 : Addr) (b_1 : Int) (c : ((Int × Unit) → K)) : K :=
  ldI .i64 (g_1.add 0) fun x14_0 =>
  c_geom_Geometry_Header x14_0 b_1 fun x16 =>
  c_bhead_Encode b_1 (0, (0, 0)) fun x19 =>
  c_nvm_Device_Store d x16 x19 fun x20 =>
  Zdm4 k b_1 c x20
abbrev Zdm6 (d : OA) (k : (Int → K)) (g_1 : Addr) (b_1 : Int) (c : ((Int × Unit) → K)) (x10 : Bool) : K :=
  brK x10
  (Zdm5 d k g_1 b_1 c)
  (Zdm1 d k g_1)
abbrev Zdm7 (d : OA) (k : (Int → K)) (g_1 : Addr) (b_1 : Int) (c : ((Int × Unit) → K)) : K :=
  ldI .i64 (g_1.add 0) fun x9 =>
  Zdm6 d k g_1 b_1 c (decide (b_1 < x9))
abbrev Zdm8 (d : OA) (k : (Int → K)) (g_1 : Addr) (b : Int) : K :=
  lp (fun (z_ : (Int × Unit)) c_ => Zdm7 d k g_1 z_.1 c_) (b, ())
abbrev Zdm9 (d : OA) (k : (Int → K)) (g_1 : Addr) : K :=
  Zdm8 d k g_1 1
abbrev blocks_Format (d : OA) (g : Int) : M Int := fun k =>
  alK (.cells #[.int .i64 g] 43) fun b_2 =>
  Zdm9 d k ⟨b_2, 0, none⟩
theorem blocks_Format_ok (d : OA) (g : Int) (k : Int → K) (w : World) (hyp_ : blocks_Format d g k w) : c_blocks_Format d g k w :=
  cl_of (P := Tryz.prog) Tryz.func122 rfl (by kernel_rfl)
  (Qs [(3, .addr)] [0] (fun z_ => Zdm9 d k z_.1)
  Qz
  (fun ⟨g_1, _⟩ => Qs [] [0, 3] (fun z_ => Zdm1 d k g_1)
  (Qs [(5, .int .i64)] [0, 3] (fun z_ => Zdm8 d k g_1 z_.1)
  Qz
  (fun ⟨b, _⟩ => Qb (Ql [(5, .int .i64)] [0, 3] (fun (z_ : (Int × Unit)) c_ => Zdm7 d k g_1 z_.1 c_) (b, ())
  (fun ⟨b_1, _⟩ c => Qs [] [0, 3, 5] (fun z_ => Zdm5 d k g_1 b_1 c)
  (Qs [(10, .bool)] [0, 3, 5] (fun z_ => Zdm6 d k g_1 b_1 c z_.1)
  Qz
  (fun ⟨x10, _⟩ => Qc (x10) (Zdm5 d k g_1 b_1 c) (Zdm1 d k g_1) Qk Qx))
  (fun _ => Qs [] [0, 3, 5] (fun z_ => c ((IntKind.wrap .i64 (b_1 + 1)), ()))
  (Qb (Qs [(6, .int .i64)] [0, 3, 5] (fun z_ => Zdm4 k b_1 c z_.1)
  Qz
  (fun ⟨e, _⟩ => Qs [(22, .bool)] [0, 3, 5, 6] (fun z_ => Zdm3 k b_1 c e z_.1)
  Qz
  (fun ⟨x22, _⟩ => Qc (x22) (Zdm2 k e) (c ((IntKind.wrap .i64 (b_1 + 1)), ())) (Qs [(4, .int .i64)] [] (fun z_ => Zdm2 k z_.1)
  Qz
  (fun ⟨x4_1, _⟩ => Qr)) Qk))))
  (fun _ => Qz))))))
  (fun _ => Qs [(4, .int .i64)] [] (fun z_ => Zdm0 k z_.1)
  (RefK.draw [] [0, 0, 2, 0, 8, 24, 63, 127] [0, 1, 3, 4, 5, 2, 6, 7] [0, 1, 2, 3, 4, 5, 6, 7] (by kernel_rfl) (by kernel_rfl))
  (fun ⟨x4, _⟩ => Qr)))) hyp_
abbrev Zdn0 (k : ((OA × Int) → K)) (x4 : Addr) (x5 : Int) : K :=
  k ((some x4), x5)
abbrev Zdn1 (k : ((OA × Int) → K)) (g_1 : Addr) (t : OA) (x : OA) : K :=
  ldI .i64 (g_1.add 0) fun x41_0 =>
  alK (.cells #[.pointer t, .pointer x, .int .i64 x41_0] 51) fun b =>
  Zdn0 k ⟨b, 0, none⟩ 0
abbrev Zdn2 (k : ((OA × Int) → K)) (x4_1 : OA) (x5_1 : Int) : K :=
  k (x4_1, x5_1)
abbrev Zdn3 (k : ((OA × Int) → K)) (g_1 : Addr) (t : OA) (e_1 : Int) (x : OA) (x37 : Bool) : K :=
  brK x37
  (Zdn2 k none e_1)
  (Zdn1 k g_1 t x)
abbrev Zdn4 (k : ((OA × Int) → K)) (g_1 : Addr) (t : OA) (e_1 : Int) (x : OA) : K :=
  Zdn3 k g_1 t e_1 x (e_1 != 0)
abbrev Zdn5 (k : ((OA × Int) → K)) (g_1 : Addr) (t : OA) : K :=
  tick fun _ =>
  ldI .i64 (g_1.add 0) fun x30 =>
  c_blocks_Table_Spans t fun x32 =>
  chk [.cell (g_1.add 0) (.int .i64 x30)] fun _ =>
  c_runs_Fill x30 x32 fun x33 =>
  Zdn4 k g_1 t x33.2 x33.1
abbrev Zdn6 (k : ((OA × Int) → K)) (x4_2 : OA) (x5_2 : Int) : K :=
  k (x4_2, x5_2)
abbrev Zdn7 (k : ((OA × Int) → K)) (g_1 : Addr) (t : OA) (x27 : Bool) : K :=
  brK x27
  (Zdn6 k none 40)
  (Zdn5 k g_1 t)
abbrev Zdn8 (k : ((OA × Int) → K)) (g_1 : Addr) (t : OA) (ok : Bool) : K :=
  Zdn7 k g_1 t (!ok)
abbrev Zdn9 (k : ((OA × Int) → K)) (g_1 : Addr) (t : OA) : K :=
  c_blocks_Table_All t fun x22 =>
  c_bman_Sound x22 fun x23 =>
  Zdn8 k g_1 t x23.2
abbrev Zdn10 (k : ((OA × Int) → K)) (x4_3 : OA) (x5_3 : Int) : K :=
  k (x4_3, x5_3)
abbrev Zdn11 (k : ((OA × Int) → K)) (g_1 : Addr) (t : OA) (e : Int) (x18 : Bool) : K :=
  brK x18
  (Zdn10 k none e)
  (Zdn9 k g_1 t)
abbrev Zdn12 (k : ((OA × Int) → K)) (g_1 : Addr) (t : OA) (e : Int) : K :=
  Zdn11 k g_1 t e (e != 0)
abbrev Zdn13 (d : OA) (k : ((OA × Int) → K)) (g_1 : Addr) : K :=
  ldI .i64 (g_1.add 0) fun x13_0 =>
  c_blocks_Open d x13_0 fun x14 =>
  Zdn12 k g_1 x14.1 x14.2
abbrev bman_Open (d : OA) (g : Int) : M (OA × Int) := fun k =>
  alK (.cells #[.int .i64 g] 43) fun b_1 =>
  Zdn13 d k ⟨b_1, 0, none⟩
theorem bman_Open_ok (d : OA) (g : Int) (k : (OA × Int) → K) (w : World) (hyp_ : bman_Open d g k w) : c_bman_Open d g k w :=
  cl_of (P := Tryz.prog) Tryz.func123 rfl (by kernel_rfl)
  (Qs [(3, .addr)] [0] (fun z_ => Zdn13 d k z_.1)
  Qz
  (fun ⟨g_1, _⟩ => Qs [(6, .ptr), (7, .int .i64)] [3] (fun z_ => Zdn12 k g_1 z_.1 z_.2.1)
  Qz
  (fun ⟨t, e, _⟩ => Qs [] [3, 6] (fun z_ => Zdn9 k g_1 t)
  (Qs [(18, .bool)] [3, 6, 7] (fun z_ => Zdn11 k g_1 t e z_.1)
  Qz
  (fun ⟨x18, _⟩ => Qc (x18) (Zdn10 k none e) (Zdn9 k g_1 t) (Qs [(4, .ptr), (5, .int .i64)] [] (fun z_ => Zdn10 k z_.1 z_.2.1)
  Qz
  (fun ⟨x4_3, x5_3, _⟩ => Qr)) Qk))
  (fun _ => Qs [] [3, 6] (fun z_ => Zdn5 k g_1 t)
  (Qs [(9, .bool)] [3, 6] (fun z_ => Zdn8 k g_1 t z_.1)
  Qz
  (fun ⟨ok, _⟩ => Qs [(27, .bool)] [3, 6] (fun z_ => Zdn7 k g_1 t z_.1)
  Qz
  (fun ⟨x27, _⟩ => Qc (x27) (Zdn6 k none 40) (Zdn5 k g_1 t) (Qs [(4, .ptr), (5, .int .i64)] [] (fun z_ => Zdn6 k z_.1 z_.2.1)
  Qz
  (fun ⟨x4_2, x5_2, _⟩ => Qr)) Qk)))
  (fun _ => Qs [(7, .int .i64), (10, .ptr)] [3, 6] (fun z_ => Zdn4 k g_1 t z_.1 z_.2.1)
  (RefK.draw [] [0, 1, 0, 4, 15, 31, 63, 63, 127, 511] [0, 1, 2, 3, 4, 5, 6, 7, 8, 9] [0, 1, 2, 3, 4, 5, 6, 8, 7, 9] (by kernel_rfl) (by kernel_rfl))
  (fun ⟨e_1, x, _⟩ => Qs [] [3, 6, 10] (fun z_ => Zdn1 k g_1 t x)
  (Qs [(37, .bool)] [3, 6, 7, 10] (fun z_ => Zdn3 k g_1 t e_1 x z_.1)
  Qz
  (fun ⟨x37, _⟩ => Qc (x37) (Zdn2 k none e_1) (Zdn1 k g_1 t x) (Qs [(4, .ptr), (5, .int .i64)] [] (fun z_ => Zdn2 k z_.1 z_.2.1)
  Qz
  (fun ⟨x4_1, x5_1, _⟩ => Qr)) Qk))
  (fun _ => Qs [(4, .addr), (5, .int .i64)] [] (fun z_ => Zdn0 k z_.1 z_.2.1)
  Qz
  (fun ⟨x4, x5, _⟩ => Qr)))))))) hyp_
abbrev Zdo0 (k : (Fv → K)) (x2 : Fv) : K :=
  k x2
abbrev Zdo1 (k : (Fv → K)) (s_1 : Addr) : K :=
  Zdo0 k ⟨.func 188, #[], #[.pointer (some s_1)]⟩
abbrev bitmap_Set_All (s : OA) : M Fv := fun k =>
  alK (.cells #[.pointer s] 44) fun b =>
  Zdo1 k ⟨b, 0, none⟩
theorem bitmap_Set_All_ok (s : OA) (k : Fv → K) (w : World) (hyp_ : bitmap_Set_All s k w) : c_bitmap_Set_All s k w :=
  cl_of (P := Tryz.prog) Tryz.func130 rfl (by kernel_rfl)
  (Qs [(1, .addr)] [] (fun z_ => Zdo1 k z_.1)
  Qz
  (fun ⟨s_1, _⟩ => Qs [(2, .func)] [] (fun z_ => Zdo0 k z_.1)
  Qz
  (fun ⟨x2, _⟩ => Qr))) hyp_
abbrev Zdp0 (k : (Bool → K)) (x4 : Bool) : K :=
  k x4
abbrev Zdp1 (s : OA) (at_1 : Int) (k : (Bool → K)) : K :=
  brK (decide (at_1 ≥ 0))
  (nn s fun x10 =>
  ldI .i64 (x10.add 1) fun x12 =>
  Zdp0 k (decide (at_1 < x12)))
  (Zdp0 k false)
abbrev bitmap_Set_in (s : OA) (at_1 : Int) : M Bool := fun k =>
  Zdp1 s at_1 k
theorem bitmap_Set_in_ok (s : OA) (at_1 : Int) (k : Bool → K) (w : World) (hyp_ : bitmap_Set_in s at_1 k w) : c_bitmap_Set_in s at_1 k w :=
  cl_of (P := Tryz.prog) Tryz.func139 rfl (by kernel_rfl)
  (Qs [] [0, 1] (fun z_ => Zdp1 s at_1 k)
  Qz
  (fun _ => Qs [(4, .bool)] [] (fun z_ => Zdp0 k z_.1)
  (Qp [2])
  (fun ⟨x4, _⟩ => Qr))) hyp_
abbrev Zdq0 (k : ((Int × (Int × Int)) → K)) (x4 : Addr) : K :=
  ldI .i64 (x4.add 0) fun x4_0 =>
  ldI .i64 (x4.add 1) fun x4_1 =>
  ldI .i64 (x4.add 2) fun x4_2 =>
  k (x4_0, (x4_1, x4_2))
abbrev Zdq1 (t : OA) (block : Int) (k : ((Int × (Int × Int)) → K)) (x4 : Addr) : K :=
  nn t fun x18 =>
  ldS (x18.add 2) fun x20 =>
  ixS x20.p x20.n block 3 fun x22 =>
  ldI .i64 (x22.add 0) fun x23_0 =>
  ldI .i64 (x22.add 1) fun x23_1 =>
  ldI .i64 (x22.add 2) fun x23_2 =>
  stK (x4.add 0) (.int .i64 x23_0) <|
  stK (x4.add 1) (.int .i64 x23_1) <|
  stK (x4.add 2) (.int .i64 x23_2) <|
  Zdq0 k x4
abbrev Zdq2 (k : ((Int × (Int × Int)) → K)) (x4 : Addr) : K :=
  ldI .i64 (x4.add 0) fun x4_0_1 =>
  ldI .i64 (x4.add 1) fun x4_1_1 =>
  ldI .i64 (x4.add 2) fun x4_2_1 =>
  k (x4_0_1, (x4_1_1, x4_2_1))
abbrev Zdq3 (k : ((Int × (Int × Int)) → K)) (x4 : Addr) : K :=
  stK (x4.add 0) (.int .i64 0) <|
  stK (x4.add 1) (.int .i64 0) <|
  stK (x4.add 2) (.int .i64 0) <|
  Zdq2 k x4
abbrev Zdq4 (t : OA) (block : Int) (k : ((Int × (Int × Int)) → K)) (x4 : Addr) (x15 : Bool) : K :=
  brK x15
  (Zdq3 k x4)
  (Zdq1 t block k x4)
abbrev Zdq5 (t : OA) (block : Int) (k : ((Int × (Int × Int)) → K)) (x4 : Addr) : K :=
  brK (decide (block < 1))
  (Zdq4 t block k x4 true)
  (nn t fun x10 =>
  ldS (x10.add 2) fun x12 =>
  Zdq4 t block k x4 (decide (block ≥ ((x12.n : Nat) : Int))))
abbrev blocks_Table_Get (t : OA) (block : Int) : M (Int × (Int × Int)) := fun k =>
  alK (.cells #[.int .i64 0, .int .i64 0, .int .i64 0] 143) fun b =>
  Zdq5 t block k ⟨b, 0, none⟩
theorem blocks_Table_Get_ok (t : OA) (block : Int) (k : (Int × (Int × Int)) → K) (w : World) (hyp_ : blocks_Table_Get t block k w) : c_blocks_Table_Get t block k w :=
  cl_of (P := Tryz.prog) Tryz.func141 rfl (by kernel_rfl)
  (Qs [(4, .addr)] [0, 1] (fun z_ => Zdq5 t block k z_.1)
  Qz
  (fun ⟨x4, _⟩ => Qs [] [0, 1, 4] (fun z_ => Zdq1 t block k x4)
  (Qs [(15, .bool)] [0, 1, 4] (fun z_ => Zdq4 t block k x4 z_.1)
  (Qp [2])
  (fun ⟨x15, _⟩ => Qc (x15) (Zdq3 k x4) (Zdq1 t block k x4) (Qs [] [4] (fun z_ => Zdq2 k x4)
  Qz
  (fun _ => Qr)) Qk))
  (fun _ => Qs [] [4] (fun z_ => Zdq0 k x4)
  Qz
  (fun _ => Qr)))) hyp_
abbrev Zdr0 (k : (Int → K)) (x6 : Int) : K :=
  k x6
abbrev Zdr1 (x0 : OA) (x1 : Int) (x2 : Sl) (k : (Int → K)) : K :=
  tick fun _ =>
  nn x0 fun x87 =>
  ldP (x87.add 0) fun x89 =>
  nn x0 fun x91 =>
  ldI .i64 (Addr.add (x91.add 1) 0) fun x93_0 =>
  c_geom_Geometry_Header x93_0 x1 fun x95 =>
  chk [.cell (x87.add 0) (.pointer x89)] fun _ =>
  c_nvm_Device_Persist x89 x95 ((x2.n : Nat) : Int) fun x98 =>
  Zdr0 k x98
abbrev Zdr2 (x0 : OA) (x1 : Int) (x50_1 : Int) (c : ((Int × Unit) → K)) (x9 : Int) (x10 : Addr) : K :=
  tick fun _ =>
  nn x0 fun x77 =>
  ldS (x77.add 2) fun x79 =>
  ldI .i64 (x10.add 0) fun x83_0 =>
  ldI .i64 (x10.add 1) fun x83_1 =>
  ldI .i64 (x10.add 2) fun x83_2 =>
  ixS x79.p x79.n (IntKind.wrap .i64 (x1 + x9)) 3 fun x84 =>
  stK (x84.add 0) (.int .i64 x83_0) <|
  stK (x84.add 1) (.int .i64 x83_1) <|
  stK (x84.add 2) (.int .i64 x83_2) <|
  c ((IntKind.wrap .i64 (x50_1 + 1)), ())
abbrev Zdr3 (k : (Int → K)) (x6_1 : Int) : K :=
  k x6_1
abbrev Zdr4 (x0 : OA) (x1 : Int) (k : (Int → K)) (x50_1 : Int) (c : ((Int × Unit) → K)) (x9 : Int) (x10 : Addr) (x11 : Int) (x74 : Bool) : K :=
  brK x74
  (Zdr3 k x11)
  (Zdr2 x0 x1 x50_1 c x9 x10)
abbrev Zdr5 (x0 : OA) (x1 : Int) (k : (Int → K)) (x50_1 : Int) (c : ((Int × Unit) → K)) (x9 : Int) (x10 : Addr) (x11 : Int) : K :=
  Zdr4 x0 x1 k x50_1 c x9 x10 x11 (x11 != 0)
abbrev Zdr6 (x0 : OA) (x1 : Int) (k : (Int → K)) (x50_1 : Int) (c : ((Int × Unit) → K)) (x9 : Int) (x10 : Addr) : K :=
  tick fun _ =>
  nn x0 fun x56 =>
  ldP (x56.add 0) fun x58 =>
  nn x0 fun x60 =>
  ldI .i64 (Addr.add (x60.add 1) 0) fun x62_0 =>
  ldI .i64 (x10.add 0) fun x70_0 =>
  ldI .i64 (x10.add 1) fun x70_1 =>
  ldI .i64 (x10.add 2) fun x70_2 =>
  c_geom_Geometry_Header x62_0 (IntKind.wrap .i64 (x1 + x9)) fun x66 =>
  chk [.cell (x10.add 0) (.int .i64 x70_0), .cell (x10.add 1) (.int .i64 x70_1), .cell (x10.add 2) (.int .i64 x70_2), .cell (x56.add 0) (.pointer x58)] fun _ =>
  c_bhead_Encode (IntKind.wrap .i64 (x1 + x9)) (x70_0, (x70_1, x70_2)) fun x71 =>
  chk [.cell (x56.add 0) (.pointer x58)] fun _ =>
  c_nvm_Device_Store x58 x66 x71 fun x72 =>
  Zdr5 x0 x1 k x50_1 c x9 x10 x72
abbrev Zdr7 (x0 : OA) (x1 : Int) (k : (Int → K)) (x48 : Sl) (x50_1 : Int) (c : ((Int × Unit) → K)) : K :=
  ixS x48.p x48.n x50_1 3 fun x53 =>
  ldI .i64 (x53.add 0) fun x54_0 =>
  ldI .i64 (x53.add 1) fun x54_1 =>
  ldI .i64 (x53.add 2) fun x54_2 =>
  alK (.cells #[.int .i64 0, .int .i64 0, .int .i64 0] 143) fun b =>
  stK (Addr.add ⟨b, 0, none⟩ 0) (.int .i64 x54_0) <|
  stK (Addr.add ⟨b, 0, none⟩ 1) (.int .i64 x54_1) <|
  stK (Addr.add ⟨b, 0, none⟩ 2) (.int .i64 x54_2) <|
  Zdr6 x0 x1 k x50_1 c x50_1 ⟨b, 0, none⟩
abbrev Zdr8 (x0 : OA) (x1 : Int) (x2 : Sl) (k : (Int → K)) (x48 : Sl) (x50_1 : Int) (c : ((Int × Unit) → K)) (x51 : Bool) : K :=
  brK x51
  (Zdr7 x0 x1 k x48 x50_1 c)
  (Zdr1 x0 x1 x2 k)
abbrev Zdr9 (x0 : OA) (x1 : Int) (x2 : Sl) (k : (Int → K)) (x48 : Sl) (x49 : Int) (x50_1 : Int) (c : ((Int × Unit) → K)) : K :=
  Zdr8 x0 x1 x2 k x48 x50_1 c (decide (x50_1 < x49))
abbrev Zdr10 (x0 : OA) (x1 : Int) (x2 : Sl) (k : (Int → K)) (x48 : Sl) (x49 : Int) (x50 : Int) : K :=
  lp (fun (z_ : (Int × Unit)) c_ => Zdr9 x0 x1 x2 k x48 x49 z_.1 c_) (x50, ())
abbrev Zdr11 (k : (Int → K)) (x6_2 : Int) : K :=
  k x6_2
abbrev Zdr12 (x0 : OA) (x1 : Int) (x2 : Sl) (k : (Int → K)) (x47 : Bool) : K :=
  brK x47
  (Zdr11 k 0)
  (Zdr10 x0 x1 x2 k x2 ((x2.n : Nat) : Int) 0)
abbrev Zdr13 (k : (Int → K)) (x6_3 : Int) : K :=
  k x6_3
abbrev Zdr14 (k : (Int → K)) (x37_1 : Int) (c_1 : ((Int × Unit) → K)) (x43 : Bool) : K :=
  brK x43
  (Zdr13 k 1)
  (c_1 ((IntKind.wrap .i64 (x37_1 + 1)), ()))
abbrev Zdr15 (k : (Int → K)) (x37_1 : Int) (c_1 : ((Int × Unit) → K)) (x8 : Addr) : K :=
  ldI .i64 (x8.add 0) fun x41_0 =>
  ldI .i64 (x8.add 1) fun x41_1 =>
  ldI .i64 (x8.add 2) fun x41_2 =>
  c_bhead_Header_Right (x41_0, (x41_1, x41_2)) fun x42 =>
  Zdr14 k x37_1 c_1 (!x42)
abbrev Zdr16 (k : (Int → K)) (x35 : Sl) (x37_1 : Int) (c_1 : ((Int × Unit) → K)) : K :=
  ixS x35.p x35.n x37_1 3 fun x39 =>
  ldI .i64 (x39.add 0) fun x40_0 =>
  ldI .i64 (x39.add 1) fun x40_1 =>
  ldI .i64 (x39.add 2) fun x40_2 =>
  alK (.cells #[.int .i64 0, .int .i64 0, .int .i64 0] 143) fun b_1 =>
  stK (Addr.add ⟨b_1, 0, none⟩ 0) (.int .i64 x40_0) <|
  stK (Addr.add ⟨b_1, 0, none⟩ 1) (.int .i64 x40_1) <|
  stK (Addr.add ⟨b_1, 0, none⟩ 2) (.int .i64 x40_2) <|
  Zdr15 k x37_1 c_1 ⟨b_1, 0, none⟩
abbrev Zdr17 (x0 : OA) (x1 : Int) (x2 : Sl) (k : (Int → K)) (x35 : Sl) (x37_1 : Int) (c_1 : ((Int × Unit) → K)) (x38 : Bool) : K :=
  brK x38
  (Zdr16 k x35 x37_1 c_1)
  (Zdr12 x0 x1 x2 k (((x2.n : Nat) : Int) == 0))
abbrev Zdr18 (x0 : OA) (x1 : Int) (x2 : Sl) (k : (Int → K)) (x35 : Sl) (x36 : Int) (x37_1 : Int) (c_1 : ((Int × Unit) → K)) : K :=
  Zdr17 x0 x1 x2 k x35 x37_1 c_1 (decide (x37_1 < x36))
abbrev Zdr19 (x0 : OA) (x1 : Int) (x2 : Sl) (k : (Int → K)) (x35 : Sl) (x36 : Int) (x37 : Int) : K :=
  lp (fun (z_ : (Int × Unit)) c_ => Zdr18 x0 x1 x2 k x35 x36 z_.1 c_) (x37, ())
abbrev Zdr20 (k : (Int → K)) (x6_4 : Int) : K :=
  k x6_4
abbrev Zdr21 (x0 : OA) (x1 : Int) (x2 : Sl) (k : (Int → K)) (x34 : Bool) : K :=
  brK x34
  (Zdr20 k 1)
  (Zdr19 x0 x1 x2 k x2 ((x2.n : Nat) : Int) 0)
abbrev Zdr22 (x0 : OA) (x1 : Int) (x2 : Sl) (k : (Int → K)) : K :=
  brK (decide (x1 < 1))
  (Zdr21 x0 x1 x2 k true)
  (nn x0 fun x17 =>
  ldS (x17.add 2) fun x19 =>
  brK (decide (x1 > ((x19.n : Nat) : Int)))
  (Zdr21 x0 x1 x2 k true)
  (nn x0 fun x27 =>
  ldS (x27.add 2) fun x29 =>
  Zdr21 x0 x1 x2 k (decide (((x2.n : Nat) : Int) > (IntKind.wrap .i64 (((x29.n : Nat) : Int) - x1))))))
abbrev blocks_Table_Put (x0 : OA) (x1 : Int) (x2 : Sl) : M Int := fun k =>
  Zdr22 x0 x1 x2 k
theorem blocks_Table_Put_ok (x0 : OA) (x1 : Int) (x2 : Sl) (k : Int → K) (w : World) (hyp_ : blocks_Table_Put x0 x1 x2 k w) : c_blocks_Table_Put x0 x1 x2 k w :=
  cl_of (P := Tryz.prog) Tryz.func142 rfl (by kernel_rfl)
  (Qs [] [0, 1, 2] (fun z_ => Zdr22 x0 x1 x2 k)
  Qz
  (fun _ => Qs [] [0, 1, 2] (fun z_ => Zdr19 x0 x1 x2 k x2 ((x2.n : Nat) : Int) 0)
  (Qs [(34, .bool)] [0, 1, 2] (fun z_ => Zdr21 x0 x1 x2 k z_.1)
  (Qp [2, 11])
  (fun ⟨x34, _⟩ => Qc (x34) (Zdr20 k 1) (Zdr19 x0 x1 x2 k x2 ((x2.n : Nat) : Int) 0) (Qs [(6, .int .i64)] [] (fun z_ => Zdr20 k z_.1)
  Qz
  (fun ⟨x6_4, _⟩ => Qr)) Qk))
  (fun _ => Qs [] [0, 1, 2] (fun z_ => Zdr12 x0 x1 x2 k (((x2.n : Nat) : Int) == 0))
  (Qs [(35, .slice), (36, .int .i64), (37, .int .i64)] [0, 1, 2] (fun z_ => Zdr19 x0 x1 x2 k z_.1 z_.2.1 z_.2.2.1)
  Qz
  (fun ⟨x35, x36, x37, _⟩ => Qb (Ql [(37, .int .i64)] [0, 1, 2, 35, 36] (fun (z_ : (Int × Unit)) c_ => Zdr18 x0 x1 x2 k x35 x36 z_.1 c_) (x37, ())
  (fun ⟨x37_1, _⟩ c_1 => Qs [(38, .bool)] [0, 1, 2, 35, 36, 37] (fun z_ => Zdr17 x0 x1 x2 k x35 x37_1 c_1 z_.1)
  Qz
  (fun ⟨x38, _⟩ => Qs [] [0, 1, 2, 35, 36, 37] (fun z_ => Zdr16 k x35 x37_1 c_1)
  (Qc (x38) (Zdr16 k x35 x37_1 c_1) (Zdr12 x0 x1 x2 k (((x2.n : Nat) : Int) == 0)) Qk Qx)
  (fun _ => Qs [] [0, 1, 2, 35, 36, 37] (fun z_ => c_1 ((IntKind.wrap .i64 (x37_1 + 1)), ()))
  (Qb (Qs [(8, .addr)] [0, 1, 2, 35, 36, 37] (fun z_ => Zdr15 k x37_1 c_1 z_.1)
  Qz
  (fun ⟨x8, _⟩ => Qs [(43, .bool)] [0, 1, 2, 35, 36, 37] (fun z_ => Zdr14 k x37_1 c_1 z_.1)
  Qz
  (fun ⟨x43, _⟩ => Qc (x43) (Zdr13 k 1) (c_1 ((IntKind.wrap .i64 (x37_1 + 1)), ())) (Qs [(6, .int .i64)] [] (fun z_ => Zdr13 k z_.1)
  Qz
  (fun ⟨x6_3, _⟩ => Qr)) Qk))))
  (fun _ => Qz)))))))
  (fun _ => Qs [] [0, 1, 2] (fun z_ => Zdr10 x0 x1 x2 k x2 ((x2.n : Nat) : Int) 0)
  (Qs [(47, .bool)] [0, 1, 2] (fun z_ => Zdr12 x0 x1 x2 k z_.1)
  Qz
  (fun ⟨x47, _⟩ => Qc (x47) (Zdr11 k 0) (Zdr10 x0 x1 x2 k x2 ((x2.n : Nat) : Int) 0) (Qs [(6, .int .i64)] [] (fun z_ => Zdr11 k z_.1)
  Qz
  (fun ⟨x6_2, _⟩ => Qr)) Qk))
  (fun _ => Qs [] [0, 1, 2] (fun z_ => Zdr1 x0 x1 x2 k)
  (Qs [(48, .slice), (49, .int .i64), (50, .int .i64)] [0, 1, 2] (fun z_ => Zdr10 x0 x1 x2 k z_.1 z_.2.1 z_.2.2.1)
  Qz
  (fun ⟨x48, x49, x50, _⟩ => Qb (Ql [(50, .int .i64)] [0, 1, 2, 48, 49] (fun (z_ : (Int × Unit)) c_ => Zdr9 x0 x1 x2 k x48 x49 z_.1 c_) (x50, ())
  (fun ⟨x50_1, _⟩ c => Qs [(51, .bool)] [0, 1, 2, 48, 49, 50] (fun z_ => Zdr8 x0 x1 x2 k x48 x50_1 c z_.1)
  Qz
  (fun ⟨x51, _⟩ => Qs [] [0, 1, 2, 48, 49, 50] (fun z_ => Zdr7 x0 x1 k x48 x50_1 c)
  (Qc (x51) (Zdr7 x0 x1 k x48 x50_1 c) (Zdr1 x0 x1 x2 k) Qk Qx)
  (fun _ => Qs [] [0, 1, 2, 48, 49, 50] (fun z_ => c ((IntKind.wrap .i64 (x50_1 + 1)), ()))
  (Qb (Qs [(9, .int .i64), (10, .addr)] [0, 1, 2, 48, 49, 50] (fun z_ => Zdr6 x0 x1 k x50_1 c z_.1 z_.2.1)
  Qz
  (fun ⟨x9, x10, _⟩ => Qs [] [0, 1, 2, 9, 10, 48, 49, 50] (fun z_ => Zdr2 x0 x1 x50_1 c x9 x10)
  (Qs [(11, .int .i64)] [0, 1, 2, 9, 10, 48, 49, 50] (fun z_ => Zdr5 x0 x1 k x50_1 c x9 x10 z_.1)
  (RefK.draw [] [0, 1, 3, 7, 0, 16, 48, 112, 0, 0, 768, 2032, 0, 0, 12288, 0, 65520, 131071, 262143] [0, 1, 2, 3, 4, 5, 6, 7, 8, 9, 10, 12, 13, 14, 15, 11, 16, 17, 18] [0, 1, 2, 3, 4, 5, 6, 7, 8, 9, 10, 11, 12, 13, 14, 15, 16, 17, 18] (by kernel_rfl) (by kernel_rfl))
  (fun ⟨x11, _⟩ => Qs [(74, .bool)] [0, 1, 2, 9, 10, 11, 48, 49, 50] (fun z_ => Zdr4 x0 x1 k x50_1 c x9 x10 x11 z_.1)
  Qz
  (fun ⟨x74, _⟩ => Qc (x74) (Zdr3 k x11) (Zdr2 x0 x1 x50_1 c x9 x10) (Qs [(6, .int .i64)] [] (fun z_ => Zdr3 k z_.1)
  Qz
  (fun ⟨x6_1, _⟩ => Qr)) Qk)))
  (fun _ => RefK.draw [] [0, 1, 3, 7, 0, 0, 48, 0, 255, 511] [0, 1, 2, 3, 4, 5, 6, 7, 8, 9] [0, 1, 2, 3, 4, 5, 6, 7, 8, 9] (by kernel_rfl) (by kernel_rfl)))))
  (fun _ => Qz)))))))
  (fun _ => Qs [(6, .int .i64)] [] (fun z_ => Zdr0 k z_.1)
  (RefK.draw [] [0, 1, 3, 7, 0, 16, 48, 112, 0, 496, 0, 1024, 4095, 8191] [0, 1, 2, 3, 4, 5, 6, 7, 8, 10, 11, 9, 12, 13] [0, 1, 2, 3, 4, 5, 6, 7, 8, 9, 10, 11, 12, 13] (by kernel_rfl) (by kernel_rfl))
  (fun ⟨x6, _⟩ => Qr))))))) hyp_
abbrev Zds0 (k : (Int → K)) (x6 : Int) : K :=
  k x6
abbrev Zds1 (x0 : OA) (k : (Int → K)) (x1_1 : Int) (x2_2 : Int) : K :=
  c_runs_Index_add x0 x1_1 x2_2 fun x94 =>
  Zds0 k 0
abbrev Zds2 (x0 : OA) (k : (Int → K)) (x1_1 : Int) (x2_1 : Int) (x11 : Int) : K :=
  c_runs_Index_drop x0 (IntKind.wrap .i64 (x1_1 + x2_1)) fun x87 =>
  Zds1 x0 k x1_1 (IntKind.wrap .i64 (x2_1 + x11))
abbrev Zds3 (x0 : OA) (k : (Int → K)) (x1_1 : Int) (x2_1 : Int) (x11 : Int) (x82 : Bool) : K :=
  brK x82
  (Zds2 x0 k x1_1 x2_1 x11)
  (Zds1 x0 k x1_1 x2_1)
abbrev Zds4 (x0 : OA) (k : (Int → K)) (x1_1 : Int) (x2_1 : Int) (x11 : Int) (x12 : Bool) : K :=
  Zds3 x0 k x1_1 x2_1 x11 x12
abbrev Zds5 (x0 : OA) (k : (Int → K)) (x1_1 : Int) (x2_1 : Int) : K :=
  nn x0 fun x73 =>
  ldM (x73.add 0) fun x75 =>
  lkE Tryz.prog 3 (.int .i64 0) (.sc (.int .i64)) x75 (.int .i64 (IntKind.wrap .i64 (x1_1 + x2_1))) fun r ob x79 ok =>
  Zds4 x0 k x1_1 x2_1 x79 ok
abbrev Zds6 (x0 : OA) (x2 : Int) (k : (Int → K)) (x8 : Int) (x10 : Int) : K :=
  c_runs_Index_drop x0 x8 fun x66 =>
  Zds5 x0 k x8 (IntKind.wrap .i64 (x2 + x10))
abbrev Zds7 (x0 : OA) (x2 : Int) (k : (Int → K)) (x8 : Int) : K :=
  nn x0 fun x59 =>
  ldM (x59.add 0) fun x61 =>
  lkE Tryz.prog 3 (.int .i64 0) (.sc (.int .i64)) x61 (.int .i64 x8) fun r_1 ob_1 x63 ok_1 =>
  Zds6 x0 x2 k x8 x63
abbrev Zds8 (x0 : OA) (x1 : Int) (x2 : Int) (k : (Int → K)) (x8 : Int) (x57 : Bool) : K :=
  brK x57
  (Zds7 x0 x2 k x8)
  (Zds5 x0 k x1 x2)
abbrev Zds9 (x0 : OA) (x1 : Int) (x2 : Int) (k : (Int → K)) (x8 : Int) (x9 : Bool) : K :=
  Zds8 x0 x1 x2 k x8 x9
abbrev Zds10 (x0 : OA) (x1 : Int) (x2 : Int) (k : (Int → K)) : K :=
  nn x0 fun x50 =>
  ldM (x50.add 1) fun x52 =>
  lkE Tryz.prog 3 (.int .i64 0) (.sc (.int .i64)) x52 (.int .i64 x1) fun r_2 ob_2 x54 ok_2 =>
  Zds9 x0 x1 x2 k x54 ok_2
abbrev Zds11 (k : (Int → K)) (x6_1 : Int) : K :=
  k x6_1
abbrev Zds12 (k : (Int → K)) (x7_1 : Int) (c : ((Int × Unit) → K)) (x47 : Bool) : K :=
  brK x47
  (Zds11 k 41)
  (c ((IntKind.wrap .i64 (x7_1 + 1)), ()))
abbrev Zds13 (x0 : OA) (k : (Int → K)) (x7_1 : Int) (c : ((Int × Unit) → K)) : K :=
  c_runs_Index_Has x0 x7_1 fun x47_1 =>
  Zds12 k x7_1 c x47_1
abbrev Zds14 (x0 : OA) (x1 : Int) (x2 : Int) (k : (Int → K)) (x7_1 : Int) (c : ((Int × Unit) → K)) (x42 : Bool) : K :=
  brK x42
  (Zds13 x0 k x7_1 c)
  (Zds10 x0 x1 x2 k)
abbrev Zds15 (x0 : OA) (x1 : Int) (x2 : Int) (k : (Int → K)) (x7_1 : Int) (c : ((Int × Unit) → K)) : K :=
  Zds14 x0 x1 x2 k x7_1 c (decide (x7_1 < (IntKind.wrap .i64 (x1 + x2))))
abbrev Zds16 (x0 : OA) (x1 : Int) (x2 : Int) (k : (Int → K)) (x7 : Int) : K :=
  lp (fun (z_ : (Int × Unit)) c_ => Zds15 x0 x1 x2 k z_.1 c_) (x7, ())
abbrev Zds17 (k : (Int → K)) (x6_2 : Int) : K :=
  k x6_2
abbrev Zds18 (x0 : OA) (x1 : Int) (x2 : Int) (k : (Int → K)) (x36 : Bool) : K :=
  brK x36
  (Zds17 k 1)
  (Zds16 x0 x1 x2 k x1)
abbrev Zds19 (x0 : OA) (x1 : Int) (x2 : Int) (k : (Int → K)) : K :=
  brK (decide (x1 < 1))
  (Zds18 x0 x1 x2 k true)
  (brK (decide (x2 < 1))
  (Zds18 x0 x1 x2 k true)
  (nn x0 fun x22 =>
  ldI .i64 (x22.add 2) fun x24 =>
  brK (decide (x1 ≥ x24))
  (Zds18 x0 x1 x2 k true)
  (nn x0 fun x30 =>
  ldI .i64 (x30.add 2) fun x32 =>
  Zds18 x0 x1 x2 k (decide (x2 > (IntKind.wrap .i64 (x32 - x1)))))))
abbrev runs_Index_Give (x0 : OA) (x1 : Int) (x2 : Int) : M Int := fun k =>
  Zds19 x0 x1 x2 k
theorem runs_Index_Give_ok (x0 : OA) (x1 : Int) (x2 : Int) (k : Int → K) (w : World) (hyp_ : runs_Index_Give x0 x1 x2 k w) : c_runs_Index_Give x0 x1 x2 k w :=
  cl_of (P := Tryz.prog) Tryz.func143 rfl (by kernel_rfl)
  (Qs [] [0, 1, 2] (fun z_ => Zds19 x0 x1 x2 k)
  Qz
  (fun _ => Qs [] [0, 1, 2] (fun z_ => Zds16 x0 x1 x2 k x1)
  (Qs [(36, .bool)] [0, 1, 2] (fun z_ => Zds18 x0 x1 x2 k z_.1)
  (Qp [2, 6, 14])
  (fun ⟨x36, _⟩ => Qc (x36) (Zds17 k 1) (Zds16 x0 x1 x2 k x1) (Qs [(6, .int .i64)] [] (fun z_ => Zds17 k z_.1)
  Qz
  (fun ⟨x6_2, _⟩ => Qr)) Qk))
  (fun _ => Qs [] [0, 1, 2] (fun z_ => Zds10 x0 x1 x2 k)
  (Qs [(7, .int .i64)] [0, 1, 2] (fun z_ => Zds16 x0 x1 x2 k z_.1)
  Qz
  (fun ⟨x7, _⟩ => Qb (Ql [(7, .int .i64)] [0, 1, 2] (fun (z_ : (Int × Unit)) c_ => Zds15 x0 x1 x2 k z_.1 c_) (x7, ())
  (fun ⟨x7_1, _⟩ c => Qs [] [0, 1, 2, 7] (fun z_ => Zds13 x0 k x7_1 c)
  (Qs [(42, .bool)] [0, 1, 2, 7] (fun z_ => Zds14 x0 x1 x2 k x7_1 c z_.1)
  Qz
  (fun ⟨x42, _⟩ => Qc (x42) (Zds13 x0 k x7_1 c) (Zds10 x0 x1 x2 k) Qk Qx))
  (fun _ => Qs [] [0, 1, 2, 7] (fun z_ => c ((IntKind.wrap .i64 (x7_1 + 1)), ()))
  (Qb (Qs [(47, .bool)] [0, 1, 2, 7] (fun z_ => Zds12 k x7_1 c z_.1)
  Qz
  (fun ⟨x47, _⟩ => Qc (x47) (Zds11 k 41) (c ((IntKind.wrap .i64 (x7_1 + 1)), ())) (Qs [(6, .int .i64)] [] (fun z_ => Zds11 k z_.1)
  Qz
  (fun ⟨x6_1, _⟩ => Qr)) Qk)))
  (fun _ => Qz))))))
  (fun _ => Qs [(1, .int .i64), (2, .int .i64)] [0] (fun z_ => Zds5 x0 k z_.1 z_.2.1)
  (Qs [(8, .int .i64), (9, .bool)] [0, 1, 2] (fun z_ => Zds9 x0 x1 x2 k z_.1 z_.2.1)
  Qz
  (fun ⟨x8, x9, _⟩ => Qs [(57, .bool)] [0, 1, 2, 8] (fun z_ => Zds8 x0 x1 x2 k x8 z_.1)
  Qz
  (fun ⟨x57, _⟩ => Qc (x57) (Zds7 x0 x2 k x8) (Zds5 x0 k x1 x2) (Qs [(10, .int .i64)] [0, 2, 8] (fun z_ => Zds6 x0 x2 k x8 z_.1)
  Qz
  (fun ⟨x10, _⟩ => Qs [] [0, 2, 8, 10] (fun z_ => Zds5 x0 k x8 (IntKind.wrap .i64 (x2 + x10)))
  Qz
  (fun _ => Qz))) Qk)))
  (fun ⟨x1_1, x2_1, _⟩ => Qs [(2, .int .i64)] [0, 1] (fun z_ => Zds1 x0 k x1_1 z_.1)
  (Qs [(11, .int .i64), (12, .bool)] [0, 1, 2] (fun z_ => Zds4 x0 k x1_1 x2_1 z_.1 z_.2.1)
  Qz
  (fun ⟨x11, x12, _⟩ => Qs [(82, .bool)] [0, 1, 2, 11] (fun z_ => Zds3 x0 k x1_1 x2_1 x11 z_.1)
  Qz
  (fun ⟨x82, _⟩ => Qc (x82) (Zds2 x0 k x1_1 x2_1 x11) (Zds1 x0 k x1_1 x2_1) (Qs [] [0, 1, 2, 11] (fun z_ => Zds1 x0 k x1_1 (IntKind.wrap .i64 (x2_1 + x11)))
  Qz
  (fun _ => Qz)) Qk)))
  (fun ⟨x2_2, _⟩ => Qs [] [] (fun z_ => Zds0 k 0)
  Qz
  (fun _ => Qs [(6, .int .i64)] [] (fun z_ => Zds0 k z_.1)
  Qz
  (fun ⟨x6, _⟩ => Qr)))))))) hyp_
abbrev Zdt0 (k : (Bool → K)) (x6 : Bool) : K :=
  k x6
abbrev Zdt1 (k : (Bool → K)) (x6_1 : Bool) : K :=
  k x6_1
abbrev Zdt2 (k : (Bool → K)) (x19_1 : Int) (c : ((Int × Unit) → K)) (x31 : Bool) : K :=
  brK x31
  (Zdt1 k true)
  (c ((IntKind.wrap .i64 (x19_1 + 1)), ()))
abbrev Zdt3 (l : OA) (k_1 : Int) (at_1 : Int) (k : (Bool → K)) (x19_1 : Int) (c : ((Int × Unit) → K)) (m : Int) : K :=
  nn l fun x23 =>
  ldM (x23.add 32) fun x25 =>
  lkE Tryz.prog 201 (.slice none 0 0) (.sc (.slice)) x25 (.agg #[.int .i64 m, .int .i64 k_1]) fun r ob x29 ok =>
  c_slices_Contains_Sint_int x29 at_1 fun x31_1 =>
  Zdt2 k x19_1 c x31_1
abbrev Zdt4 (l : OA) (k_1 : Int) (at_1 : Int) (k : (Bool → K)) (x19_1 : Int) (c : ((Int × Unit) → K)) (x20 : Bool) : K :=
  brK x20
  (Zdt3 l k_1 at_1 k x19_1 c x19_1)
  (Zdt0 k false)
abbrev Zdt5 (l : OA) (k_1 : Int) (at_1 : Int) (k : (Bool → K)) (x19_1 : Int) (c : ((Int × Unit) → K)) : K :=
  Zdt4 l k_1 at_1 k x19_1 c (decide (x19_1 < 4))
abbrev Zdt6 (l : OA) (k_1 : Int) (at_1 : Int) (k : (Bool → K)) (x19 : Int) : K :=
  lp (fun (z_ : (Int × Unit)) c_ => Zdt5 l k_1 at_1 k z_.1 c_) (x19, ())
abbrev Zdt7 (k : (Bool → K)) (x6_2 : Bool) : K :=
  k x6_2
abbrev Zdt8 (l : OA) (k_1 : Int) (at_1 : Int) (k : (Bool → K)) (x18 : Bool) : K :=
  brK x18
  (Zdt7 k true)
  (Zdt6 l k_1 at_1 k 0)
abbrev Zdt9 (l : OA) (k_1 : Int) (at_1 : Int) (k : (Bool → K)) : K :=
  nn l fun x13 =>
  ixA (x13.add 0) 32 k_1 1 fun x15 =>
  ldS x15 fun x16 =>
  c_slices_Contains_Sint_int x16 at_1 fun x18_1 =>
  Zdt8 l k_1 at_1 k x18_1
abbrev Zdt10 (k : (Bool → K)) (x6_3 : Bool) : K :=
  k x6_3
abbrev Zdt11 (l : OA) (k_1 : Int) (at_1 : Int) (k : (Bool → K)) (x10 : Bool) : K :=
  brK x10
  (Zdt10 k false)
  (Zdt9 l k_1 at_1 k)
abbrev Zdt12 (l : OA) (k_1 : Int) (at_1 : Int) (k : (Bool → K)) : K :=
  c_class_Right k_1 fun x9 =>
  Zdt11 l k_1 at_1 k (!x9)
abbrev free_Lists_Has (l : OA) (k_1 : Int) (at_1 : Int) : M Bool := fun k =>
  Zdt12 l k_1 at_1 k
theorem free_Lists_Has_ok (l : OA) (k_1 : Int) (at_1 : Int) (k : Bool → K) (w : World) (hyp_ : free_Lists_Has l k_1 at_1 k w) : c_free_Lists_Has l k_1 at_1 k w :=
  cl_of (P := Tryz.prog) Tryz.func144 rfl (by kernel_rfl)
  (Qs [] [0, 1, 2] (fun z_ => Zdt12 l k_1 at_1 k)
  Qz
  (fun _ => Qs [] [0, 1, 2] (fun z_ => Zdt9 l k_1 at_1 k)
  (Qs [(10, .bool)] [0, 1, 2] (fun z_ => Zdt11 l k_1 at_1 k z_.1)
  Qz
  (fun ⟨x10, _⟩ => Qc (x10) (Zdt10 k false) (Zdt9 l k_1 at_1 k) (Qs [(6, .bool)] [] (fun z_ => Zdt10 k z_.1)
  Qz
  (fun ⟨x6_3, _⟩ => Qr)) Qk))
  (fun _ => Qs [] [0, 1, 2] (fun z_ => Zdt6 l k_1 at_1 k 0)
  (Qs [(18, .bool)] [0, 1, 2] (fun z_ => Zdt8 l k_1 at_1 k z_.1)
  Qz
  (fun ⟨x18, _⟩ => Qc (x18) (Zdt7 k true) (Zdt6 l k_1 at_1 k 0) (Qs [(6, .bool)] [] (fun z_ => Zdt7 k z_.1)
  Qz
  (fun ⟨x6_2, _⟩ => Qr)) Qk))
  (fun _ => Qs [] [] (fun z_ => Zdt0 k false)
  (Qs [(19, .int .i64)] [0, 1, 2] (fun z_ => Zdt6 l k_1 at_1 k z_.1)
  Qz
  (fun ⟨x19, _⟩ => Qb (Ql [(19, .int .i64)] [0, 1, 2] (fun (z_ : (Int × Unit)) c_ => Zdt5 l k_1 at_1 k z_.1 c_) (x19, ())
  (fun ⟨x19_1, _⟩ c => Qs [(20, .bool)] [0, 1, 2, 19] (fun z_ => Zdt4 l k_1 at_1 k x19_1 c z_.1)
  Qz
  (fun ⟨x20, _⟩ => Qs [] [0, 1, 2, 19] (fun z_ => Zdt3 l k_1 at_1 k x19_1 c x19_1)
  (Qc (x20) (Zdt3 l k_1 at_1 k x19_1 c x19_1) (Zdt0 k false) Qk Qx)
  (fun _ => Qs [] [0, 1, 2, 19] (fun z_ => c ((IntKind.wrap .i64 (x19_1 + 1)), ()))
  (Qb (Qs [(7, .int .i64)] [0, 1, 2, 19] (fun z_ => Zdt3 l k_1 at_1 k x19_1 c z_.1)
  Qz
  (fun ⟨m, _⟩ => Qs [(31, .bool)] [0, 1, 2, 19] (fun z_ => Zdt2 k x19_1 c z_.1)
  Qz
  (fun ⟨x31, _⟩ => Qc (x31) (Zdt1 k true) (c ((IntKind.wrap .i64 (x19_1 + 1)), ())) (Qs [(6, .bool)] [] (fun z_ => Zdt1 k z_.1)
  Qz
  (fun ⟨x6_1, _⟩ => Qr)) Qk))))
  (fun _ => Qz)))))))
  (fun _ => Qs [(6, .bool)] [] (fun z_ => Zdt0 k z_.1)
  Qz
  (fun ⟨x6, _⟩ => Qr)))))) hyp_
abbrev Zdu0 (k : (Bool → K)) (x4 : Bool) : K :=
  k x4
abbrev Zdu1 (mutator : Int) (k_1 : Int) (k : (Bool → K)) : K :=
  brK (decide (mutator ≥ 0))
  (brK (decide (mutator < 4))
  (c_class_Right k_1 fun x13 =>
  Zdu0 k x13)
  (Zdu0 k false))
  (Zdu0 k false)
abbrev free_right (mutator : Int) (k_1 : Int) : M Bool := fun k =>
  Zdu1 mutator k_1 k
theorem free_right_ok (mutator : Int) (k_1 : Int) (k : Bool → K) (w : World) (hyp_ : free_right mutator k_1 k w) : c_free_right mutator k_1 k w :=
  cl_of (P := Tryz.prog) Tryz.func145 rfl (by kernel_rfl)
  (Qs [] [0, 1] (fun z_ => Zdu1 mutator k_1 k)
  Qz
  (fun _ => Qs [(4, .bool)] [] (fun z_ => Zdu0 k z_.1)
  (Qp [2, 6])
  (fun ⟨x4, _⟩ => Qr))) hyp_
abbrev Zdv0 (k : ((Int × Int) → K)) (x4 : Int) (x5 : Int) : K :=
  k (x4, x5)
abbrev Zdv1 (k : ((Int × Int) → K)) (x4_1 : Int) (x5_1 : Int) : K :=
  k (x4_1, x5_1)
abbrev Zdv2 (k : ((Int × Int) → K)) (b : Int) (e_1 : Int) (x56 : Bool) : K :=
  brK x56
  (Zdv1 k 0 e_1)
  (Zdv0 k b 0)
abbrev Zdv3 (k : ((Int × Int) → K)) (b : Int) (e_1 : Int) : K :=
  Zdv2 k b e_1 (e_1 != 0)
abbrev Zdv4 (m : OA) (k : ((Int × Int) → K)) (b : Int) (list : Sl) : K :=
  tick fun _ =>
  nn m fun x46 =>
  ldP (x46.add 0) fun x48 =>
  ixS list.p list.n 0 3 fun x51 =>
  ldI .i64 (x51.add 0) fun x52_0 =>
  ldI .i64 (x51.add 1) fun x52_1 =>
  ldI .i64 (x51.add 2) fun x52_2 =>
  alK (.cells #[.int .i64 x52_0, .int .i64 x52_1, .int .i64 x52_2] 143) fun b_1 =>
  c_blocks_Table_Put x48 b ⟨(some ⟨b_1, 0, none⟩), 1, 1⟩ fun x54 =>
  Zdv3 k b x54
abbrev Zdv5 (k : ((Int × Int) → K)) (x4_2 : Int) (x5_2 : Int) : K :=
  k (x4_2, x5_2)
abbrev Zdv6 (m : OA) (k : ((Int × Int) → K)) (b : Int) (list : Sl) (e_2 : Int) (x43 : Bool) : K :=
  brK x43
  (Zdv5 k 0 e_2)
  (Zdv4 m k b list)
abbrev Zdv7 (m : OA) (k : ((Int × Int) → K)) (b : Int) (list : Sl) (e_2 : Int) : K :=
  Zdv6 m k b list e_2 (e_2 != 0)
abbrev Zdv8 (m : OA) (k : ((Int × Int) → K)) (b : Int) (list : Sl) : K :=
  tick fun _ =>
  nn m fun x34 =>
  ldP (x34.add 0) fun x36 =>
  loB (some (.int .i64 1)) 0 list.n fun l =>
  c_blocks_Table_Put x36 (IntKind.wrap .i64 (b + 1)) ⟨(cutP list.p l list.c 3), (list.n - l), (list.c - l)⟩ fun x41 =>
  Zdv7 m k b list x41
abbrev Zdv9 (m : OA) (k : ((Int × Int) → K)) (b : Int) (list : Sl) (x32 : Bool) : K :=
  brK x32
  (Zdv8 m k b list)
  (Zdv4 m k b list)
abbrev Zdv10 (m : OA) (n : Int) (k : ((Int × Int) → K)) (b : Int) (list : Sl) : K :=
  Zdv9 m k b list (decide (n > 1))
abbrev Zdv11 (m : OA) (n : Int) (k : ((Int × Int) → K)) (b : Int) : K :=
  c_bhead_Run n fun x30 =>
  Zdv10 m n k b x30
abbrev Zdv12 (k : ((Int × Int) → K)) (x4_3 : Int) (x5_3 : Int) : K :=
  k (x4_3, x5_3)
abbrev Zdv13 (m : OA) (n : Int) (k : ((Int × Int) → K)) (b : Int) (e : Int) (x27 : Bool) : K :=
  brK x27
  (Zdv12 k 0 e)
  (Zdv11 m n k b)
abbrev Zdv14 (m : OA) (n : Int) (k : ((Int × Int) → K)) (b : Int) (e : Int) : K :=
  Zdv13 m n k b e (e != 0)
abbrev Zdv15 (m : OA) (n : Int) (k : ((Int × Int) → K)) : K :=
  nn m fun x19 =>
  ldP (x19.add 1) fun x21 =>
  c_runs_Index_Take x21 n fun x23 =>
  Zdv14 m n k x23.1 x23.2
abbrev Zdv16 (k : ((Int × Int) → K)) (x4_4 : Int) (x5_4 : Int) : K :=
  k (x4_4, x5_4)
abbrev Zdv17 (m : OA) (n : Int) (k : ((Int × Int) → K)) (x16 : Bool) : K :=
  brK x16
  (Zdv16 k 0 1)
  (Zdv15 m n k)
abbrev Zdv18 (m : OA) (n : Int) (k : ((Int × Int) → K)) : K :=
  brK (decide (n < 1))
  (Zdv17 m n k true)
  (Zdv17 m n k (decide (n ≥ 256)))
abbrev bman_Manager_Large (m : OA) (n : Int) : M (Int × Int) := fun k =>
  Zdv18 m n k
theorem bman_Manager_Large_ok (m : OA) (n : Int) (k : (Int × Int) → K) (w : World) (hyp_ : bman_Manager_Large m n k w) : c_bman_Manager_Large m n k w :=
  cl_of (P := Tryz.prog) Tryz.func149 rfl (by kernel_rfl)
  (Qs [] [0, 1] (fun z_ => Zdv18 m n k)
  Qz
  (fun _ => Qs [] [0, 1] (fun z_ => Zdv15 m n k)
  (Qs [(16, .bool)] [0, 1] (fun z_ => Zdv17 m n k z_.1)
  (Qp [2])
  (fun ⟨x16, _⟩ => Qc (x16) (Zdv16 k 0 1) (Zdv15 m n k) (Qs [(4, .int .i64), (5, .int .i64)] [] (fun z_ => Zdv16 k z_.1 z_.2.1)
  Qz
  (fun ⟨x4_4, x5_4, _⟩ => Qr)) Qk))
  (fun _ => Qs [(6, .int .i64), (7, .int .i64)] [0, 1] (fun z_ => Zdv14 m n k z_.1 z_.2.1)
  Qz
  (fun ⟨b, e, _⟩ => Qs [] [0, 1, 6] (fun z_ => Zdv11 m n k b)
  (Qs [(27, .bool)] [0, 1, 6, 7] (fun z_ => Zdv13 m n k b e z_.1)
  Qz
  (fun ⟨x27, _⟩ => Qc (x27) (Zdv12 k 0 e) (Zdv11 m n k b) (Qs [(4, .int .i64), (5, .int .i64)] [] (fun z_ => Zdv12 k z_.1 z_.2.1)
  Qz
  (fun ⟨x4_3, x5_3, _⟩ => Qr)) Qk))
  (fun _ => Qs [(8, .slice)] [0, 1, 6] (fun z_ => Zdv10 m n k b z_.1)
  Qz
  (fun ⟨list, _⟩ => Qs [] [0, 6, 8] (fun z_ => Zdv4 m k b list)
  (Qs [(32, .bool)] [0, 6, 8] (fun z_ => Zdv9 m k b list z_.1)
  Qz
  (fun ⟨x32, _⟩ => Qc (x32) (Zdv8 m k b list) (Zdv4 m k b list) (Qs [(9, .int .i64)] [0, 6, 8] (fun z_ => Zdv7 m k b list z_.1)
  (RefK.draw [] [0, 1, 3, 7, 0, 16, 0, 64, 255, 511] [0, 1, 2, 3, 4, 5, 6, 7, 8, 9] [0, 1, 2, 3, 4, 5, 6, 7, 8, 9] (by kernel_rfl) (by kernel_rfl))
  (fun ⟨e_2, _⟩ => Qs [(43, .bool)] [0, 6, 8, 9] (fun z_ => Zdv6 m k b list e_2 z_.1)
  Qz
  (fun ⟨x43, _⟩ => Qc (x43) (Zdv5 k 0 e_2) (Zdv4 m k b list) (Qs [(4, .int .i64), (5, .int .i64)] [] (fun z_ => Zdv5 k z_.1 z_.2.1)
  Qz
  (fun ⟨x4_2, x5_2, _⟩ => Qr)) Qk))) Qk))
  (fun _ => Qs [] [6] (fun z_ => Zdv0 k b 0)
  (Qs [(10, .int .i64)] [6] (fun z_ => Zdv3 k b z_.1)
  (RefK.draw [] [0, 1, 3, 7, 0, 0, 32, 96, 224, 511, 1023] [0, 1, 2, 3, 4, 5, 6, 7, 8, 9, 10] [0, 1, 2, 3, 4, 5, 6, 7, 8, 9, 10] (by kernel_rfl) (by kernel_rfl))
  (fun ⟨e_1, _⟩ => Qs [(56, .bool)] [6, 10] (fun z_ => Zdv2 k b e_1 z_.1)
  Qz
  (fun ⟨x56, _⟩ => Qc (x56) (Zdv1 k 0 e_1) (Zdv0 k b 0) (Qs [(4, .int .i64), (5, .int .i64)] [] (fun z_ => Zdv1 k z_.1 z_.2.1)
  Qz
  (fun ⟨x4_1, x5_1, _⟩ => Qr)) Qk)))
  (fun _ => Qs [(4, .int .i64), (5, .int .i64)] [] (fun z_ => Zdv0 k z_.1 z_.2.1)
  Qz
  (fun ⟨x4, x5, _⟩ => Qr))))))))) hyp_
abbrev Zdw0 (k : ((Int × Int) → K)) (x6 : Int) (x7 : Int) : K :=
  k (x6, x7)
abbrev Zdw1 (k : ((Int × Int) → K)) (x11 : Sl) : K :=
  ixS x11.p x11.n (IntKind.wrap .i64 (((x11.n : Nat) : Int) - 1)) 1 fun x94 =>
  ldI .i64 x94 fun x95 =>
  Zdw0 k x95 0
abbrev Zdw2 (x0 : OA) (k : ((Int × Int) → K)) (x8 : Addr) (x11 : Sl) : K :=
  tick fun _ =>
  nn x0 fun x81 =>
  ldM (x81.add 32) fun x83 =>
  ldI .i64 (x8.add 0) fun x84_0 =>
  ldI .i64 (x8.add 1) fun x84_1 =>
  loB (some (.int .i64 (IntKind.wrap .i64 (((x11.n : Nat) : Int) - 1)))) x11.n x11.c fun h =>
  semU Tryz.prog (Instr.mapUpdate 197 (.map x83) (.agg #[.int .i64 x84_0, .int .i64 x84_1]) (.slice (cutP x11.p 0 x11.c 1) (h - 0) (x11.c - 0))) <|
  Zdw1 k x11
abbrev Zdw3 (k : ((Int × Int) → K)) (x6_1 : Int) (x7_1 : Int) : K :=
  k (x6_1, x7_1)
abbrev Zdw4 (x0 : OA) (k : ((Int × Int) → K)) (x8 : Addr) (x11 : Sl) (x79 : Bool) : K :=
  brK x79
  (Zdw3 k 0 4)
  (Zdw2 x0 k x8 x11)
abbrev Zdw5 (x0 : OA) (k : ((Int × Int) → K)) (x8 : Addr) (x11 : Sl) : K :=
  Zdw4 x0 k x8 x11 (((x11.n : Nat) : Int) == 0)
abbrev Zdw6 (x0 : OA) (k : ((Int × Int) → K)) (x8 : Addr) : K :=
  tick fun _ =>
  nn x0 fun x72 =>
  ldM (x72.add 32) fun x74 =>
  ldI .i64 (x8.add 0) fun x75_0 =>
  ldI .i64 (x8.add 1) fun x75_1 =>
  lkE Tryz.prog 201 (.slice none 0 0) (.sc (.slice)) x74 (.agg #[.int .i64 x75_0, .int .i64 x75_1]) fun r ob x76 ok =>
  Zdw5 x0 k x8 x76
abbrev Zdw7 (x0 : OA) (x2 : Int) (k : ((Int × Int) → K)) (x8 : Addr) (x10 : Int) : K :=
  tick fun _ =>
  nn x0 fun x62 =>
  ixA (x62.add 0) 32 x2 1 fun x64 =>
  ldS x64 fun x65 =>
  loB (some (.int .i64 x10)) x65.n x65.c fun h_1 =>
  nn x0 fun x68 =>
  ixA (x68.add 0) 32 x2 1 fun x70 =>
  stK (x70.add 0) (.slice (cutP x65.p 0 x65.c 1) (h_1 - 0) (x65.c - 0)) <|
  Zdw6 x0 k x8
abbrev Zdw8 (x0 : OA) (x2 : Int) (k : ((Int × Int) → K)) (x8 : Addr) (x10 : Int) : K :=
  tick fun _ =>
  nn x0 fun x45 =>
  ldM (x45.add 32) fun x47 =>
  ldI .i64 (x8.add 0) fun x48_0 =>
  ldI .i64 (x8.add 1) fun x48_1 =>
  nn x0 fun x51 =>
  ixA (x51.add 0) 32 x2 1 fun x53 =>
  ldS x53 fun x54 =>
  loB (some (.int .i64 x10)) 0 x54.n fun l =>
  c_slices_Clone_Sint_int ⟨(cutP x54.p l x54.c 1), (x54.n - l), (x54.c - l)⟩ fun x57 =>
  chk [.cell (x8.add 0) (.int .i64 x48_0), .cell (x8.add 1) (.int .i64 x48_1), .cell (x45.add 32) (.map x47)] fun _ =>
  semU Tryz.prog (Instr.mapUpdate 197 (.map x47) (.agg #[.int .i64 x48_0, .int .i64 x48_1]) x57.v) <|
  Zdw7 x0 x2 k x8 x10
abbrev Zdw9 (x0 : OA) (x2 : Int) (k : ((Int × Int) → K)) (x8 : Addr) (x9 : Int) : K :=
  nn x0 fun x37 =>
  ixA (x37.add 0) 32 x2 1 fun x39 =>
  ldS x39 fun x40 =>
  Zdw8 x0 x2 k x8 (IntKind.wrap .i64 (((x40.n : Nat) : Int) - x9))
abbrev Zdw10 (x0 : OA) (x2 : Int) (k : ((Int × Int) → K)) (x8 : Addr) : K :=
  nn x0 fun x29 =>
  ixA (x29.add 0) 32 x2 1 fun x31 =>
  ldS x31 fun x32 =>
  Zdw9 x0 x2 k x8 (min2I ((x32.n : Nat) : Int) 4)
abbrev Zdw11 (x0 : OA) (x2 : Int) (k : ((Int × Int) → K)) (x8 : Addr) (x26 : Bool) : K :=
  brK x26
  (Zdw10 x0 x2 k x8)
  (Zdw6 x0 k x8)
abbrev Zdw12 (x0 : OA) (x2 : Int) (k : ((Int × Int) → K)) (x8 : Addr) : K :=
  tick fun _ =>
  nn x0 fun x20 =>
  ldM (x20.add 32) fun x22 =>
  ldI .i64 (x8.add 0) fun x23_0 =>
  ldI .i64 (x8.add 1) fun x23_1 =>
  lkE Tryz.prog 201 (.slice none 0 0) (.sc (.slice)) x22 (.agg #[.int .i64 x23_0, .int .i64 x23_1]) fun r_1 ob_1 x24 ok_1 =>
  Zdw11 x0 x2 k x8 (((x24.n : Nat) : Int) == 0)
abbrev Zdw13 (x0 : OA) (x1 : Int) (x2 : Int) (k : ((Int × Int) → K)) : K :=
  alK (.cells #[.int .i64 0, .int .i64 0] 201) fun b =>
  stK (Addr.add ⟨b, 0, none⟩ 0) (.int .i64 x1) <|
  stK (Addr.add ⟨b, 0, none⟩ 1) (.int .i64 x2) <|
  Zdw12 x0 x2 k ⟨b, 0, none⟩
abbrev Zdw14 (k : ((Int × Int) → K)) (x6_2 : Int) (x7_2 : Int) : K :=
  k (x6_2, x7_2)
abbrev Zdw15 (x0 : OA) (x1 : Int) (x2 : Int) (k : ((Int × Int) → K)) (x15 : Bool) : K :=
  brK x15
  (Zdw14 k 0 1)
  (Zdw13 x0 x1 x2 k)
abbrev Zdw16 (x0 : OA) (x1 : Int) (x2 : Int) (k : ((Int × Int) → K)) : K :=
  c_free_right x1 x2 fun x14 =>
  Zdw15 x0 x1 x2 k (!x14)
abbrev free_Lists_Take (x0 : OA) (x1 : Int) (x2 : Int) : M (Int × Int) := fun k =>
  Zdw16 x0 x1 x2 k
theorem free_Lists_Take_ok (x0 : OA) (x1 : Int) (x2 : Int) (k : (Int × Int) → K) (w : World) (hyp_ : free_Lists_Take x0 x1 x2 k w) : c_free_Lists_Take x0 x1 x2 k w :=
  cl_of (P := Tryz.prog) Tryz.func150 rfl (by kernel_rfl)
  (Qs [] [0, 1, 2] (fun z_ => Zdw16 x0 x1 x2 k)
  Qz
  (fun _ => Qs [] [0, 1, 2] (fun z_ => Zdw13 x0 x1 x2 k)
  (Qs [(15, .bool)] [0, 1, 2] (fun z_ => Zdw15 x0 x1 x2 k z_.1)
  Qz
  (fun ⟨x15, _⟩ => Qc (x15) (Zdw14 k 0 1) (Zdw13 x0 x1 x2 k) (Qs [(6, .int .i64), (7, .int .i64)] [] (fun z_ => Zdw14 k z_.1 z_.2.1)
  Qz
  (fun ⟨x6_2, x7_2, _⟩ => Qr)) Qk))
  (fun _ => Qs [(8, .addr)] [0, 2] (fun z_ => Zdw12 x0 x2 k z_.1)
  Qz
  (fun ⟨x8, _⟩ => Qs [] [0, 8] (fun z_ => Zdw6 x0 k x8)
  (Qs [(26, .bool)] [0, 2, 8] (fun z_ => Zdw11 x0 x2 k x8 z_.1)
  (RefK.draw [] [0, 1, 3, 7, 0, 31, 63, 127] [0, 1, 2, 3, 4, 5, 6, 7] [0, 1, 2, 3, 4, 5, 6, 7] (by kernel_rfl) (by kernel_rfl))
  (fun ⟨x26, _⟩ => Qc (x26) (Zdw10 x0 x2 k x8) (Zdw6 x0 k x8) (Qs [(9, .int .i64)] [0, 2, 8] (fun z_ => Zdw9 x0 x2 k x8 z_.1)
  Qz
  (fun ⟨x9, _⟩ => Qs [(10, .int .i64)] [0, 2, 8] (fun z_ => Zdw8 x0 x2 k x8 z_.1)
  Qz
  (fun ⟨x10, _⟩ => Qs [] [0, 2, 8, 10] (fun z_ => Zdw7 x0 x2 k x8 x10)
  (RefK.draw [] [0, 1, 3, 7, 0, 0, 0, 32, 160, 480, 992, 0, 4064, 8160, 16383] [0, 1, 2, 3, 4, 5, 6, 7, 8, 9, 10, 11, 12, 13, 14] [0, 1, 2, 3, 4, 5, 6, 7, 8, 9, 10, 11, 12, 13, 14] (by kernel_rfl) (by kernel_rfl))
  (fun _ => RefK.draw [] [0, 0, 0, 0, 4, 20, 60, 124, 0, 508, 1, 1025, 4095, 8191] [0, 1, 2, 3, 4, 5, 6, 7, 8, 9, 10, 11, 12, 13] [0, 1, 2, 3, 4, 5, 6, 7, 8, 9, 10, 11, 12, 13] (by kernel_rfl) (by kernel_rfl))))) Qk))
  (fun _ => Qs [(11, .slice)] [0, 8] (fun z_ => Zdw5 x0 k x8 z_.1)
  (RefK.draw [] [0, 1, 3, 7, 0, 31, 63] [0, 1, 2, 3, 4, 5, 6] [0, 1, 2, 3, 4, 5, 6] (by kernel_rfl) (by kernel_rfl))
  (fun ⟨x11, _⟩ => Qs [] [0, 8, 11] (fun z_ => Zdw2 x0 k x8 x11)
  (Qs [(79, .bool)] [0, 8, 11] (fun z_ => Zdw4 x0 k x8 x11 z_.1)
  Qz
  (fun ⟨x79, _⟩ => Qc (x79) (Zdw3 k 0 4) (Zdw2 x0 k x8 x11) (Qs [(6, .int .i64), (7, .int .i64)] [] (fun z_ => Zdw3 k z_.1 z_.2.1)
  Qz
  (fun ⟨x6_1, x7_1, _⟩ => Qr)) Qk))
  (fun _ => Qs [] [11] (fun z_ => Zdw1 k x11)
  (RefK.draw [] [0, 1, 3, 7, 0, 0, 0, 64, 192, 480, 1023] [0, 1, 2, 3, 4, 5, 6, 7, 8, 9, 10] [0, 1, 2, 3, 4, 5, 6, 7, 8, 9, 10] (by kernel_rfl) (by kernel_rfl))
  (fun _ => Qs [(6, .int .i64), (7, .int .i64)] [] (fun z_ => Zdw0 k z_.1 z_.2.1)
  Qz
  (fun ⟨x6, x7, _⟩ => Qr))))))))) hyp_
abbrev Zdx0 (k : ((Int × Int) → K)) (x4 : Int) (x5 : Int) : K :=
  k (x4, x5)
abbrev Zdx1 (k : ((Int × Int) → K)) (x4_1 : Int) (x5_1 : Int) : K :=
  k (x4_1, x5_1)
abbrev Zdx2 (k : ((Int × Int) → K)) (b : Int) (e_1 : Int) (x35 : Bool) : K :=
  brK x35
  (Zdx1 k 0 e_1)
  (Zdx0 k b 0)
abbrev Zdx3 (k : ((Int × Int) → K)) (b : Int) (e_1 : Int) : K :=
  Zdx2 k b e_1 (e_1 != 0)
abbrev Zdx4 (m : OA) (k : ((Int × Int) → K)) (h : Addr) (b : Int) : K :=
  tick fun _ =>
  nn m fun x27 =>
  ldP (x27.add 0) fun x29 =>
  ldI .i64 (h.add 0) fun x31_0 =>
  ldI .i64 (h.add 1) fun x31_1 =>
  ldI .i64 (h.add 2) fun x31_2 =>
  alK (.cells #[.int .i64 x31_0, .int .i64 x31_1, .int .i64 x31_2] 143) fun b_1 =>
  c_blocks_Table_Put x29 b ⟨(some ⟨b_1, 0, none⟩), 1, 1⟩ fun x33 =>
  Zdx3 k b x33
abbrev Zdx5 (k : ((Int × Int) → K)) (x4_2 : Int) (x5_2 : Int) : K :=
  k (x4_2, x5_2)
abbrev Zdx6 (m : OA) (k : ((Int × Int) → K)) (h : Addr) (b : Int) (e : Int) (x24 : Bool) : K :=
  brK x24
  (Zdx5 k 0 e)
  (Zdx4 m k h b)
abbrev Zdx7 (m : OA) (k : ((Int × Int) → K)) (h : Addr) (b : Int) (e : Int) : K :=
  Zdx6 m k h b e (e != 0)
abbrev Zdx8 (m : OA) (k : ((Int × Int) → K)) (h : Addr) : K :=
  nn m fun x17 =>
  ldP (x17.add 1) fun x19 =>
  c_runs_Index_Take x19 1 fun x20 =>
  Zdx7 m k h x20.1 x20.2
abbrev Zdx9 (k : ((Int × Int) → K)) (x4_3 : Int) (x5_3 : Int) : K :=
  k (x4_3, x5_3)
abbrev Zdx10 (m : OA) (k : ((Int × Int) → K)) (h : Addr) (x14 : Bool) : K :=
  brK x14
  (Zdx9 k 0 1)
  (Zdx8 m k h)
abbrev Zdx11 (m : OA) (k : ((Int × Int) → K)) (h : Addr) : K :=
  ldI .i64 (h.add 0) fun x12_0 =>
  ldI .i64 (h.add 1) fun x12_1 =>
  ldI .i64 (h.add 2) fun x12_2 =>
  c_bhead_Header_Right (x12_0, (x12_1, x12_2)) fun x13 =>
  Zdx10 m k h (!x13)
abbrev Zdx12 (m : OA) (k_1 : Int) (k : ((Int × Int) → K)) : K :=
  alK (.cells #[.int .i64 0, .int .i64 0, .int .i64 0] 143) fun b_2 =>
  stK (Addr.add ⟨b_2, 0, none⟩ 0) (.int .i64 1) <|
  stK (Addr.add ⟨b_2, 0, none⟩ 1) (.int .i64 k_1) <|
  stK (Addr.add ⟨b_2, 0, none⟩ 2) (.int .i64 0) <|
  Zdx11 m k ⟨b_2, 0, none⟩
abbrev bman_Manager_Small (m : OA) (k_1 : Int) : M (Int × Int) := fun k =>
  Zdx12 m k_1 k
theorem bman_Manager_Small_ok (m : OA) (k_1 : Int) (k : (Int × Int) → K) (w : World) (hyp_ : bman_Manager_Small m k_1 k w) : c_bman_Manager_Small m k_1 k w :=
  cl_of (P := Tryz.prog) Tryz.func151 rfl (by kernel_rfl)
  (Qs [] [0, 1] (fun z_ => Zdx12 m k_1 k)
  Qz
  (fun _ => Qs [(6, .addr)] [0] (fun z_ => Zdx11 m k z_.1)
  Qz
  (fun ⟨h, _⟩ => Qs [] [0, 6] (fun z_ => Zdx8 m k h)
  (Qs [(14, .bool)] [0, 6] (fun z_ => Zdx10 m k h z_.1)
  Qz
  (fun ⟨x14, _⟩ => Qc (x14) (Zdx9 k 0 1) (Zdx8 m k h) (Qs [(4, .int .i64), (5, .int .i64)] [] (fun z_ => Zdx9 k z_.1 z_.2.1)
  Qz
  (fun ⟨x4_3, x5_3, _⟩ => Qr)) Qk))
  (fun _ => Qs [(7, .int .i64), (8, .int .i64)] [0, 6] (fun z_ => Zdx7 m k h z_.1 z_.2.1)
  Qz
  (fun ⟨b, e, _⟩ => Qs [] [0, 6, 7] (fun z_ => Zdx4 m k h b)
  (Qs [(24, .bool)] [0, 6, 7, 8] (fun z_ => Zdx6 m k h b e z_.1)
  Qz
  (fun ⟨x24, _⟩ => Qc (x24) (Zdx5 k 0 e) (Zdx4 m k h b) (Qs [(4, .int .i64), (5, .int .i64)] [] (fun z_ => Zdx5 k z_.1 z_.2.1)
  Qz
  (fun ⟨x4_2, x5_2, _⟩ => Qr)) Qk))
  (fun _ => Qs [] [7] (fun z_ => Zdx0 k b 0)
  (Qs [(9, .int .i64)] [7] (fun z_ => Zdx3 k b z_.1)
  (RefK.draw [] [0, 1, 3, 7, 0, 0, 32, 127, 255] [0, 1, 2, 3, 4, 5, 6, 7, 8] [0, 1, 2, 3, 4, 5, 6, 7, 8] (by kernel_rfl) (by kernel_rfl))
  (fun ⟨e_1, _⟩ => Qs [(35, .bool)] [7, 9] (fun z_ => Zdx2 k b e_1 z_.1)
  Qz
  (fun ⟨x35, _⟩ => Qc (x35) (Zdx1 k 0 e_1) (Zdx0 k b 0) (Qs [(4, .int .i64), (5, .int .i64)] [] (fun z_ => Zdx1 k z_.1 z_.2.1)
  Qz
  (fun ⟨x4_1, x5_1, _⟩ => Qr)) Qk)))
  (fun _ => Qs [(4, .int .i64), (5, .int .i64)] [] (fun z_ => Zdx0 k z_.1 z_.2.1)
  Qz
  (fun ⟨x4, x5, _⟩ => Qr)))))))) hyp_
abbrev Zdy0 (k : (Sl → K)) (x4 : Sl) : K :=
  k x4
abbrev Zdy1 (k : (Sl → K)) (out_1 : Sl) : K :=
  c_slices_Sort_Sint_int out_1 fun x32 =>
  Zdy0 k out_1
abbrev Zdy2 (x17_1 : Int) (c : ((Sl × Int × Unit) → K)) (out_3 : Sl) : K :=
  c (out_3, (IntKind.wrap .i64 (x17_1 + 1)), ())
abbrev Zdy3 (l : OA) (k_1 : Int) (out_2 : Sl) (x17_1 : Int) (c : ((Sl × Int × Unit) → K)) (m : Int) : K :=
  nn l fun x22 =>
  ldM (x22.add 32) fun x24 =>
  lkE Tryz.prog 201 (.slice none 0 0) (.sc (.slice)) x24 (.agg #[.int .i64 m, .int .i64 k_1]) fun r ob x28 ok =>
  semT Tryz.prog (Builtin.append_ #[27, 27] 27 #[out_2.v, x28.v]) (.one (.sc (.slice))) fun x29 =>
  Zdy2 x17_1 c x29
abbrev Zdy4 (l : OA) (k_1 : Int) (k : (Sl → K)) (out_2 : Sl) (x17_1 : Int) (c : ((Sl × Int × Unit) → K)) (x18 : Bool) : K :=
  brK x18
  (Zdy3 l k_1 out_2 x17_1 c x17_1)
  (Zdy1 k out_2)
abbrev Zdy5 (l : OA) (k_1 : Int) (k : (Sl → K)) (out_2 : Sl) (x17_1 : Int) (c : ((Sl × Int × Unit) → K)) : K :=
  Zdy4 l k_1 k out_2 x17_1 c (decide (x17_1 < 4))
abbrev Zdy6 (l : OA) (k_1 : Int) (k : (Sl → K)) (out : Sl) (x17 : Int) : K :=
  lp (fun (z_ : (Sl × Int × Unit)) c_ => Zdy5 l k_1 k z_.1 z_.2.1 c_) (out, x17, ())
abbrev Zdy7 (l : OA) (k_1 : Int) (k : (Sl → K)) (out : Sl) : K :=
  Zdy6 l k_1 k out 0
abbrev Zdy8 (l : OA) (k_1 : Int) (k : (Sl → K)) : K :=
  nn l fun x12 =>
  ixA (x12.add 0) 32 k_1 1 fun x14 =>
  ldS x14 fun x15 =>
  c_slices_Clone_Sint_int x15 fun x16 =>
  Zdy7 l k_1 k x16
abbrev Zdy9 (k : (Sl → K)) (x4_1 : Sl) : K :=
  k x4_1
abbrev Zdy10 (l : OA) (k_1 : Int) (k : (Sl → K)) (x9 : Bool) : K :=
  brK x9
  (Zdy9 k ⟨none, 0, 0⟩)
  (Zdy8 l k_1 k)
abbrev Zdy11 (l : OA) (k_1 : Int) (k : (Sl → K)) : K :=
  c_class_Right k_1 fun x8 =>
  Zdy10 l k_1 k (!x8)
abbrev free_Lists_List (l : OA) (k_1 : Int) : M Sl := fun k =>
  Zdy11 l k_1 k
theorem free_Lists_List_ok (l : OA) (k_1 : Int) (k : Sl → K) (w : World) (hyp_ : free_Lists_List l k_1 k w) : c_free_Lists_List l k_1 k w :=
  cl_of (P := Tryz.prog) Tryz.func157 rfl (by kernel_rfl)
  (Qs [] [0, 1] (fun z_ => Zdy11 l k_1 k)
  Qz
  (fun _ => Qs [] [0, 1] (fun z_ => Zdy8 l k_1 k)
  (Qs [(9, .bool)] [0, 1] (fun z_ => Zdy10 l k_1 k z_.1)
  Qz
  (fun ⟨x9, _⟩ => Qc (x9) (Zdy9 k ⟨none, 0, 0⟩) (Zdy8 l k_1 k) (Qs [(4, .slice)] [] (fun z_ => Zdy9 k z_.1)
  Qz
  (fun ⟨x4_1, _⟩ => Qr)) Qk))
  (fun _ => Qs [(5, .slice)] [0, 1] (fun z_ => Zdy7 l k_1 k z_.1)
  Qz
  (fun ⟨out, _⟩ => Qs [(5, .slice)] [] (fun z_ => Zdy1 k z_.1)
  (Qs [(17, .int .i64)] [0, 1, 5] (fun z_ => Zdy6 l k_1 k out z_.1)
  Qz
  (fun ⟨x17, _⟩ => Qb (Ql [(5, .slice), (17, .int .i64)] [0, 1] (fun (z_ : (Sl × Int × Unit)) c_ => Zdy5 l k_1 k z_.1 z_.2.1 c_) (out, x17, ())
  (fun ⟨out_2, x17_1, _⟩ c => Qs [(18, .bool)] [0, 1, 5, 17] (fun z_ => Zdy4 l k_1 k out_2 x17_1 c z_.1)
  Qz
  (fun ⟨x18, _⟩ => Qs [] [0, 1, 5, 17] (fun z_ => Zdy3 l k_1 out_2 x17_1 c x17_1)
  (Qc (x18) (Zdy3 l k_1 out_2 x17_1 c x17_1) (Zdy1 k out_2) Qk Qx)
  (fun _ => Qs [(5, .slice)] [0, 1, 17] (fun z_ => Zdy2 x17_1 c z_.1)
  (Qb (Qs [(6, .int .i64)] [0, 1, 5, 17] (fun z_ => Zdy3 l k_1 out_2 x17_1 c z_.1)
  Qz
  (fun ⟨m, _⟩ => Qz)))
  (fun ⟨out_3, _⟩ => Qz)))))))
  (fun ⟨out_1, _⟩ => Qs [] [5] (fun z_ => Zdy0 k out_1)
  Qz
  (fun _ => Qs [(4, .slice)] [] (fun z_ => Zdy0 k z_.1)
  Qz
  (fun ⟨x4, _⟩ => Qr))))))) hyp_
abbrev Zdz0 (k : (Sl → K)) (x2 : Sl) : K :=
  k x2
abbrev Zdz1 (k : (Sl → K)) (out_1 : Sl) : K :=
  c_slices_SortFunc_Sblocks_Span_blocks_Span out_1 ⟨.func 208, #[], #[]⟩ fun x23 =>
  Zdz0 k out_1
abbrev Zdz2 (out_2 : Sl) (c : ((Sl × Unit) → K)) (start : Int) (n : Int) : K :=
  alK (.cells #[.int .i64 start, .int .i64 n] 152) fun b =>
  semT Tryz.prog (Builtin.append_ #[150, 150] 150 #[out_2.v, .slice (some ⟨b, 0, none⟩) 1 1]) (.one (.sc (.slice))) fun x21 =>
  c (x21, ())
abbrev Zdz3 (x10 : OA) (out_2 : Sl) (c : ((Sl × Unit) → K)) : K :=
  semT Tryz.prog (Instr.entry (.pointer x10)) (.tup [.sc (.any), .sc (.any)]) fun e =>
  decSh (.int .i64) e.1 fun x14 =>
  decSh (.int .i64) e.2 fun x15 =>
  Zdz2 out_2 c x14 x15
abbrev Zdz4 (k : (Sl → K)) (x10 : OA) (out_2 : Sl) (c : ((Sl × Unit) → K)) (x12 : Bool) : K :=
  brK x12
  (Zdz3 x10 out_2 c)
  (Zdz1 k out_2)
abbrev Zdz5 (k : (Sl → K)) (x10 : OA) (out_2 : Sl) (c : ((Sl × Unit) → K)) : K :=
  nextM Tryz.prog (Instr.next (.pointer x10) false 0) fun go rest =>
  Zdz4 k x10 out_2 c go
abbrev Zdz6 (k : (Sl → K)) (out : Sl) (x10 : OA) : K :=
  lp (fun (z_ : (Sl × Unit)) c_ => Zdz5 k x10 z_.1 c_) (out, ())
abbrev Zdz7 (x : OA) (k : (Sl → K)) (out : Sl) : K :=
  nn x fun x7 =>
  ldM (x7.add 0) fun x9 =>
  semT Tryz.prog (Instr.range 240 (.map x9)) (.one (.sc (.ptr))) fun it =>
  Zdz6 k out it
abbrev runs_Index_List (x : OA) : M Sl := fun k =>
  Zdz7 x k ⟨none, 0, 0⟩
theorem runs_Index_List_ok (x : OA) (k : Sl → K) (w : World) (hyp_ : runs_Index_List x k w) : c_runs_Index_List x k w :=
  cl_of (P := Tryz.prog) Tryz.func161 rfl (by kernel_rfl)
  (Qs [] [0] (fun z_ => Zdz7 x k ⟨none, 0, 0⟩)
  Qz
  (fun _ => Qs [(3, .slice)] [0] (fun z_ => Zdz7 x k z_.1)
  Qz
  (fun ⟨out, _⟩ => Qs [(3, .slice)] [] (fun z_ => Zdz1 k z_.1)
  (Qs [(10, .ptr)] [3] (fun z_ => Zdz6 k out z_.1)
  Qz
  (fun ⟨x10, _⟩ => Qb (Ql [(3, .slice)] [10] (fun (z_ : (Sl × Unit)) c_ => Zdz5 k x10 z_.1 c_) (out, ())
  (fun ⟨out_2, _⟩ c => Qs [(12, .bool)] [3, 10] (fun z_ => Zdz4 k x10 out_2 c z_.1)
  Qz
  (fun ⟨x12, _⟩ => Qs [] [3, 10] (fun z_ => Zdz3 x10 out_2 c)
  (Qc (x12) (Zdz3 x10 out_2 c) (Zdz1 k out_2) Qk Qx)
  (fun _ => Qb (Qs [(4, .int .i64), (5, .int .i64)] [3, 10] (fun z_ => Zdz2 out_2 c z_.1 z_.2.1)
  Qz
  (fun ⟨start, n, _⟩ => Qz))))))))
  (fun ⟨out_1, _⟩ => Qs [] [3] (fun z_ => Zdz0 k out_1)
  Qz
  (fun _ => Qs [(2, .slice)] [] (fun z_ => Zdz0 k z_.1)
  Qz
  (fun ⟨x2, _⟩ => Qr)))))) hyp_
abbrev Zea0 (k : (Int → K)) (x6 : Int) : K :=
  k x6
abbrev Zea1 (k : (Int → K)) (n_1 : Int) : K :=
  Zea0 k n_1
abbrev Zea2 (s : OA) (at_2 : Int) (c : ((Int × Int × Bool × Unit) → K)) (n_3 : Int) : K :=
  c_bitmap_Set_Next s (IntKind.wrap .i64 (at_2 + 1)) fun x26 =>
  c (n_3, x26.1, x26.2, ())
abbrev Zea3 (s : OA) (k : (Int → K)) (n_2 : Int) (at_2 : Int) (c : ((Int × Int × Bool × Unit) → K)) (x21 : Bool) : K :=
  brK x21
  (Zea2 s at_2 c (IntKind.wrap .i64 (n_2 + 1)))
  (Zea1 k n_2)
abbrev Zea4 (s : OA) (to : Int) (k : (Int → K)) (n_2 : Int) (at_2 : Int) (ok_1 : Bool) (c : ((Int × Int × Bool × Unit) → K)) : K :=
  brK ok_1
  (Zea3 s k n_2 at_2 c (decide (at_2 < to)))
  (Zea3 s k n_2 at_2 c false)
abbrev Zea5 (s : OA) (to : Int) (k : (Int → K)) (n : Int) (at_1 : Int) (ok : Bool) : K :=
  lp (fun (z_ : (Int × Int × Bool × Unit)) c_ => Zea4 s to k z_.1 z_.2.1 z_.2.2.1 c_) (n, at_1, ok, ())
abbrev Zea6 (s : OA) (from_1 : Int) (to : Int) (k : (Int → K)) (n : Int) : K :=
  c_bitmap_Set_Next s from_1 fun x13 =>
  Zea5 s to k n x13.1 x13.2
abbrev bitmap_Set_Between (s : OA) (from_1 : Int) (to : Int) : M Int := fun k =>
  Zea6 s from_1 to k 0
theorem bitmap_Set_Between_ok (s : OA) (from_1 : Int) (to : Int) (k : Int → K) (w : World) (hyp_ : bitmap_Set_Between s from_1 to k w) : c_bitmap_Set_Between s from_1 to k w :=
  cl_of (P := Tryz.prog) Tryz.func162 rfl (by kernel_rfl)
  (Qs [] [0, 1, 2] (fun z_ => Zea6 s from_1 to k 0)
  Qz
  (fun _ => Qs [(7, .int .i64)] [0, 1, 2] (fun z_ => Zea6 s from_1 to k z_.1)
  Qz
  (fun ⟨n, _⟩ => Qs [(7, .int .i64)] [] (fun z_ => Zea1 k z_.1)
  (Qs [(8, .int .i64), (9, .bool)] [0, 2, 7] (fun z_ => Zea5 s to k n z_.1 z_.2.1)
  Qz
  (fun ⟨at_1, ok, _⟩ => Qb (Ql [(7, .int .i64), (8, .int .i64), (9, .bool)] [0, 2] (fun (z_ : (Int × Int × Bool × Unit)) c_ => Zea4 s to k z_.1 z_.2.1 z_.2.2.1 c_) (n, at_1, ok, ())
  (fun ⟨n_2, at_2, ok_1, _⟩ c => Qs [] [0, 2, 7, 8] (fun z_ => Zea2 s at_2 c (IntKind.wrap .i64 (n_2 + 1)))
  (Qs [(21, .bool)] [0, 2, 7, 8] (fun z_ => Zea3 s k n_2 at_2 c z_.1)
  (Qp [1])
  (fun ⟨x21, _⟩ => Qc (x21) (Zea2 s at_2 c (IntKind.wrap .i64 (n_2 + 1))) (Zea1 k n_2) Qk Qx))
  (fun _ => Qs [(7, .int .i64)] [0, 2, 8] (fun z_ => Zea2 s at_2 c z_.1)
  (Qb Qz)
  (fun ⟨n_3, _⟩ => Qz))))))
  (fun ⟨n_1, _⟩ => Qs [(6, .int .i64)] [] (fun z_ => Zea0 k z_.1)
  Qz
  (fun ⟨x6, _⟩ => Qr))))) hyp_
abbrev Zeb0 (k : (Int → K)) (x8 : Int) : K :=
  k x8
abbrev Zeb1 (x0 : OA) (x1 : Int) (k : (Int → K)) (x9 : Int) : K :=
  c_free_Lists_Len x0 x1 fun x63 =>
  Zeb0 k (IntKind.wrap .i64 (x9 - x63))
abbrev Zeb2 (x0 : OA) (x10 : Fv) (x35_1 : Int) (c : ((Int × Unit) → K)) (x12 : Addr) (x13 : Sl) : K :=
  tick fun _ =>
  nn x0 fun x52 =>
  ldM (x52.add 32) fun x54 =>
  ldI .i64 (x12.add 0) fun x55_0 =>
  ldI .i64 (x12.add 1) fun x55_1 =>
  c_slices_DeleteFunc_Sint_int x13 x10 fun x58 =>
  chk [.cell (x12.add 0) (.int .i64 x55_0), .cell (x12.add 1) (.int .i64 x55_1), .cell (x52.add 32) (.map x54)] fun _ =>
  semU Tryz.prog (Instr.mapUpdate 197 (.map x54) (.agg #[.int .i64 x55_0, .int .i64 x55_1]) x58.v) <|
  c ((IntKind.wrap .i64 (x35_1 + 1)), ())
abbrev Zeb3 (x0 : OA) (x10 : Fv) (x35_1 : Int) (c : ((Int × Unit) → K)) (x12 : Addr) (x13 : Sl) (x50 : Bool) : K :=
  brK x50
  (Zeb2 x0 x10 x35_1 c x12 x13)
  (c ((IntKind.wrap .i64 (x35_1 + 1)), ()))
abbrev Zeb4 (x0 : OA) (x10 : Fv) (x35_1 : Int) (c : ((Int × Unit) → K)) (x12 : Addr) (x13 : Sl) (x14 : Bool) : K :=
  Zeb3 x0 x10 x35_1 c x12 x13 x14
abbrev Zeb5 (x0 : OA) (x10 : Fv) (x35_1 : Int) (c : ((Int × Unit) → K)) (x12 : Addr) : K :=
  tick fun _ =>
  nn x0 fun x43 =>
  ldM (x43.add 32) fun x45 =>
  ldI .i64 (x12.add 0) fun x46_0 =>
  ldI .i64 (x12.add 1) fun x46_1 =>
  lkE Tryz.prog 201 (.slice none 0 0) (.sc (.slice)) x45 (.agg #[.int .i64 x46_0, .int .i64 x46_1]) fun r ob x47 ok =>
  Zeb4 x0 x10 x35_1 c x12 x47 ok
abbrev Zeb6 (x0 : OA) (x1 : Int) (x10 : Fv) (x35_1 : Int) (c : ((Int × Unit) → K)) (x11 : Int) : K :=
  alK (.cells #[.int .i64 0, .int .i64 0] 201) fun b =>
  stK (Addr.add ⟨b, 0, none⟩ 0) (.int .i64 x11) <|
  stK (Addr.add ⟨b, 0, none⟩ 1) (.int .i64 x1) <|
  Zeb5 x0 x10 x35_1 c ⟨b, 0, none⟩
abbrev Zeb7 (x0 : OA) (x1 : Int) (k : (Int → K)) (x9 : Int) (x10 : Fv) (x35_1 : Int) (c : ((Int × Unit) → K)) (x36 : Bool) : K :=
  brK x36
  (Zeb6 x0 x1 x10 x35_1 c x35_1)
  (Zeb1 x0 x1 k x9)
abbrev Zeb8 (x0 : OA) (x1 : Int) (k : (Int → K)) (x9 : Int) (x10 : Fv) (x35_1 : Int) (c : ((Int × Unit) → K)) : K :=
  Zeb7 x0 x1 k x9 x10 x35_1 c (decide (x35_1 < 4))
abbrev Zeb9 (x0 : OA) (x1 : Int) (k : (Int → K)) (x9 : Int) (x10 : Fv) (x35 : Int) : K :=
  lp (fun (z_ : (Int × Unit)) c_ => Zeb8 x0 x1 k x9 x10 z_.1 c_) (x35, ())
abbrev Zeb10 (x0 : OA) (x1 : Int) (k : (Int → K)) (x9 : Int) (x10 : Fv) : K :=
  tick fun _ =>
  nn x0 fun x26 =>
  ixA (x26.add 0) 32 x1 1 fun x28 =>
  ldS x28 fun x29 =>
  nn x0 fun x32 =>
  c_slices_DeleteFunc_Sint_int x29 x10 fun x31 =>
  ixA (x32.add 0) 32 x1 1 fun x34 =>
  stK (x34.add 0) (x31.v) <|
  Zeb9 x0 x1 k x9 x10 0
abbrev Zeb11 (x0 : OA) (x1 : Int) (k : (Int → K)) (x6 : Addr) (x7 : Addr) (x9 : Int) : K :=
  Zeb10 x0 x1 k x9 ⟨.func 210, #[], #[.pointer (some x6), .pointer (some x7)]⟩
abbrev Zeb12 (x0 : OA) (x1 : Int) (k : (Int → K)) (x6 : Addr) (x7 : Addr) : K :=
  c_free_Lists_Len x0 x1 fun x20 =>
  Zeb11 x0 x1 k x6 x7 x20
abbrev Zeb13 (k : (Int → K)) (x8_1 : Int) : K :=
  k x8_1
abbrev Zeb14 (x0 : OA) (x1 : Int) (k : (Int → K)) (x6 : Addr) (x7 : Addr) (x17 : Bool) : K :=
  brK x17
  (Zeb13 k 0)
  (Zeb12 x0 x1 k x6 x7)
abbrev Zeb15 (x0 : OA) (x1 : Int) (k : (Int → K)) (x6 : Addr) (x7 : Addr) : K :=
  c_class_Right x1 fun x16 =>
  Zeb14 x0 x1 k x6 x7 (!x16)
abbrev free_Lists_Remove (x0 : OA) (x1 : Int) (x2 : Int) (x3 : Int) : M Int := fun k =>
  alK (.cells #[.int .i64 x2] 3) fun b_1 =>
  alK (.cells #[.int .i64 x3] 3) fun b_2 =>
  Zeb15 x0 x1 k ⟨b_1, 0, none⟩ ⟨b_2, 0, none⟩
theorem free_Lists_Remove_ok (x0 : OA) (x1 : Int) (x2 : Int) (x3 : Int) (k : Int → K) (w : World) (hyp_ : free_Lists_Remove x0 x1 x2 x3 k w) : c_free_Lists_Remove x0 x1 x2 x3 k w :=
  cl_of (P := Tryz.prog) Tryz.func163 rfl (by kernel_rfl)
  (Qs [(6, .addr), (7, .addr)] [0, 1] (fun z_ => Zeb15 x0 x1 k z_.1 z_.2.1)
  Qz
  (fun ⟨x6, x7, _⟩ => Qs [] [0, 1, 6, 7] (fun z_ => Zeb12 x0 x1 k x6 x7)
  (Qs [(17, .bool)] [0, 1, 6, 7] (fun z_ => Zeb14 x0 x1 k x6 x7 z_.1)
  Qz
  (fun ⟨x17, _⟩ => Qc (x17) (Zeb13 k 0) (Zeb12 x0 x1 k x6 x7) (Qs [(8, .int .i64)] [] (fun z_ => Zeb13 k z_.1)
  Qz
  (fun ⟨x8_1, _⟩ => Qr)) Qk))
  (fun _ => Qs [(9, .int .i64)] [0, 1, 6, 7] (fun z_ => Zeb11 x0 x1 k x6 x7 z_.1)
  Qz
  (fun ⟨x9, _⟩ => Qs [(10, .func)] [0, 1, 9] (fun z_ => Zeb10 x0 x1 k x9 z_.1)
  Qz
  (fun ⟨x10, _⟩ => Qs [] [0, 1, 9, 10] (fun z_ => Zeb9 x0 x1 k x9 x10 0)
  (RefK.draw [] [0, 0, 0, 0, 4, 20, 60, 124, 0, 508, 1, 1025, 4095, 8191] [0, 1, 2, 3, 4, 5, 6, 7, 8, 10, 11, 9, 12, 13] [0, 1, 2, 3, 4, 5, 6, 7, 8, 9, 10, 11, 12, 13] (by kernel_rfl) (by kernel_rfl))
  (fun _ => Qs [] [0, 1, 9] (fun z_ => Zeb1 x0 x1 k x9)
  (Qs [(35, .int .i64)] [0, 1, 9, 10] (fun z_ => Zeb9 x0 x1 k x9 x10 z_.1)
  Qz
  (fun ⟨x35, _⟩ => Qb (Ql [(35, .int .i64)] [0, 1, 9, 10] (fun (z_ : (Int × Unit)) c_ => Zeb8 x0 x1 k x9 x10 z_.1 c_) (x35, ())
  (fun ⟨x35_1, _⟩ c => Qs [(36, .bool)] [0, 1, 9, 10, 35] (fun z_ => Zeb7 x0 x1 k x9 x10 x35_1 c z_.1)
  Qz
  (fun ⟨x36, _⟩ => Qs [] [0, 1, 9, 10, 35] (fun z_ => Zeb6 x0 x1 x10 x35_1 c x35_1)
  (Qc (x36) (Zeb6 x0 x1 x10 x35_1 c x35_1) (Zeb1 x0 x1 k x9) Qk Qx)
  (fun _ => Qs [] [0, 1, 9, 10, 35] (fun z_ => c ((IntKind.wrap .i64 (x35_1 + 1)), ()))
  (Qb (Qs [(11, .int .i64)] [0, 1, 9, 10, 35] (fun z_ => Zeb6 x0 x1 x10 x35_1 c z_.1)
  Qz
  (fun ⟨x11, _⟩ => Qs [(12, .addr)] [0, 1, 9, 10, 35] (fun z_ => Zeb5 x0 x10 x35_1 c z_.1)
  Qz
  (fun ⟨x12, _⟩ => Qs [(13, .slice), (14, .bool)] [0, 1, 9, 10, 12, 35] (fun z_ => Zeb4 x0 x10 x35_1 c x12 z_.1 z_.2.1)
  (RefK.draw [] [0, 1, 3, 7, 0, 31, 63, 127, 127, 255, 1023] [0, 1, 2, 3, 4, 5, 6, 7, 8, 9, 10] [0, 1, 2, 3, 4, 5, 6, 7, 9, 8, 10] (by kernel_rfl) (by kernel_rfl))
  (fun ⟨x13, x14, _⟩ => Qs [(50, .bool)] [0, 1, 9, 10, 12, 13, 35] (fun z_ => Zeb3 x0 x10 x35_1 c x12 x13 z_.1)
  Qz
  (fun ⟨x50, _⟩ => Qc (x50) (Zeb2 x0 x10 x35_1 c x12 x13) (c ((IntKind.wrap .i64 (x35_1 + 1)), ())) (RefK.draw [] [0, 1, 3, 7, 0, 0, 0, 96, 255] [0, 1, 2, 3, 4, 5, 6, 7, 8] [0, 1, 2, 3, 4, 5, 6, 7, 8] (by kernel_rfl) (by kernel_rfl)) Qk))))))
  (fun _ => Qz)))))))
  (fun _ => Qs [(8, .int .i64)] [] (fun z_ => Zeb0 k z_.1)
  Qz
  (fun ⟨x8, _⟩ => Qr)))))))) hyp_
abbrev Zec0 (k : ((Int × Bool) → K)) (x2 : Int) (x3 : Bool) : K :=
  k (x2, x3)
abbrev Zec1 (c : ((Int × Unit) → K)) (b_2 : Int) : K :=
  c ((IntKind.wrap .i64 (b_2 + 1)), ())
abbrev Zec2 (k : ((Int × Bool) → K)) (x2_1 : Int) (x3_1 : Bool) : K :=
  k (x2_1, x3_1)
abbrev Zec3 (k : ((Int × Bool) → K)) (b_1 : Int) (c : ((Int × Unit) → K)) (n : Int) (x27 : Bool) : K :=
  brK x27
  (Zec2 k b_1 false)
  (Zec1 c (IntKind.wrap .i64 (b_1 + (IntKind.wrap .i64 (n - 1)))))
abbrev Zec4 (k : ((Int × Bool) → K)) (b_1 : Int) (c : ((Int × Unit) → K)) (n : Int) (ok : Bool) : K :=
  Zec3 k b_1 c n (!ok)
abbrev Zec5 (k : ((Int × Bool) → K)) (x2_2 : Int) (x3_2 : Bool) : K :=
  k (x2_2, x3_2)
abbrev Zec6 (k : ((Int × Bool) → K)) (b_1 : Int) (c : ((Int × Unit) → K)) (x33 : Bool) : K :=
  brK x33
  (Zec5 k b_1 false)
  (Zec1 c b_1)
abbrev Zec7 (list : Sl) (k : ((Int × Bool) → K)) (b_1 : Int) (c : ((Int × Unit) → K)) : K :=
  c_bhead_Whole list b_1 fun x23 =>
  Zec4 k b_1 c x23.1 x23.2
abbrev Zec8 (list : Sl) (k : ((Int × Bool) → K)) (b_1 : Int) (c : ((Int × Unit) → K)) (x17 : Int) (x18 : Bool) : K :=
  brK x18
  (Zec7 list k b_1 c)
  (Zec6 k b_1 c (x17 == 3))
abbrev Zec9 (list : Sl) (k : ((Int × Bool) → K)) (b_1 : Int) (c : ((Int × Unit) → K)) (x17 : Int) : K :=
  Zec8 list k b_1 c x17 (x17 == 2)
abbrev Zec10 (list : Sl) (k : ((Int × Bool) → K)) (b_1 : Int) (c : ((Int × Unit) → K)) : K :=
  ixS list.p list.n b_1 3 fun x15 =>
  ldI .i64 (x15.add 0) fun x17_1 =>
  Zec9 list k b_1 c x17_1
abbrev Zec11 (list : Sl) (k : ((Int × Bool) → K)) (b_1 : Int) (c : ((Int × Unit) → K)) (x10 : Bool) : K :=
  brK x10
  (Zec10 list k b_1 c)
  (Zec0 k 0 true)
abbrev Zec12 (list : Sl) (k : ((Int × Bool) → K)) (b_1 : Int) (c : ((Int × Unit) → K)) : K :=
  Zec11 list k b_1 c (decide (b_1 < ((list.n : Nat) : Int)))
abbrev Zec13 (list : Sl) (k : ((Int × Bool) → K)) (b : Int) : K :=
  lp (fun (z_ : (Int × Unit)) c_ => Zec12 list k z_.1 c_) (b, ())
abbrev bman_Sound (list : Sl) : M (Int × Bool) := fun k =>
  Zec13 list k 1
theorem bman_Sound_ok (list : Sl) (k : (Int × Bool) → K) (w : World) (hyp_ : bman_Sound list k w) : c_bman_Sound list k w :=
  cl_of (P := Tryz.prog) Tryz.func167 rfl (by kernel_rfl)
  (Qs [] [0] (fun z_ => Zec13 list k 1)
  Qz
  (fun _ => Qs [] [] (fun z_ => Zec0 k 0 true)
  (Qs [(4, .int .i64)] [0] (fun z_ => Zec13 list k z_.1)
  Qz
  (fun ⟨b, _⟩ => Qb (Ql [(4, .int .i64)] [0] (fun (z_ : (Int × Unit)) c_ => Zec12 list k z_.1 c_) (b, ())
  (fun ⟨b_1, _⟩ c => Qs [] [0, 4] (fun z_ => Zec10 list k b_1 c)
  (Qs [(10, .bool)] [0, 4] (fun z_ => Zec11 list k b_1 c z_.1)
  Qz
  (fun ⟨x10, _⟩ => Qc (x10) (Zec10 list k b_1 c) (Zec0 k 0 true) Qk Qx))
  (fun _ => Qs [(4, .int .i64)] [0] (fun z_ => Zec1 c z_.1)
  (Qb (Qs [(17, .int .i64)] [0, 4] (fun z_ => Zec9 list k b_1 c z_.1)
  Qz
  (fun ⟨x17, _⟩ => Qb (Qs [(18, .bool)] [0, 4, 17] (fun z_ => Zec8 list k b_1 c x17 z_.1)
  Qz
  (fun ⟨x18, _⟩ => Qc (x18) (Zec7 list k b_1 c) (Zec6 k b_1 c (x17 == 3)) (Qs [(5, .int .i64), (6, .bool)] [0, 4] (fun z_ => Zec4 k b_1 c z_.1 z_.2.1)
  Qz
  (fun ⟨n, ok, _⟩ => Qs [] [0, 4, 5] (fun z_ => Zec1 c (IntKind.wrap .i64 (b_1 + (IntKind.wrap .i64 (n - 1)))))
  (Qs [(27, .bool)] [0, 4, 5] (fun z_ => Zec3 k b_1 c n z_.1)
  Qz
  (fun ⟨x27, _⟩ => Qc (x27) (Zec2 k b_1 false) (Zec1 c (IntKind.wrap .i64 (b_1 + (IntKind.wrap .i64 (n - 1))))) (Qs [(2, .int .i64), (3, .bool)] [] (fun z_ => Zec2 k z_.1 z_.2.1)
  Qz
  (fun ⟨x2_1, x3_1, _⟩ => Qr)) Qk))
  (fun _ => Qz))) (Qs [(33, .bool)] [0, 4] (fun z_ => Zec6 k b_1 c z_.1)
  Qz
  (fun ⟨x33, _⟩ => Qc (x33) (Zec5 k b_1 false) (Zec1 c b_1) (Qs [(2, .int .i64), (3, .bool)] [] (fun z_ => Zec5 k z_.1 z_.2.1)
  Qz
  (fun ⟨x2_2, x3_2, _⟩ => Qr)) Qk)))))))
  (fun ⟨b_2, _⟩ => Qz))))))
  (fun _ => Qs [(2, .int .i64), (3, .bool)] [] (fun z_ => Zec0 k z_.1 z_.2.1)
  Qz
  (fun ⟨x2, x3, _⟩ => Qr)))) hyp_
abbrev Zed0 (k : ((OA × Int) → K)) (x4 : Addr) (x5 : Int) : K :=
  k ((some x4), x5)
abbrev Zed1 (d : OA) (k : ((OA × Int) → K)) (g_1 : Addr) (list : Sl) : K :=
  ldI .i64 (g_1.add 0) fun x20_0 =>
  alK (.cells #[.pointer d, .int .i64 x20_0, list.v] 125) fun b =>
  Zed0 k ⟨b, 0, none⟩ 0
abbrev Zed2 (k : ((OA × Int) → K)) (x4_1 : OA) (x5_1 : Int) : K :=
  k (x4_1, x5_1)
abbrev Zed3 (d : OA) (k : ((OA × Int) → K)) (g_1 : Addr) (list : Sl) (e : Int) (x17 : Bool) : K :=
  brK x17
  (Zed2 k none e)
  (Zed1 d k g_1 list)
abbrev Zed4 (d : OA) (k : ((OA × Int) → K)) (g_1 : Addr) (list : Sl) (e : Int) : K :=
  Zed3 d k g_1 list e (e != 0)
abbrev Zed5 (d : OA) (k : ((OA × Int) → K)) (g_1 : Addr) : K :=
  ldI .i64 (g_1.add 0) fun x11_0 =>
  c_blocks_Read d x11_0 fun x12 =>
  Zed4 d k g_1 x12.1 x12.2.2
abbrev blocks_Open (d : OA) (g : Int) : M (OA × Int) := fun k =>
  alK (.cells #[.int .i64 g] 43) fun b_1 =>
  Zed5 d k ⟨b_1, 0, none⟩
theorem blocks_Open_ok (d : OA) (g : Int) (k : (OA × Int) → K) (w : World) (hyp_ : blocks_Open d g k w) : c_blocks_Open d g k w :=
  cl_of (P := Tryz.prog) Tryz.func179 rfl (by kernel_rfl)
  (Qs [(3, .addr)] [0] (fun z_ => Zed5 d k z_.1)
  Qz
  (fun ⟨g_1, _⟩ => Qs [(6, .slice), (8, .int .i64)] [0, 3] (fun z_ => Zed4 d k g_1 z_.1 z_.2.1)
  Qz
  (fun ⟨list, e, _⟩ => Qs [] [0, 3, 6] (fun z_ => Zed1 d k g_1 list)
  (Qs [(17, .bool)] [0, 3, 6, 8] (fun z_ => Zed3 d k g_1 list e z_.1)
  Qz
  (fun ⟨x17, _⟩ => Qc (x17) (Zed2 k none e) (Zed1 d k g_1 list) (Qs [(4, .ptr), (5, .int .i64)] [] (fun z_ => Zed2 k z_.1 z_.2.1)
  Qz
  (fun ⟨x4_1, x5_1, _⟩ => Qr)) Qk))
  (fun _ => Qs [(4, .addr), (5, .int .i64)] [] (fun z_ => Zed0 k z_.1 z_.2.1)
  Qz
  (fun ⟨x4, x5, _⟩ => Qr))))) hyp_
abbrev Zee0 (k : ((OA × Int) → K)) (x4 : OA) (x5 : Int) : K :=
  k (x4, x5)
abbrev Zee1 (k : ((OA × Int) → K)) (x4_1 : OA) (x5_1 : Int) : K :=
  k (x4_1, x5_1)
abbrev Zee2 (k : ((OA × Int) → K)) (x14_1 : Int) (c : ((Int × Unit) → K)) (e : Int) (x25 : Bool) : K :=
  brK x25
  (Zee1 k none e)
  (c ((IntKind.wrap .i64 (x14_1 + 1)), ()))
abbrev Zee3 (k : ((OA × Int) → K)) (x14_1 : Int) (c : ((Int × Unit) → K)) (e : Int) : K :=
  Zee2 k x14_1 c e (e != 0)
abbrev Zee4 (k : ((OA × Int) → K)) (x : OA) (x14_1 : Int) (c : ((Int × Unit) → K)) (s : Addr) : K :=
  ldI .i64 (s.add 0) fun x20 =>
  ldI .i64 (s.add 1) fun x22 =>
  c_runs_Index_Give x x20 x22 fun x23 =>
  Zee3 k x14_1 c x23
abbrev Zee5 (k : ((OA × Int) → K)) (x : OA) (x12 : Sl) (x14_1 : Int) (c : ((Int × Unit) → K)) : K :=
  ixS x12.p x12.n x14_1 2 fun x16 =>
  ldI .i64 (x16.add 0) fun x17_0 =>
  ldI .i64 (x16.add 1) fun x17_1 =>
  alK (.cells #[.int .i64 0, .int .i64 0] 152) fun b =>
  stK (Addr.add ⟨b, 0, none⟩ 0) (.int .i64 x17_0) <|
  stK (Addr.add ⟨b, 0, none⟩ 1) (.int .i64 x17_1) <|
  Zee4 k x x14_1 c ⟨b, 0, none⟩
abbrev Zee6 (k : ((OA × Int) → K)) (x : OA) (x12 : Sl) (x14_1 : Int) (c : ((Int × Unit) → K)) (x15 : Bool) : K :=
  brK x15
  (Zee5 k x x12 x14_1 c)
  (Zee0 k x 0)
abbrev Zee7 (k : ((OA × Int) → K)) (x : OA) (x12 : Sl) (x13 : Int) (x14_1 : Int) (c : ((Int × Unit) → K)) : K :=
  Zee6 k x x12 x14_1 c (decide (x14_1 < x13))
abbrev Zee8 (k : ((OA × Int) → K)) (x : OA) (x12 : Sl) (x13 : Int) (x14 : Int) : K :=
  lp (fun (z_ : (Int × Unit)) c_ => Zee7 k x x12 x13 z_.1 c_) (x14, ())
abbrev Zee9 (list : Sl) (k : ((OA × Int) → K)) (x : OA) : K :=
  Zee8 k x list ((list.n : Nat) : Int) 0
abbrev Zee10 (limit : Int) (list : Sl) (k : ((OA × Int) → K)) : K :=
  c_runs_New limit fun x11 =>
  Zee9 list k x11
abbrev runs_Fill (limit : Int) (list : Sl) : M (OA × Int) := fun k =>
  Zee10 limit list k
theorem runs_Fill_ok (limit : Int) (list : Sl) (k : (OA × Int) → K) (w : World) (hyp_ : runs_Fill limit list k w) : c_runs_Fill limit list k w :=
  cl_of (P := Tryz.prog) Tryz.func180 rfl (by kernel_rfl)
  (Qs [] [0, 1] (fun z_ => Zee10 limit list k)
  Qz
  (fun _ => Qs [(6, .ptr)] [1] (fun z_ => Zee9 list k z_.1)
  Qz
  (fun ⟨x, _⟩ => Qs [] [6] (fun z_ => Zee0 k x 0)
  (Qs [(12, .slice), (13, .int .i64), (14, .int .i64)] [6] (fun z_ => Zee8 k x z_.1 z_.2.1 z_.2.2.1)
  Qz
  (fun ⟨x12, x13, x14, _⟩ => Qb (Ql [(14, .int .i64)] [6, 12, 13] (fun (z_ : (Int × Unit)) c_ => Zee7 k x x12 x13 z_.1 c_) (x14, ())
  (fun ⟨x14_1, _⟩ c => Qs [(15, .bool)] [6, 12, 13, 14] (fun z_ => Zee6 k x x12 x14_1 c z_.1)
  Qz
  (fun ⟨x15, _⟩ => Qs [] [6, 12, 13, 14] (fun z_ => Zee5 k x x12 x14_1 c)
  (Qc (x15) (Zee5 k x x12 x14_1 c) (Zee0 k x 0) Qk Qx)
  (fun _ => Qs [] [6, 12, 13, 14] (fun z_ => c ((IntKind.wrap .i64 (x14_1 + 1)), ()))
  (Qb (Qs [(8, .addr)] [6, 12, 13, 14] (fun z_ => Zee4 k x x14_1 c z_.1)
  Qz
  (fun ⟨s, _⟩ => Qs [(9, .int .i64)] [6, 12, 13, 14] (fun z_ => Zee3 k x14_1 c z_.1)
  Qz
  (fun ⟨e, _⟩ => Qs [(25, .bool)] [6, 9, 12, 13, 14] (fun z_ => Zee2 k x14_1 c e z_.1)
  Qz
  (fun ⟨x25, _⟩ => Qc (x25) (Zee1 k none e) (c ((IntKind.wrap .i64 (x14_1 + 1)), ())) (Qs [(4, .ptr), (5, .int .i64)] [] (fun z_ => Zee1 k z_.1 z_.2.1)
  Qz
  (fun ⟨x4_1, x5_1, _⟩ => Qr)) Qk)))))
  (fun _ => Qz)))))))
  (fun _ => Qs [(4, .ptr), (5, .int .i64)] [] (fun z_ => Zee0 k z_.1 z_.2.1)
  Qz
  (fun ⟨x4, x5, _⟩ => Qr))))) hyp_
abbrev Zef0 (k : (Sl → K)) (x2 : Sl) : K :=
  k x2
abbrev Zef1 (t : OA) (k : (Sl → K)) : K :=
  nn t fun x4 =>
  ldS (x4.add 2) fun x6 =>
  c_blocks_Spans x6 fun x7 =>
  Zef0 k x7
abbrev blocks_Table_Spans (t : OA) : M Sl := fun k =>
  Zef1 t k
theorem blocks_Table_Spans_ok (t : OA) (k : Sl → K) (w : World) (hyp_ : blocks_Table_Spans t k w) : c_blocks_Table_Spans t k w :=
  cl_of (P := Tryz.prog) Tryz.func181 rfl (by kernel_rfl)
  (Qs [] [0] (fun z_ => Zef1 t k)
  Qz
  (fun _ => Qs [(2, .slice)] [] (fun z_ => Zef0 k z_.1)
  Qz
  (fun ⟨x2, _⟩ => Qr))) hyp_
abbrev Zeg0 (k : (OA → K)) (x2 : Addr) : K :=
  k (some x2)
abbrev Zeg1 (k : (OA → K)) (limit_1 : Int) : K :=
  c_bits_Up limit_1 64 fun x6 =>
  mkS Tryz.prog 109 x6 x6 fun b =>
  alK (.cells #[.slice (some ⟨b, 0, none⟩) (Int.toNat x6) (Int.toNat x6), .int .i64 limit_1, .int .i64 0] 191) fun b_1 =>
  Zeg0 k ⟨b_1, 0, none⟩
abbrev bitmap_New (limit : Int) : M OA := fun k =>
  Zeg1 k (max2I limit 0)
theorem bitmap_New_ok (limit : Int) (k : OA → K) (w : World) (hyp_ : bitmap_New limit k w) : c_bitmap_New limit k w :=
  cl_of (P := Tryz.prog) Tryz.func182 rfl (by kernel_rfl)
  (Qs [] [0] (fun z_ => Zeg1 k (max2I limit 0))
  Qz
  (fun _ => Qs [(0, .int .i64)] [] (fun z_ => Zeg1 k z_.1)
  Qz
  (fun ⟨limit_1, _⟩ => Qs [(2, .addr)] [] (fun z_ => Zeg0 k z_.1)
  Qz
  (fun ⟨x2, _⟩ => Qr)))) hyp_
abbrev Zeh0 (k : (OA → K)) (x0 : Addr) : K :=
  k (some x0)
abbrev Zeh1 (k : (OA → K)) : K :=
  alK (.map #[] 0) fun b =>
  alK (.cells #[.slice none 0 0, .slice none 0 0, .slice none 0 0, .slice none 0 0, .slice none 0 0, .slice none 0 0, .slice none 0 0, .slice none 0 0, .slice none 0 0, .slice none 0 0, .slice none 0 0, .slice none 0 0, .slice none 0 0, .slice none 0 0, .slice none 0 0, .slice none 0 0, .slice none 0 0, .slice none 0 0, .slice none 0 0, .slice none 0 0, .slice none 0 0, .slice none 0 0, .slice none 0 0, .slice none 0 0, .slice none 0 0, .slice none 0 0, .slice none 0 0, .slice none 0 0, .slice none 0 0, .slice none 0 0, .slice none 0 0, .slice none 0 0, .map (some b)] 199) fun b_1 =>
  Zeh0 k ⟨b_1, 0, none⟩
abbrev free_New : M OA := fun k =>
  Zeh1 k
theorem free_New_ok (k : OA → K) (w : World) (hyp_ : free_New k w) : c_free_New k w :=
  cl_of (P := Tryz.prog) Tryz.func183 rfl (by kernel_rfl)
  (Qs [] [] (fun z_ => Zeh1 k)
  Qz
  (fun _ => Qs [(0, .addr)] [] (fun z_ => Zeh0 k z_.1)
  Qz
  (fun ⟨x0, _⟩ => Qr))) hyp_
abbrev Zei0 (cap0 : Addr) (at_2 : Int) (c : ((Int × Bool × Unit) → K)) : K :=
  ldP cap0 fun x12 =>
  c_bitmap_Set_Next x12 (IntKind.wrap .i64 (at_2 + 1)) fun x15 =>
  c (x15.1, x15.2, ())
abbrev Zei1 (cap0 : Addr) (k : (Unit → K)) (at_2 : Int) (c : ((Int × Bool × Unit) → K)) (x21 : Bool) : K :=
  brK x21
  (k ())
  (Zei0 cap0 at_2 c)
abbrev Zei2 (yield : Fv) (cap0 : Addr) (k : (Unit → K)) (at_2 : Int) (c : ((Int × Bool × Unit) → K)) : K :=
  dyn Tryz.prog (yield.v) #[.int .i64 at_2] (.one (.sc (.bool))) fun x20 =>
  Zei1 cap0 k at_2 c (!x20)
abbrev Zei3 (yield : Fv) (cap0 : Addr) (k : (Unit → K)) (at_2 : Int) (c : ((Int × Bool × Unit) → K)) (x10 : Bool) : K :=
  brK x10
  (Zei2 yield cap0 k at_2 c)
  (k ())
abbrev Zei4 (yield : Fv) (cap0 : Addr) (k : (Unit → K)) (at_2 : Int) (ok_1 : Bool) (c : ((Int × Bool × Unit) → K)) : K :=
  Zei3 yield cap0 k at_2 c ok_1
abbrev Zei5 (yield : Fv) (cap0 : Addr) (k : (Unit → K)) (at_1 : Int) (ok : Bool) : K :=
  lp (fun (z_ : (Int × Bool × Unit)) c_ => Zei4 yield cap0 k z_.1 z_.2.1 c_) (at_1, ok, ())
abbrev bitmap_Set_All_1 (yield : Fv) (cap0 : Addr) : M Unit := fun k =>
  ldP cap0 fun x6 =>
  c_bitmap_Set_Next x6 0 fun x7 =>
  Zei5 yield cap0 k x7.1 x7.2
theorem bitmap_Set_All_1_ok (yield : Fv) (cap0 : Addr) (k : Unit → K) (w : World) (hyp_ : bitmap_Set_All_1 yield cap0 k w) : c_bitmap_Set_All_1 yield cap0 k w :=
  cl_of (P := Tryz.prog) Tryz.func188 rfl (by kernel_rfl)
  (Qs [(3, .int .i64), (4, .bool)] [0, 1] (fun z_ => Zei5 yield cap0 k z_.1 z_.2.1)
  Qz
  (fun ⟨at_1, ok, _⟩ => Qb (Ql [(3, .int .i64), (4, .bool)] [0, 1] (fun (z_ : (Int × Bool × Unit)) c_ => Zei4 yield cap0 k z_.1 z_.2.1 c_) (at_1, ok, ())
  (fun ⟨at_2, ok_1, _⟩ c => Qs [] [0, 1, 3] (fun z_ => Zei2 yield cap0 k at_2 c)
  (Qs [(10, .bool)] [0, 1, 3] (fun z_ => Zei3 yield cap0 k at_2 c z_.1)
  Qz
  (fun ⟨x10, _⟩ => Qc (x10) (Zei2 yield cap0 k at_2 c) (k ()) Qk Qx))
  (fun _ => Qs [] [0, 1, 3] (fun z_ => Zei0 cap0 at_2 c)
  (Qb (Qs [(21, .bool)] [0, 1, 3] (fun z_ => Zei1 cap0 k at_2 c z_.1)
  Qz
  (fun ⟨x21, _⟩ => Qc (x21) (k ()) (Zei0 cap0 at_2 c) Qr Qk)))
  (fun _ => Qz)))))) hyp_
abbrev Zej0 (k : ((Int × Bool) → K)) (x4 : Int) (x5 : Bool) : K :=
  k (x4, x5)
abbrev Zej1 (k : ((Int × Bool) → K)) (i_1 : Int) (w_2 : Int) : K :=
  c_bits_Lowest w_2 fun x54 =>
  Zej0 k (IntKind.wrap .i64 ((IntKind.wrap .i64 (i_1 * 64)) + x54)) true
abbrev Zej2 (s : OA) (c : ((Int × Int × Unit) → K)) (i_3 : Int) : K :=
  nn s fun x45 =>
  ldS (x45.add 0) fun x47 =>
  ixS x47.p x47.n i_3 1 fun x49 =>
  ldI .u64 x49 fun x50 =>
  c (i_3, x50, ())
abbrev Zej3 (k : ((Int × Bool) → K)) (x4_1 : Int) (x5_1 : Bool) : K :=
  k (x4_1, x5_1)
abbrev Zej4 (s : OA) (k : ((Int × Bool) → K)) (c : ((Int × Int × Unit) → K)) (i_3 : Int) (x43 : Bool) : K :=
  brK x43
  (Zej3 k 0 false)
  (Zej2 s c i_3)
abbrev Zej5 (s : OA) (k : ((Int × Bool) → K)) (c : ((Int × Int × Unit) → K)) (i_3 : Int) : K :=
  nn s fun x39 =>
  ldS (x39.add 0) fun x41 =>
  Zej4 s k c i_3 (decide (i_3 ≥ ((x41.n : Nat) : Int)))
abbrev Zej6 (s : OA) (k : ((Int × Bool) → K)) (i_2 : Int) (w_3 : Int) (c : ((Int × Int × Unit) → K)) (x34 : Bool) : K :=
  brK x34
  (Zej5 s k c (IntKind.wrap .i64 (i_2 + 1)))
  (Zej1 k i_2 w_3)
abbrev Zej7 (s : OA) (k : ((Int × Bool) → K)) (i_2 : Int) (w_3 : Int) (c : ((Int × Int × Unit) → K)) : K :=
  Zej6 s k i_2 w_3 c (w_3 == 0)
abbrev Zej8 (s : OA) (k : ((Int × Bool) → K)) (i : Int) (w_1 : Int) : K :=
  lp (fun (z_ : (Int × Int × Unit)) c_ => Zej7 s k z_.1 z_.2.1 c_) (i, w_1, ())
abbrev Zej9 (s : OA) (k : ((Int × Bool) → K)) (at_2 : Int) (i : Int) : K :=
  nn s fun x19 =>
  ldS (x19.add 0) fun x21 =>
  ixS x21.p x21.n i 1 fun x23 =>
  ldI .u64 x23 fun x24 =>
  nneg (IntKind.wrap .u64 (Int.tmod at_2 64)) <|
  nneg (IntKind.wrap .u64 (Int.tmod at_2 64)) <|
  Zej8 s k i (shlI .u64 (shrI .u64 x24 (IntKind.wrap .u64 (Int.tmod at_2 64))) (IntKind.wrap .u64 (Int.tmod at_2 64)))
abbrev Zej10 (k : ((Int × Bool) → K)) (x4_2 : Int) (x5_2 : Bool) : K :=
  k (x4_2, x5_2)
abbrev Zej11 (s : OA) (k : ((Int × Bool) → K)) (at_2 : Int) (x15 : Bool) : K :=
  brK x15
  (Zej10 k 0 false)
  (Zej9 s k at_2 (IntKind.wrap .i64 (Int.tdiv at_2 64)))
abbrev Zej12 (s : OA) (k : ((Int × Bool) → K)) (at_2 : Int) : K :=
  nn s fun x12 =>
  ldI .i64 (x12.add 1) fun x14 =>
  Zej11 s k at_2 (decide (at_2 ≥ x14))
abbrev bitmap_Set_Next (s : OA) (at_1 : Int) : M (Int × Bool) := fun k =>
  Zej12 s k (max2I at_1 0)
theorem bitmap_Set_Next_ok (s : OA) (at_1 : Int) (k : (Int × Bool) → K) (w : World) (hyp_ : bitmap_Set_Next s at_1 k w) : c_bitmap_Set_Next s at_1 k w :=
  cl_of (P := Tryz.prog) Tryz.func189 rfl (by kernel_rfl)
  (Qs [] [0, 1] (fun z_ => Zej12 s k (max2I at_1 0))
  Qz
  (fun _ => Qs [(1, .int .i64)] [0] (fun z_ => Zej12 s k z_.1)
  Qz
  (fun ⟨at_2, _⟩ => Qs [] [0, 1] (fun z_ => Zej9 s k at_2 (IntKind.wrap .i64 (Int.tdiv at_2 64)))
  (Qs [(15, .bool)] [0, 1] (fun z_ => Zej11 s k at_2 z_.1)
  Qz
  (fun ⟨x15, _⟩ => Qc (x15) (Zej10 k 0 false) (Zej9 s k at_2 (IntKind.wrap .i64 (Int.tdiv at_2 64))) (Qs [(4, .int .i64), (5, .bool)] [] (fun z_ => Zej10 k z_.1 z_.2.1)
  Qz
  (fun ⟨x4_2, x5_2, _⟩ => Qr)) Qk))
  (fun _ => Qs [(6, .int .i64)] [0, 1] (fun z_ => Zej9 s k at_2 z_.1)
  Qz
  (fun ⟨i, _⟩ => Qs [(7, .int .u64)] [0, 6] (fun z_ => Zej8 s k i z_.1)
  Qz
  (fun ⟨w_1, _⟩ => Qs [(6, .int .i64), (7, .int .u64)] [] (fun z_ => Zej1 k z_.1 z_.2.1)
  (Qb (Ql [(6, .int .i64), (7, .int .u64)] [0] (fun (z_ : (Int × Int × Unit)) c_ => Zej7 s k z_.1 z_.2.1 c_) (i, w_1, ())
  (fun ⟨i_2, w_3, _⟩ c => Qs [] [0, 6] (fun z_ => Zej5 s k c (IntKind.wrap .i64 (i_2 + 1)))
  (Qs [(34, .bool)] [0, 6, 7] (fun z_ => Zej6 s k i_2 w_3 c z_.1)
  Qz
  (fun ⟨x34, _⟩ => Qc (x34) (Zej5 s k c (IntKind.wrap .i64 (i_2 + 1))) (Zej1 k i_2 w_3) Qk Qx))
  (fun _ => Qb (Qs [(6, .int .i64)] [0] (fun z_ => Zej5 s k c z_.1)
  Qz
  (fun ⟨i_3, _⟩ => Qs [] [0, 6] (fun z_ => Zej2 s c i_3)
  (Qs [(43, .bool)] [0, 6] (fun z_ => Zej4 s k c i_3 z_.1)
  Qz
  (fun ⟨x43, _⟩ => Qc (x43) (Zej3 k 0 false) (Zej2 s c i_3) (Qs [(4, .int .i64), (5, .bool)] [] (fun z_ => Zej3 k z_.1 z_.2.1)
  Qz
  (fun ⟨x4_1, x5_1, _⟩ => Qr)) Qk))
  (fun _ => Qz)))))))
  (fun ⟨i_1, w_2, _⟩ => Qs [(4, .int .i64), (5, .bool)] [] (fun z_ => Zej0 k z_.1 z_.2.1)
  Qz
  (fun ⟨x4, x5, _⟩ => Qr)))))))) hyp_
abbrev Zek0 (k : (Bool → K)) (x4 : Bool) : K :=
  k x4
abbrev Zek1 (k : (Bool → K)) (x4_1 : Bool) : K :=
  k x4_1
abbrev Zek2 (k : (Bool → K)) (c : (Unit → K)) (x26 : Bool) : K :=
  brK x26
  (Zek1 k true)
  (c ())
abbrev Zek3 (block : Int) (k : (Bool → K)) (c : (Unit → K)) (start : Int) (n : Int) : K :=
  brK (decide (block ≥ start))
  (Zek2 k c (decide (block < (IntKind.wrap .i64 (start + n)))))
  (Zek2 k c false)
abbrev Zek4 (block : Int) (k : (Bool → K)) (x11 : OA) (c : (Unit → K)) : K :=
  semT Tryz.prog (Instr.entry (.pointer x11)) (.tup [.sc (.any), .sc (.any)]) fun e =>
  decSh (.int .i64) e.1 fun x15 =>
  decSh (.int .i64) e.2 fun x16 =>
  Zek3 block k c x15 x16
abbrev Zek5 (block : Int) (k : (Bool → K)) (x11 : OA) (c : (Unit → K)) (x13 : Bool) : K :=
  brK x13
  (Zek4 block k x11 c)
  (Zek0 k false)
abbrev Zek6 (block : Int) (k : (Bool → K)) (x11 : OA) (c : (Unit → K)) : K :=
  nextM Tryz.prog (Instr.next (.pointer x11) false 0) fun go rest =>
  Zek5 block k x11 c go
abbrev Zek7 (block : Int) (k : (Bool → K)) (x11 : OA) : K :=
  lp (fun (z_ : Unit) c_ => Zek6 block k x11 c_) ()
abbrev Zek8 (x : OA) (block : Int) (k : (Bool → K)) : K :=
  nn x fun x8 =>
  ldM (x8.add 0) fun x10 =>
  semT Tryz.prog (Instr.range 240 (.map x10)) (.one (.sc (.ptr))) fun it =>
  Zek7 block k it
abbrev runs_Index_Has (x : OA) (block : Int) : M Bool := fun k =>
  Zek8 x block k
theorem runs_Index_Has_ok (x : OA) (block : Int) (k : Bool → K) (w : World) (hyp_ : runs_Index_Has x block k w) : c_runs_Index_Has x block k w :=
  cl_of (P := Tryz.prog) Tryz.func196 rfl (by kernel_rfl)
  (Qs [] [0, 1] (fun z_ => Zek8 x block k)
  Qz
  (fun _ => Qs [] [] (fun z_ => Zek0 k false)
  (Qs [(11, .ptr)] [1] (fun z_ => Zek7 block k z_.1)
  Qz
  (fun ⟨x11, _⟩ => Qb (Ql [] [1, 11] (fun (z_ : Unit) c_ => Zek6 block k x11 c_) ()
  (fun _ c => Qs [(13, .bool)] [1, 11] (fun z_ => Zek5 block k x11 c z_.1)
  Qz
  (fun ⟨x13, _⟩ => Qs [] [1, 11] (fun z_ => Zek4 block k x11 c)
  (Qc (x13) (Zek4 block k x11 c) (Zek0 k false) Qk Qx)
  (fun _ => Qb (Qs [(5, .int .i64), (6, .int .i64)] [1, 11] (fun z_ => Zek3 block k c z_.1 z_.2.1)
  Qz
  (fun ⟨start, n, _⟩ => Qs [(26, .bool)] [1, 11] (fun z_ => Zek2 k c z_.1)
  (Qp [3])
  (fun ⟨x26, _⟩ => Qc (x26) (Zek1 k true) (c ()) (Qs [(4, .bool)] [] (fun z_ => Zek1 k z_.1)
  Qz
  (fun ⟨x4_1, _⟩ => Qr)) Qk)))))))))
  (fun _ => Qs [(4, .bool)] [] (fun z_ => Zek0 k z_.1)
  Qz
  (fun ⟨x4, _⟩ => Qr)))) hyp_
abbrev Zel0 (x : OA) (start : Int) (k : (Unit → K)) : K :=
  nn x fun x17 =>
  ldM (x17.add 0) fun x19 =>
  semT Tryz.prog (Builtin.delete_ #[240, 3] 0 #[.map x19, .int .i64 start]) (.tup []) fun r =>
  k ()
abbrev runs_Index_drop (x : OA) (start : Int) : M Unit := fun k =>
  tick fun _ =>
  nn x fun x5 =>
  ldM (x5.add 1) fun x7 =>
  nn x fun x10 =>
  ldM (x10.add 0) fun x12 =>
  lkE Tryz.prog 3 (.int .i64 0) (.sc (.int .i64)) x12 (.int .i64 start) fun r_1 ob x14 ok =>
  semT Tryz.prog (Builtin.delete_ #[240, 3] 0 #[.map x7, .int .i64 (IntKind.wrap .i64 (start + x14))]) (.tup []) fun r_2 =>
  Zel0 x start k
theorem runs_Index_drop_ok (x : OA) (start : Int) (k : Unit → K) (w : World) (hyp_ : runs_Index_drop x start k w) : c_runs_Index_drop x start k w :=
  cl_of (P := Tryz.prog) Tryz.func197 rfl (by kernel_rfl)
  (Qs [] [0, 1] (fun z_ => Zel0 x start k)
  (RefK.draw [] [0, 1, 3, 7, 0, 0, 32, 96, 224, 0, 992, 2032, 4095] [0, 1, 2, 3, 4, 5, 6, 7, 8, 9, 10, 11, 12] [0, 1, 2, 3, 4, 5, 6, 7, 8, 9, 10, 11, 12] (by kernel_rfl) (by kernel_rfl))
  (fun _ => Qz)) hyp_
abbrev runs_Index_add (x : OA) (start : Int) (n : Int) : M Unit := fun k =>
  tick fun _ =>
  nn x fun x7 =>
  ldM (x7.add 0) fun x9 =>
  nn x fun x12 =>
  ldM (x12.add 1) fun x14 =>
  semT Tryz.prog (Instr.mapEntry 240 (.map x9) (.int .i64 start)) (.tup [.sc (.int .i64), .sc (.int .i64)]) fun e =>
  semU Tryz.prog (Instr.entryStore 240 (.map x9) (.int .i64 e.2) (.int .i64 n)) <|
  semT Tryz.prog (Instr.mapEntry 240 (.map x14) (.int .i64 (IntKind.wrap .i64 (start + n)))) (.tup [.sc (.int .i64), .sc (.int .i64)]) fun e_1 =>
  semU Tryz.prog (Instr.entryStore 240 (.map x14) (.int .i64 e_1.2) (.int .i64 start)) <|
  k ()
theorem runs_Index_add_ok (x : OA) (start : Int) (n : Int) (k : Unit → K) (w : World) (hyp_ : runs_Index_add x start n k w) : c_runs_Index_add x start n k w :=
  cl_of (P := Tryz.prog) Tryz.func198 rfl (by kernel_rfl)
  (RefK.draw [] [0, 1, 3, 7, 0, 0, 32, 96, 224, 0, 0, 1536, 0, 0, 511, 16895, 53759, 122879, 253951, 524287] [0, 1, 2, 3, 4, 5, 6, 7, 8, 9, 10, 11, 12, 13, 14, 15, 16, 17, 18, 19] [0, 1, 2, 3, 4, 5, 6, 7, 8, 14, 12, 15, 16, 9, 10, 11, 17, 13, 18, 19] (by kernel_rfl) (by kernel_rfl)) hyp_
abbrev Zem0 (k : ((Int × Int) → K)) (x4 : Int) (x5 : Int) : K :=
  k (x4, x5)
abbrev Zem1 (x0 : OA) (x1 : Int) (k : ((Int × Int) → K)) (x6_1 : Int) (x9 : Int) : K :=
  c_runs_Index_add x0 (IntKind.wrap .i64 (x6_1 + x1)) (IntKind.wrap .i64 (x9 - x1)) fun x76 =>
  Zem0 k x6_1 0
abbrev Zem2 (x0 : OA) (x1 : Int) (k : ((Int × Int) → K)) (x6_1 : Int) (x9 : Int) (x68 : Bool) : K :=
  brK x68
  (Zem1 x0 x1 k x6_1 x9)
  (Zem0 k x6_1 0)
abbrev Zem3 (x0 : OA) (x1 : Int) (k : ((Int × Int) → K)) (x6_1 : Int) (x9 : Int) : K :=
  c_runs_Index_drop x0 x6_1 fun x65 =>
  Zem2 x0 x1 k x6_1 x9 (decide (x9 > x1))
abbrev Zem4 (x0 : OA) (x1 : Int) (k : ((Int × Int) → K)) (x6_1 : Int) : K :=
  nn x0 fun x58 =>
  ldM (x58.add 0) fun x60 =>
  lkE Tryz.prog 3 (.int .i64 0) (.sc (.int .i64)) x60 (.int .i64 x6_1) fun r ob x62 ok =>
  Zem3 x0 x1 k x6_1 x62
abbrev Zem5 (k : ((Int × Int) → K)) (x4_1 : Int) (x5_1 : Int) : K :=
  k (x4_1, x5_1)
abbrev Zem6 (x0 : OA) (x1 : Int) (k : ((Int × Int) → K)) (x6_1 : Int) (x56 : Bool) : K :=
  brK x56
  (Zem5 k 0 4)
  (Zem4 x0 x1 k x6_1)
abbrev Zem7 (x0 : OA) (x1 : Int) (k : ((Int × Int) → K)) (x6_1 : Int) : K :=
  Zem6 x0 x1 k x6_1 (decide (x6_1 < 0))
abbrev Zem8 (x6_2 : Int) (c : ((Int × Unit) → K)) (x7 : Int) (x53 : Bool) : K :=
  brK x53
  (c (x7, ()))
  (c (x6_2, ()))
abbrev Zem9 (x0 : OA) (x1 : Int) (x6_2 : Int) (c : ((Int × Unit) → K)) (x7 : Int) (x8 : Int) : K :=
  brK (decide (x8 ≥ x1))
  (brK (decide (x6_2 < 0))
  (Zem8 x6_2 c x7 true)
  (nn x0 fun x31 =>
  ldM (x31.add 0) fun x33 =>
  lkE Tryz.prog 3 (.int .i64 0) (.sc (.int .i64)) x33 (.int .i64 x6_2) fun r_1 ob_1 x35 ok_1 =>
  brK (decide (x8 < x35))
  (Zem8 x6_2 c x7 true)
  (nn x0 fun x41 =>
  ldM (x41.add 0) fun x43 =>
  lkE Tryz.prog 3 (.int .i64 0) (.sc (.int .i64)) x43 (.int .i64 x6_2) fun r_2 ob_2 x45 ok_2 =>
  brK (x8 == x45)
  (Zem8 x6_2 c x7 (decide (x7 < x6_2)))
  (Zem8 x6_2 c x7 false))))
  (Zem8 x6_2 c x7 false)
abbrev Zem10 (x0 : OA) (x1 : Int) (x16 : OA) (x6_2 : Int) (c : ((Int × Unit) → K)) : K :=
  semT Tryz.prog (Instr.entry (.pointer x16)) (.tup [.sc (.any), .sc (.any)]) fun e =>
  decSh (.int .i64) e.1 fun x20 =>
  decSh (.int .i64) e.2 fun x21 =>
  Zem9 x0 x1 x6_2 c x20 x21
abbrev Zem11 (x0 : OA) (x1 : Int) (k : ((Int × Int) → K)) (x16 : OA) (x6_2 : Int) (c : ((Int × Unit) → K)) (x18 : Bool) : K :=
  brK x18
  (Zem10 x0 x1 x16 x6_2 c)
  (Zem7 x0 x1 k x6_2)
abbrev Zem12 (x0 : OA) (x1 : Int) (k : ((Int × Int) → K)) (x16 : OA) (x6_2 : Int) (c : ((Int × Unit) → K)) : K :=
  nextM Tryz.prog (Instr.next (.pointer x16) false 0) fun go rest =>
  Zem11 x0 x1 k x16 x6_2 c go
abbrev Zem13 (x0 : OA) (x1 : Int) (k : ((Int × Int) → K)) (x6 : Int) (x16 : OA) : K :=
  lp (fun (z_ : (Int × Unit)) c_ => Zem12 x0 x1 k x16 z_.1 c_) (x6, ())
abbrev Zem14 (x0 : OA) (x1 : Int) (k : ((Int × Int) → K)) (x6 : Int) : K :=
  nn x0 fun x13 =>
  ldM (x13.add 0) fun x15 =>
  semT Tryz.prog (Instr.range 240 (.map x15)) (.one (.sc (.ptr))) fun it =>
  Zem13 x0 x1 k x6 it
abbrev Zem15 (k : ((Int × Int) → K)) (x4_2 : Int) (x5_2 : Int) : K :=
  k (x4_2, x5_2)
abbrev Zem16 (x0 : OA) (x1 : Int) (k : ((Int × Int) → K)) (x11 : Bool) : K :=
  brK x11
  (Zem15 k 0 1)
  (Zem14 x0 x1 k (-1))
abbrev runs_Index_Take (x0 : OA) (x1 : Int) : M (Int × Int) := fun k =>
  Zem16 x0 x1 k (decide (x1 < 1))
theorem runs_Index_Take_ok (x0 : OA) (x1 : Int) (k : (Int × Int) → K) (w : World) (hyp_ : runs_Index_Take x0 x1 k w) : c_runs_Index_Take x0 x1 k w :=
  cl_of (P := Tryz.prog) Tryz.func200 rfl (by kernel_rfl)
  (Qs [] [0, 1] (fun z_ => Zem16 x0 x1 k (decide (x1 < 1)))
  Qz
  (fun _ => Qs [] [0, 1] (fun z_ => Zem14 x0 x1 k (-1))
  (Qs [(11, .bool)] [0, 1] (fun z_ => Zem16 x0 x1 k z_.1)
  Qz
  (fun ⟨x11, _⟩ => Qc (x11) (Zem15 k 0 1) (Zem14 x0 x1 k (-1)) (Qs [(4, .int .i64), (5, .int .i64)] [] (fun z_ => Zem15 k z_.1 z_.2.1)
  Qz
  (fun ⟨x4_2, x5_2, _⟩ => Qr)) Qk))
  (fun _ => Qs [(6, .int .i64)] [0, 1] (fun z_ => Zem14 x0 x1 k z_.1)
  Qz
  (fun ⟨x6, _⟩ => Qs [(6, .int .i64)] [0, 1] (fun z_ => Zem7 x0 x1 k z_.1)
  (Qs [(16, .ptr)] [0, 1, 6] (fun z_ => Zem13 x0 x1 k x6 z_.1)
  Qz
  (fun ⟨x16, _⟩ => Qb (Ql [(6, .int .i64)] [0, 1, 16] (fun (z_ : (Int × Unit)) c_ => Zem12 x0 x1 k x16 z_.1 c_) (x6, ())
  (fun ⟨x6_2, _⟩ c => Qs [(18, .bool)] [0, 1, 6, 16] (fun z_ => Zem11 x0 x1 k x16 x6_2 c z_.1)
  Qz
  (fun ⟨x18, _⟩ => Qs [] [0, 1, 6, 16] (fun z_ => Zem10 x0 x1 x16 x6_2 c)
  (Qc (x18) (Zem10 x0 x1 x16 x6_2 c) (Zem7 x0 x1 k x6_2) Qk Qx)
  (fun _ => Qb (Qs [(7, .int .i64), (8, .int .i64)] [0, 1, 6, 16] (fun z_ => Zem9 x0 x1 x6_2 c z_.1 z_.2.1)
  Qz
  (fun ⟨x7, x8, _⟩ => Qs [(53, .bool)] [0, 1, 6, 7, 16] (fun z_ => Zem8 x6_2 c x7 z_.1)
  (Qp [3, 6, 16, 25])
  (fun ⟨x53, _⟩ => Qc (x53) (c (x7, ())) (c (x6_2, ())) Qz Qk)))))))))
  (fun ⟨x6_1, _⟩ => Qs [] [0, 1, 6] (fun z_ => Zem4 x0 x1 k x6_1)
  (Qs [(56, .bool)] [0, 1, 6] (fun z_ => Zem6 x0 x1 k x6_1 z_.1)
  Qz
  (fun ⟨x56, _⟩ => Qc (x56) (Zem5 k 0 4) (Zem4 x0 x1 k x6_1) (Qs [(4, .int .i64), (5, .int .i64)] [] (fun z_ => Zem5 k z_.1 z_.2.1)
  Qz
  (fun ⟨x4_1, x5_1, _⟩ => Qr)) Qk))
  (fun _ => Qs [(9, .int .i64)] [0, 1, 6] (fun z_ => Zem3 x0 x1 k x6_1 z_.1)
  Qz
  (fun ⟨x9, _⟩ => Qs [] [0, 1, 6, 9] (fun z_ => Zem2 x0 x1 k x6_1 x9 (decide (x9 > x1)))
  Qz
  (fun _ => Qs [] [6] (fun z_ => Zem0 k x6_1 0)
  (Qs [(68, .bool)] [0, 1, 6, 9] (fun z_ => Zem2 x0 x1 k x6_1 x9 z_.1)
  Qz
  (fun ⟨x68, _⟩ => Qc (x68) (Zem1 x0 x1 k x6_1 x9) (Zem0 k x6_1 0) Qz Qk))
  (fun _ => Qs [(4, .int .i64), (5, .int .i64)] [] (fun z_ => Zem0 k z_.1 z_.2.1)
  Qz
  (fun ⟨x4, x5, _⟩ => Qr)))))))))) hyp_
abbrev Zen0 (k : (Int → K)) (x6 : Int) : K :=
  k x6
abbrev Zen1 (l : OA) (mutator : Int) (k_1 : Int) (k : (Int → K)) : K :=
  nn l fun x8 =>
  ldM (x8.add 32) fun x10 =>
  lkE Tryz.prog 201 (.slice none 0 0) (.sc (.slice)) x10 (.agg #[.int .i64 mutator, .int .i64 k_1]) fun r ob x14 ok =>
  Zen0 k ((x14.n : Nat) : Int)
abbrev free_Lists_Own (l : OA) (mutator : Int) (k_1 : Int) : M Int := fun k =>
  Zen1 l mutator k_1 k
theorem free_Lists_Own_ok (l : OA) (mutator : Int) (k_1 : Int) (k : Int → K) (w : World) (hyp_ : free_Lists_Own l mutator k_1 k w) : c_free_Lists_Own l mutator k_1 k w :=
  cl_of (P := Tryz.prog) Tryz.func202 rfl (by kernel_rfl)
  (Qs [] [0, 1, 2] (fun z_ => Zen1 l mutator k_1 k)
  Qz
  (fun _ => Qs [(6, .int .i64)] [] (fun z_ => Zen0 k z_.1)
  Qz
  (fun ⟨x6, _⟩ => Qr))) hyp_
abbrev Zeo0 (l : OA) (x6_1 : Int) (c : ((Int × Unit) → K)) (s : Addr) : K :=
  tick fun _ =>
  nn l fun x31 =>
  ldM (x31.add 32) fun x33 =>
  ldI .i64 (s.add 0) fun x34_0 =>
  ldI .i64 (s.add 1) fun x34_1 =>
  semT Tryz.prog (Builtin.delete_ #[197, 201] 0 #[.map x33, .agg #[.int .i64 x34_0, .int .i64 x34_1]]) (.tup []) fun r =>
  c ((IntKind.wrap .i64 (x6_1 + 1)), ())
abbrev Zeo1 (l : OA) (x6_1 : Int) (c : ((Int × Unit) → K)) (k_1 : Int) (s : Addr) : K :=
  tick fun _ =>
  nn l fun x16 =>
  ixA (x16.add 0) 32 k_1 1 fun x18 =>
  ldS x18 fun x19 =>
  nn l fun x21 =>
  ldM (x21.add 32) fun x23 =>
  ldI .i64 (s.add 0) fun x24_0 =>
  ldI .i64 (s.add 1) fun x24_1 =>
  lkE Tryz.prog 201 (.slice none 0 0) (.sc (.slice)) x23 (.agg #[.int .i64 x24_0, .int .i64 x24_1]) fun r_1 ob x25 ok =>
  nn l fun x27 =>
  semT Tryz.prog (Builtin.append_ #[27, 27] 27 #[x19.v, x25.v]) (.one (.sc (.slice))) fun x26 =>
  ixA (x27.add 0) 32 k_1 1 fun x29 =>
  stK (x29.add 0) (x26.v) <|
  Zeo0 l x6_1 c s
abbrev Zeo2 (l : OA) (mutator : Int) (x6_1 : Int) (c : ((Int × Unit) → K)) (k_1 : Int) : K :=
  alK (.cells #[.int .i64 0, .int .i64 0] 201) fun b =>
  stK (Addr.add ⟨b, 0, none⟩ 0) (.int .i64 mutator) <|
  stK (Addr.add ⟨b, 0, none⟩ 1) (.int .i64 k_1) <|
  Zeo1 l x6_1 c k_1 ⟨b, 0, none⟩
abbrev Zeo3 (l : OA) (mutator : Int) (k : (Unit → K)) (x6_1 : Int) (c : ((Int × Unit) → K)) (x7 : Bool) : K :=
  brK x7
  (Zeo2 l mutator x6_1 c x6_1)
  (k ())
abbrev Zeo4 (l : OA) (mutator : Int) (k : (Unit → K)) (x6_1 : Int) (c : ((Int × Unit) → K)) : K :=
  Zeo3 l mutator k x6_1 c (decide (x6_1 < 32))
abbrev Zeo5 (l : OA) (mutator : Int) (k : (Unit → K)) (x6 : Int) : K :=
  lp (fun (z_ : (Int × Unit)) c_ => Zeo4 l mutator k z_.1 c_) (x6, ())
abbrev free_Lists_Drain (l : OA) (mutator : Int) : M Unit := fun k =>
  Zeo5 l mutator k 0
theorem free_Lists_Drain_ok (l : OA) (mutator : Int) (k : Unit → K) (w : World) (hyp_ : free_Lists_Drain l mutator k w) : c_free_Lists_Drain l mutator k w :=
  cl_of (P := Tryz.prog) Tryz.func203 rfl (by kernel_rfl)
  (Qs [(6, .int .i64)] [0, 1] (fun z_ => Zeo5 l mutator k z_.1)
  Qz
  (fun ⟨x6, _⟩ => Qb (Ql [(6, .int .i64)] [0, 1] (fun (z_ : (Int × Unit)) c_ => Zeo4 l mutator k z_.1 c_) (x6, ())
  (fun ⟨x6_1, _⟩ c => Qs [(7, .bool)] [0, 1, 6] (fun z_ => Zeo3 l mutator k x6_1 c z_.1)
  Qz
  (fun ⟨x7, _⟩ => Qs [] [0, 1, 6] (fun z_ => Zeo2 l mutator x6_1 c x6_1)
  (Qc (x7) (Zeo2 l mutator x6_1 c x6_1) (k ()) Qk Qx)
  (fun _ => Qs [] [0, 1, 6] (fun z_ => c ((IntKind.wrap .i64 (x6_1 + 1)), ()))
  (Qb (Qs [(4, .int .i64)] [0, 1, 6] (fun z_ => Zeo2 l mutator x6_1 c z_.1)
  Qz
  (fun ⟨k_1, _⟩ => Qs [(5, .addr)] [0, 1, 4, 6] (fun z_ => Zeo1 l x6_1 c k_1 z_.1)
  Qz
  (fun ⟨s, _⟩ => Qs [] [0, 1, 5, 6] (fun z_ => Zeo0 l x6_1 c s)
  (RefK.draw [] [0, 0, 0, 0, 4, 20, 60, 124, 0, 256, 768, 1792, 0, 7936, 16380, 1, 32769, 131071, 262143] [0, 1, 2, 3, 4, 5, 6, 7, 8, 9, 10, 11, 12, 13, 15, 16, 14, 17, 18] [0, 1, 2, 3, 4, 5, 6, 7, 8, 9, 10, 11, 12, 13, 14, 15, 16, 17, 18] (by kernel_rfl) (by kernel_rfl))
  (fun _ => RefK.draw [] [0, 1, 3, 7, 0, 31] [0, 1, 2, 3, 4, 5] [0, 1, 2, 3, 4, 5] (by kernel_rfl) (by kernel_rfl))))))
  (fun _ => Qz))))))) hyp_
abbrev Zep0 (k : (Int → K)) (x4 : Int) : K :=
  k x4
abbrev Zep1 (k : (Int → K)) (a_1 : Addr) (b_1 : Addr) : K :=
  ldI .i64 (a_1.add 0) fun x6 =>
  ldI .i64 (b_1.add 0) fun x8 =>
  Zep0 k (IntKind.wrap .i64 (x6 - x8))
abbrev runs_Index_List_1 (a : (Int × Int)) (b : (Int × Int)) : M Int := fun k =>
  alK (.cells #[.int .i64 a.1, .int .i64 a.2] 152) fun b_2 =>
  alK (.cells #[.int .i64 b.1, .int .i64 b.2] 152) fun b_3 =>
  Zep1 k ⟨b_2, 0, none⟩ ⟨b_3, 0, none⟩
theorem runs_Index_List_1_ok (a : (Int × Int)) (b : (Int × Int)) (k : Int → K) (w : World) (hyp_ : runs_Index_List_1 a b k w) : c_runs_Index_List_1 a b k w :=
  cl_of (P := Tryz.prog) Tryz.func208 rfl (by kernel_rfl)
  (Qs [(2, .addr), (3, .addr)] [] (fun z_ => Zep1 k z_.1 z_.2.1)
  Qz
  (fun ⟨a_1, b_1, _⟩ => Qs [(4, .int .i64)] [] (fun z_ => Zep0 k z_.1)
  Qz
  (fun ⟨x4, _⟩ => Qr))) hyp_
abbrev Zeq0 (k : (Int → K)) (x4 : Int) : K :=
  k x4
abbrev Zeq1 (l : OA) (k_1 : Int) (k : (Int → K)) : K :=
  c_free_Lists_List l k_1 fun x7 =>
  Zeq0 k ((x7.n : Nat) : Int)
abbrev free_Lists_Len (l : OA) (k_1 : Int) : M Int := fun k =>
  Zeq1 l k_1 k
theorem free_Lists_Len_ok (l : OA) (k_1 : Int) (k : Int → K) (w : World) (hyp_ : free_Lists_Len l k_1 k w) : c_free_Lists_Len l k_1 k w :=
  cl_of (P := Tryz.prog) Tryz.func209 rfl (by kernel_rfl)
  (Qs [] [0, 1] (fun z_ => Zeq1 l k_1 k)
  Qz
  (fun _ => Qs [(4, .int .i64)] [] (fun z_ => Zeq0 k z_.1)
  Qz
  (fun ⟨x4, _⟩ => Qr))) hyp_
abbrev Zer0 (k : (Bool → K)) (x4 : Bool) : K :=
  k x4
abbrev Zer1 (at_1 : Int) (cap0 : Addr) (cap1 : Addr) (k : (Bool → K)) : K :=
  ldI .i64 cap0 fun x6 =>
  brK (decide (at_1 ≥ x6))
  (ldI .i64 cap1 fun x10 =>
  Zer0 k (decide (at_1 < x10)))
  (Zer0 k false)
abbrev free_Lists_Remove_1 (at_1 : Int) (cap0 : Addr) (cap1 : Addr) : M Bool := fun k =>
  Zer1 at_1 cap0 cap1 k
theorem free_Lists_Remove_1_ok (at_1 : Int) (cap0 : Addr) (cap1 : Addr) (k : Bool → K) (w : World) (hyp_ : free_Lists_Remove_1 at_1 cap0 cap1 k w) : c_free_Lists_Remove_1 at_1 cap0 cap1 k w :=
  cl_of (P := Tryz.prog) Tryz.func210 rfl (by kernel_rfl)
  (Qs [] [0, 1, 2] (fun z_ => Zer1 at_1 cap0 cap1 k)
  Qz
  (fun _ => Qs [(4, .bool)] [] (fun z_ => Zer0 k z_.1)
  (Qp [3])
  (fun ⟨x4, _⟩ => Qr))) hyp_
abbrev Zes0 (k : ((Sl × (Int × Int)) → K)) (x4 : Sl) (x5 : Int) (x6 : Int) : K :=
  k (x4, (x5, x6))
abbrev Zes1 (out : Sl) (b_1 : Int) (c : ((Int × Unit) → K)) (h : Addr) : K :=
  ldI .i64 (h.add 0) fun x36_0 =>
  ldI .i64 (h.add 1) fun x36_1 =>
  ldI .i64 (h.add 2) fun x36_2 =>
  ixS out.p out.n b_1 3 fun x37 =>
  stK (x37.add 0) (.int .i64 x36_0) <|
  stK (x37.add 1) (.int .i64 x36_1) <|
  stK (x37.add 2) (.int .i64 x36_2) <|
  c ((IntKind.wrap .i64 (b_1 + 1)), ())
abbrev Zes2 (k : ((Sl × (Int × Int)) → K)) (x4_1 : Sl) (x5_1 : Int) (x6_1 : Int) : K :=
  k (x4_1, (x5_1, x6_1))
abbrev Zes3 (k : ((Sl × (Int × Int)) → K)) (out : Sl) (b_1 : Int) (c : ((Int × Unit) → K)) (h : Addr) (x32 : Bool) : K :=
  brK x32
  (Zes2 k ⟨none, 0, 0⟩ b_1 21)
  (Zes1 out b_1 c h)
abbrev Zes4 (k : ((Sl × (Int × Int)) → K)) (out : Sl) (b_1 : Int) (c : ((Int × Unit) → K)) (h : Addr) (e : Int) : K :=
  Zes3 k out b_1 c h (e != 0)
abbrev Zes5 (d : OA) (k : ((Sl × (Int × Int)) → K)) (g_1 : Addr) (out : Sl) (b_1 : Int) (c : ((Int × Unit) → K)) : K :=
  ldI .i64 (g_1.add 0) fun x24_0 =>
  c_geom_Geometry_Header x24_0 b_1 fun x26 =>
  c_nvm_Device_Get d x26 fun x27 =>
  c_bhead_Decode b_1 x27 fun x28 =>
  alK (.cells #[.int .i64 0, .int .i64 0, .int .i64 0] 143) fun b_2 =>
  stK (Addr.add ⟨b_2, 0, none⟩ 0) (.int .i64 x28.1.1) <|
  stK (Addr.add ⟨b_2, 0, none⟩ 1) (.int .i64 x28.1.2.1) <|
  stK (Addr.add ⟨b_2, 0, none⟩ 2) (.int .i64 x28.1.2.2) <|
  Zes4 k out b_1 c ⟨b_2, 0, none⟩ x28.2
abbrev Zes6 (d : OA) (k : ((Sl × (Int × Int)) → K)) (g_1 : Addr) (out : Sl) (b_1 : Int) (c : ((Int × Unit) → K)) (x18 : Bool) : K :=
  brK x18
  (Zes5 d k g_1 out b_1 c)
  (Zes0 k out 0 0)
abbrev Zes7 (d : OA) (k : ((Sl × (Int × Int)) → K)) (g_1 : Addr) (out : Sl) (b_1 : Int) (c : ((Int × Unit) → K)) : K :=
  ldI .i64 (g_1.add 0) fun x17 =>
  Zes6 d k g_1 out b_1 c (decide (b_1 < x17))
abbrev Zes8 (d : OA) (k : ((Sl × (Int × Int)) → K)) (g_1 : Addr) (out : Sl) (b : Int) : K :=
  lp (fun (z_ : (Int × Unit)) c_ => Zes7 d k g_1 out z_.1 c_) (b, ())
abbrev Zes9 (d : OA) (k : ((Sl × (Int × Int)) → K)) (g_1 : Addr) (out : Sl) : K :=
  Zes8 d k g_1 out 1
abbrev Zes10 (d : OA) (k : ((Sl × (Int × Int)) → K)) (g_1 : Addr) : K :=
  ldI .i64 (g_1.add 0) fun x12 =>
  mkS Tryz.prog 143 (max2I 0 x12) (max2I 0 x12) fun b_3 =>
  Zes9 d k g_1 ⟨(some ⟨b_3, 0, none⟩), (Int.toNat (max2I 0 x12)), (Int.toNat (max2I 0 x12))⟩
abbrev blocks_Read (d : OA) (g : Int) : M (Sl × (Int × Int)) := fun k =>
  alK (.cells #[.int .i64 g] 43) fun b_4 =>
  Zes10 d k ⟨b_4, 0, none⟩
theorem blocks_Read_ok (d : OA) (g : Int) (k : (Sl × (Int × Int)) → K) (w : World) (hyp_ : blocks_Read d g k w) : c_blocks_Read d g k w :=
  cl_of (P := Tryz.prog) Tryz.func220 rfl (by kernel_rfl)
  (Qs [(3, .addr)] [0] (fun z_ => Zes10 d k z_.1)
  Qz
  (fun ⟨g_1, _⟩ => Qs [(7, .slice)] [0, 3] (fun z_ => Zes9 d k g_1 z_.1)
  Qz
  (fun ⟨out, _⟩ => Qs [] [7] (fun z_ => Zes0 k out 0 0)
  (Qs [(8, .int .i64)] [0, 3, 7] (fun z_ => Zes8 d k g_1 out z_.1)
  Qz
  (fun ⟨b, _⟩ => Qb (Ql [(8, .int .i64)] [0, 3, 7] (fun (z_ : (Int × Unit)) c_ => Zes7 d k g_1 out z_.1 c_) (b, ())
  (fun ⟨b_1, _⟩ c => Qs [] [0, 3, 7, 8] (fun z_ => Zes5 d k g_1 out b_1 c)
  (Qs [(18, .bool)] [0, 3, 7, 8] (fun z_ => Zes6 d k g_1 out b_1 c z_.1)
  Qz
  (fun ⟨x18, _⟩ => Qc (x18) (Zes5 d k g_1 out b_1 c) (Zes0 k out 0 0) Qk Qx))
  (fun _ => Qs [] [0, 3, 7, 8] (fun z_ => c ((IntKind.wrap .i64 (b_1 + 1)), ()))
  (Qb (Qs [(9, .addr), (10, .int .i64)] [0, 3, 7, 8] (fun z_ => Zes4 k out b_1 c z_.1 z_.2.1)
  Qz
  (fun ⟨h, e, _⟩ => Qs [] [0, 3, 7, 8, 9] (fun z_ => Zes1 out b_1 c h)
  (Qs [(32, .bool)] [0, 3, 7, 8, 9] (fun z_ => Zes3 k out b_1 c h z_.1)
  Qz
  (fun ⟨x32, _⟩ => Qc (x32) (Zes2 k ⟨none, 0, 0⟩ b_1 21) (Zes1 out b_1 c h) (Qs [(4, .slice), (5, .int .i64), (6, .int .i64)] [] (fun z_ => Zes2 k z_.1 z_.2.1 z_.2.2.1)
  Qz
  (fun ⟨x4_1, x5_1, x6_1, _⟩ => Qr)) Qk))
  (fun _ => Qz))))
  (fun _ => Qz))))))
  (fun _ => Qs [(4, .slice), (5, .int .i64), (6, .int .i64)] [] (fun z_ => Zes0 k z_.1 z_.2.1 z_.2.2.1)
  Qz
  (fun ⟨x4, x5, x6, _⟩ => Qr))))) hyp_
abbrev Zet0 (k : (OA → K)) (x2 : Addr) : K :=
  k (some x2)
abbrev Zet1 (limit : Int) (k : (OA → K)) : K :=
  alK (.map #[] 0) fun b =>
  alK (.map #[] 0) fun b_1 =>
  alK (.cells #[.map (some b), .map (some b_1), .int .i64 (max2I limit 0)] 242) fun b_2 =>
  Zet0 k ⟨b_2, 0, none⟩
abbrev runs_New (limit : Int) : M OA := fun k =>
  Zet1 limit k
theorem runs_New_ok (limit : Int) (k : OA → K) (w : World) (hyp_ : runs_New limit k w) : c_runs_New limit k w :=
  cl_of (P := Tryz.prog) Tryz.func221 rfl (by kernel_rfl)
  (Qs [] [0] (fun z_ => Zet1 limit k)
  Qz
  (fun _ => Qs [(2, .addr)] [] (fun z_ => Zet0 k z_.1)
  Qz
  (fun ⟨x2, _⟩ => Qr))) hyp_
abbrev Zeu0 (k : (Sl → K)) (x2 : Sl) : K :=
  k x2
abbrev Zeu1 (k : (Sl → K)) (out_1 : Sl) : K :=
  Zeu0 k out_1
abbrev Zeu2 (b_1 : Int) (c : ((Sl × Int × Unit) → K)) (out_3 : Sl) : K :=
  c (out_3, (IntKind.wrap .i64 (b_1 + 1)), ())
abbrev Zeu3 (out_2 : Sl) (b_1 : Int) (c : ((Sl × Int × Unit) → K)) : K :=
  ixS out_2.p out_2.n (IntKind.wrap .i64 (((out_2.n : Nat) : Int) - 1)) 2 fun x50 =>
  ldI .i64 (x50.add 1) fun x52 =>
  ixS out_2.p out_2.n (IntKind.wrap .i64 (((out_2.n : Nat) : Int) - 1)) 2 fun x54 =>
  stK (Addr.add (x54.add 1) 0) (.int .i64 (IntKind.wrap .i64 (x52 + 1))) <|
  Zeu2 b_1 c out_2
abbrev Zeu4 (out_2 : Sl) (b_1 : Int) (c : ((Sl × Int × Unit) → K)) : K :=
  alK (.cells #[.int .i64 b_1, .int .i64 1] 152) fun b_2 =>
  semT Tryz.prog (Builtin.append_ #[150, 150] 150 #[out_2.v, .slice (some ⟨b_2, 0, none⟩) 1 1]) (.one (.sc (.slice))) fun x15 =>
  Zeu2 b_1 c x15
abbrev Zeu5 (out_2 : Sl) (b_1 : Int) (c : ((Sl × Int × Unit) → K)) (x23 : Bool) : K :=
  brK x23
  (Zeu3 out_2 b_1 c)
  (Zeu4 out_2 b_1 c)
abbrev Zeu6 (out_2 : Sl) (b_1 : Int) (c : ((Sl × Int × Unit) → K)) : K :=
  tick fun _ =>
  brK (decide (((out_2.n : Nat) : Int) > 0))
  (ixS out_2.p out_2.n (IntKind.wrap .i64 (((out_2.n : Nat) : Int) - 1)) 2 fun x32 =>
  ldI .i64 (x32.add 0) fun x34 =>
  ixS out_2.p out_2.n (IntKind.wrap .i64 (((out_2.n : Nat) : Int) - 1)) 2 fun x39 =>
  ldI .i64 (x39.add 1) fun x41 =>
  Zeu5 out_2 b_1 c ((IntKind.wrap .i64 (x34 + x41)) == b_1))
  (Zeu5 out_2 b_1 c false)
abbrev Zeu7 (out_2 : Sl) (b_1 : Int) (c : ((Sl × Int × Unit) → K)) (x16 : Bool) : K :=
  brK x16
  (Zeu2 b_1 c out_2)
  (Zeu6 out_2 b_1 c)
abbrev Zeu8 (list : Sl) (out_2 : Sl) (b_1 : Int) (c : ((Sl × Int × Unit) → K)) : K :=
  ixS list.p list.n b_1 3 fun x19 =>
  ldI .i64 (x19.add 0) fun x21 =>
  Zeu7 out_2 b_1 c (x21 != 0)
abbrev Zeu9 (list : Sl) (k : (Sl → K)) (out_2 : Sl) (b_1 : Int) (c : ((Sl × Int × Unit) → K)) (x8 : Bool) : K :=
  brK x8
  (Zeu8 list out_2 b_1 c)
  (Zeu1 k out_2)
abbrev Zeu10 (list : Sl) (k : (Sl → K)) (out_2 : Sl) (b_1 : Int) (c : ((Sl × Int × Unit) → K)) : K :=
  Zeu9 list k out_2 b_1 c (decide (b_1 < ((list.n : Nat) : Int)))
abbrev Zeu11 (list : Sl) (k : (Sl → K)) (out : Sl) (b : Int) : K :=
  lp (fun (z_ : (Sl × Int × Unit)) c_ => Zeu10 list k z_.1 z_.2.1 c_) (out, b, ())
abbrev Zeu12 (list : Sl) (k : (Sl → K)) (out : Sl) : K :=
  Zeu11 list k out 1
abbrev blocks_Spans (list : Sl) : M Sl := fun k =>
  Zeu12 list k ⟨none, 0, 0⟩
theorem blocks_Spans_ok (list : Sl) (k : Sl → K) (w : World) (hyp_ : blocks_Spans list k w) : c_blocks_Spans list k w :=
  cl_of (P := Tryz.prog) Tryz.func222 rfl (by kernel_rfl)
  (Qs [] [0] (fun z_ => Zeu12 list k ⟨none, 0, 0⟩)
  Qz
  (fun _ => Qs [(3, .slice)] [0] (fun z_ => Zeu12 list k z_.1)
  Qz
  (fun ⟨out, _⟩ => Qs [(3, .slice)] [] (fun z_ => Zeu1 k z_.1)
  (Qs [(4, .int .i64)] [0, 3] (fun z_ => Zeu11 list k out z_.1)
  Qz
  (fun ⟨b, _⟩ => Qb (Ql [(3, .slice), (4, .int .i64)] [0] (fun (z_ : (Sl × Int × Unit)) c_ => Zeu10 list k z_.1 z_.2.1 c_) (out, b, ())
  (fun ⟨out_2, b_1, _⟩ c => Qs [] [0, 3, 4] (fun z_ => Zeu8 list out_2 b_1 c)
  (Qs [(8, .bool)] [0, 3, 4] (fun z_ => Zeu9 list k out_2 b_1 c z_.1)
  Qz
  (fun ⟨x8, _⟩ => Qc (x8) (Zeu8 list out_2 b_1 c) (Zeu1 k out_2) Qk Qx))
  (fun _ => Qs [(3, .slice)] [0, 4] (fun z_ => Zeu2 b_1 c z_.1)
  (Qb (Qb (Qs [(16, .bool)] [0, 3, 4] (fun z_ => Zeu7 out_2 b_1 c z_.1)
  Qz
  (fun ⟨x16, _⟩ => Qc (x16) (Zeu2 b_1 c out_2) (Zeu6 out_2 b_1 c) Qk (Qs [(23, .bool)] [0, 3, 4] (fun z_ => Zeu5 out_2 b_1 c z_.1)
  (RefK.draw [3] [0, 1, 3, 7, 15, 15, 47, 111, 255, 511, 1023, 15, 15, 4111, 12303, 30735, 63503, 129039, 262143, 15, 1048575, 2097151, 4194303] [0, 1, 2, 3, 4, 5, 6, 7, 8, 9, 10, 11, 12, 13, 14, 15, 16, 17, 18, 19, 20, 21, 22] [0, 1, 2, 3, 4, 5, 6, 7, 8, 9, 10, 11, 12, 13, 14, 15, 16, 17, 18, 19, 20, 21, 22] (by kernel_rfl) (by kernel_rfl))
  (fun ⟨x23, _⟩ => Qc (x23) (Zeu3 out_2 b_1 c) (Zeu4 out_2 b_1 c) Qz Qz))))))
  (fun ⟨out_3, _⟩ => Qz))))))
  (fun ⟨out_1, _⟩ => Qs [(2, .slice)] [] (fun z_ => Zeu0 k z_.1)
  Qz
  (fun ⟨x2, _⟩ => Qr))))) hyp_
end
/-- headers written from a block on -/
def wrH (c : List Int) (b : Nat) : List Hd → List Int
  | [] => c
  | x :: xs => wrH (c.set (256 + b) (benc b x)) (b + 1) xs
theorem wrH_snoc (xs : List Hd) (x : Hd) : ∀ (c : List Int) (b : Nat), wrH c b (xs ++ [x]) = (wrH c b xs).set (256 + (b + xs.length)) (benc ((b + xs.length : Nat) : Int) x) := by
  induction xs with
  | nil => intro c b; rfl
  | cons y ys ih =>
    intro c b
    show wrH (c.set (256 + b) (benc b y)) (b + 1) (ys ++ [x]) = _
    rw [ih]
    show _ = (wrH (c.set (256 + b) (benc b y)) (b + 1) ys).set _ _
    have e : b + 1 + ys.length = b + (y :: ys).length := by simp; omega
    rw [e]
theorem wrH_length (xs : List Hd) : ∀ (c : List Int) (b : Nat), (wrH c b xs).length = c.length := by
  induction xs with
  | nil => intro c b; rfl
  | cons y ys ih => intro c b; show (wrH _ _ ys).length = _; rw [ih]; simp
theorem wrH_get (xs : List Hd) : ∀ (c : List Int) (b i : Nat), (wrH c b xs)[i]? = if i < 256 + b ∨ 256 + b + xs.length ≤ i ∨ c.length ≤ i then c[i]? else (xs[i - (256 + b)]?).map (benc ((i - 256 : Nat) : Int)) := by
  induction xs with
  | nil => intro c b i; show c[i]? = _; rw [if_pos (by simp; omega)]
  | cons y ys ih =>
    intro c b i
    show (wrH (c.set (256 + b) (benc b y)) (b + 1) ys)[i]? = _
    rw [ih]
    simp only [List.length_set, List.length_cons, List.getElem?_set]
    by_cases h1 : i < 256 + b ∨ 256 + b + (ys.length + 1) ≤ i ∨ c.length ≤ i
    · rw [if_pos h1]
      split
      · by_cases e : 256 + b = i
        · rw [if_pos e, if_neg (by omega), List.getElem?_eq_none (by omega)]
        · rw [if_neg e]
      · omega
    · rw [if_neg h1]
      by_cases h2 : i = 256 + b
      · subst h2
        rw [if_pos (by omega), if_pos rfl, if_pos (by omega)]
        simp
      · rw [if_neg (by omega)]
        rw [show i - (256 + b) = (i - (256 + (b + 1))) + 1 by omega, List.getElem?_cons_succ]
section
variable {B : World} {P R : SL} {t : K}
theorem blocks_Format_c {d n : Nat} {g : Nat} {c la : List Int} (hg : 2 ≤ g) (hg2 : g ≤ 2 ^ 20) (hn : n = 64 * g) {k : Int → K}
    (hk : ∀ la', Pst n ((257 : Int) / 8).toNat (((257 : Int) + (g - 1) - 1) / 8 + 1).toNat (wrH c 1 (List.replicate (g - 1) (0, 0, 0))) la la' → T B (R * LDev d n (wrH c 1 (List.replicate (g - 1) (0, 0, 0))) la') (k 0)) : T B (R * LDev d n c la) (c_blocks_Format (da d) g k) := by
  refine T_of (blocks_Format_ok _ g k) ?_
  (repeat ((with_reducible refine T_al ?_; intro _)))
  rename_i b
  refine T_lpX (fun _ s => R * LDev d n (wrH c 1 (List.replicate (s.1.toNat - 1) (0, 0, 0))) la * pt b (.cells [.int .i64 g].toArray 43))
    (fun m (s : Int × Unit) => ∃ i : Nat, 1 ≤ i ∧ i ≤ g ∧ s.1 = i ∧ m = g - i) (g - 1) rfl ⟨1, by omega, by omega, rfl, rfl⟩ ?_
  rintro m ⟨s1, u⟩ cc ⟨i, h1, h2, h3, h4⟩ hc
  simp only at h3
  subst h3 h4
  simp only [Int.toNat_natCast]
  (repeat' (first | with_reducible refine T_tick ?_ | ((with_reducible apply T_ldI); (focus rfl); (focus exact hasA); (focus rfl)) | with_reducible refine T_brD (fun _ => ?_) (fun _ => ?_)))
  · rename_i hlt
    refine geom_Header_c (by omega) ?_
    have hh : header g i = 256 + i := by unfold header; rw [if_neg (by omega)]
    rw [hh]
    refine bhead_Encode_c (by omega) (by omega) ?_
    refine T_bring (X := LDev d n (wrH c 1 (List.replicate (i - 1) (0, 0, 0))) la) (.init .last) ?_
    refine LStore_c (by omega) (by omega) ?_
    (repeat' (with_reducible refine T_brNE (fun _ => ?_) (fun _ => ?_)))
    · rename_i hx; exact absurd rfl hx
    · refine T.perm ?_ (hc (g - (i + 1)) (IntKind.wrap .i64 ((i : Int) + 1), ()) (by omega) ⟨i + 1, by omega, by omega, w64 (by omega) (by omega), rfl⟩)
      have e : (IntKind.wrap .i64 ((i : Int) + 1)).toNat = i + 1 := by rw [w64 (by omega) (by omega)]; omega
      simp only [e]
      have e2 : List.replicate (i + 1 - 1) ((0, 0, 0) : Hd) = List.replicate (i - 1) (0, 0, 0) ++ [(0, 0, 0)] := by
        rw [← List.replicate_succ']; congr 1; omega
      rw [e2, wrH_snoc]
      have e3 : 256 + (1 + (List.replicate (i - 1) ((0, 0, 0) : Hd)).length) = (256 + (i : Int)).toNat := by simp; omega
      have e4 : ((1 + (List.replicate (i - 1) ((0, 0, 0) : Hd)).length : Nat) : Int) = i := by simp; omega
      rw [e3, e4]
      ac_rfl
  · rename_i hge
    have : i = g := by omega
    subst this
    refine geom_Header_c (by omega) ?_
    have hh : header i 1 = 257 := by unfold header; rw [if_neg (by omega)]; rfl
    rw [hh]
    (repeat (first | with_reducible refine T_chk0 ?_ | ((with_reducible apply T_chk); (focus rfl); (focus exact hasA); (focus rfl))))
    rw [w64 (by omega) (by omega)]
    refine T_bring (X := LDev d n (wrH c 1 (List.replicate (i - 1) (0, 0, 0))) la) (.init .last) ?_
    refine LPersist_c (by omega) (by omega) (by omega) fun la' hp => ?_
    have := (hk la' hp).weak (Q := pt b (.cells [.int .i64 i].toArray 43))
    refine T.perm ?_ this
    ac_rfl
end
/-- a device's words tell these headers -/
def Tells (c : List Int) (hs : List Hd) : Prop := hs[0]? = some (0, 0, 0) ∧ ∀ b : Nat, 1 ≤ b → ∀ h, hs[b]? = some h → bdec b (getI c (256 + b)) = (h, 0)
def Tab (t d : Nat) (g : Int) (hs : List Hd) : SL := ex fun s : Sl => vec 143 3 s (hds hs) * pt t (.cells [.pointer (da d), .int .i64 g, s.v].toArray 125)
section
variable {B : World} {P R : SL} {t : K}
theorem T_drop1 {X : SL} (h : Frm P X R) (ht : T B R t) : T B P t := by unfold Frm at h; subst h; exact ht.weak
theorem Tab_open {a d : Nat} {g : Int} {hs : List Hd} (h : ∀ s : Sl, T B (R * vec 143 3 s (hds hs) * pt a (.cells [.pointer (da d), .int .i64 g, s.v].toArray 125)) t) : T B (R * Tab a d g hs) t := by
  refine T_ex fun q => T.perm ?_ (h q)
  simp only [sep_assoc]
theorem Tab_close {a d : Nat} {g : Int} {hs : List Hd} {s : Sl} (h : T B (R * Tab a d g hs) t) : T B (R * vec 143 3 s (hds hs) * pt a (.cells [.pointer (da d), .int .i64 g, s.v].toArray 125)) t := by
  refine T.perm ?_ (T_exI s h)
  simp only [sep_assoc]
theorem blocks_Read_c {d n g : Nat} {c la : List Int} {hs : List Hd} (hg : 1 ≤ g) (hg2 : g ≤ 2 ^ 20) (hl : hs.length = g) (ht : Tells c hs) {k : Sl × (Int × Int) → K}
    (hk : ∀ s, T B (R * LDev d n c la * vec 143 3 s (hds hs)) (k (s, (0, 0)))) : T B (R * LDev d n c la) (c_blocks_Read (da d) g k) := by
  refine T_of (blocks_Read_ok _ g k) ?_
  (repeat (first | ((with_reducible apply T_ldI); (focus rfl); (focus exact hasA); (focus rfl)) | (with_reducible refine T_al ?_; intro _)))
  rename_i b4
  have em : max2I 0 (g : Int) = g := by unfold max2I; rw [if_pos (by omega)]
  rw [em]
  refine T_mkV kd_hd (by omega) (by omega) (by omega) fun b => ?_
  rw [Int.toNat_natCast, repZ_hds]
  have e0 : List.replicate g ((0, 0, 0) : Hd) = hs.take 1 ++ List.replicate (g - 1) (0, 0, 0) := by
    obtain ⟨x, xs, rfl⟩ := List.exists_cons_of_length_pos (l := hs) (by omega)
    have := ht.1
    simp only [List.getElem?_cons_zero, Option.some.injEq] at this
    subst this
    rw [show g = (g - 1) + 1 by omega, List.replicate_succ]; simp
  rw [e0]
  refine T_lpX (fun _ s => R * LDev d n c la * pt b4 (.cells [.int .i64 g].toArray 43) * vec 143 3 ⟨some ⟨b, 0, none⟩, g, g⟩ (hds (hs.take s.1.toNat ++ List.replicate (g - s.1.toNat) (0, 0, 0))))
    (fun m (s : Int × Unit) => ∃ i : Nat, 1 ≤ i ∧ i ≤ g ∧ s.1 = i ∧ m = g - i) (g - 1) rfl ⟨1, by omega, by omega, rfl, rfl⟩ ?_
  rintro m ⟨s1, u⟩ cc ⟨i, h1, h2, h3, h4⟩ hc
  simp only at h3
  subst h3 h4
  simp only [Int.toNat_natCast]
  (repeat' (first | ((with_reducible apply T_ldI); (focus rfl); (focus exact hasA); (focus rfl)) | with_reducible refine T_brD (fun _ => ?_) (fun _ => ?_)))
  · rename_i hlt
    have hlt' : i < hs.length := by omega
    refine geom_Header_c (by omega) ?_
    have hh : header g i = 256 + i := by unfold header; rw [if_neg (by omega)]
    rw [hh]
    refine T_bring (X := LDev d n c la) (.init (.init .last)) ?_
    refine LGet_c ?_
    refine bhead_Decode_c (by omega) (by omega) ?_
    rw [ht.2 i h1 hs[i] (List.getElem?_eq_getElem hlt')]
    (repeat' (first | ((with_reducible apply T_ldI); (focus rfl); (focus exact hasA); (focus rfl)) | (with_reducible refine T_al ?_; intro _) | ((with_reducible apply T_st); (focus rfl); (focus exact updA); (focus simp); simp only [List.set, Nat.zero_add, Nat.reduceAdd]) | with_reducible refine T_brNE (fun _ => ?_) (fun _ => ?_)))
    · rename_i hx; exact absurd rfl hx
    · refine T_stH (i := i) (x := hs[i]) (s := ⟨some ⟨b, 0, none⟩, g, g⟩) (l := hs.take i ++ List.replicate (g - i) (0, 0, 0)) (.init (.init .last)) (by omega) (by simp; omega) ?_
      have hx := hc (g - (i + 1)) (IntKind.wrap .i64 ((i : Int) + 1), ()) (by omega) ⟨i + 1, by omega, by omega, w64 (by omega) (by omega), rfl⟩
      have e : (IntKind.wrap .i64 ((i : Int) + 1)).toNat = i + 1 := by rw [w64 (by omega) (by omega)]; omega
      simp only [e] at hx
      have e2 : (hs.take i ++ List.replicate (g - i) ((0, 0, 0) : Hd)).set (i : Int).toNat hs[i] = hs.take (i + 1) ++ List.replicate (g - (i + 1)) (0, 0, 0) := by
        rw [Int.toNat_natCast, List.set_append_right _ _ (by simp; omega), List.take_succ_eq_append_getElem hlt']
        have e5 : i - (hs.take i).length = 0 := by simp; omega
        rw [e5, show g - i = (g - (i + 1)) + 1 by omega, List.replicate_succ, List.set_cons_zero, List.append_assoc]; rfl
      rw [e2]
      refine T_drop1 (.init .last) ?_
      refine T.perm ?_ hx
      ac_rfl
  · rename_i hge
    have : i = g := by omega
    subst this
    simp only [Nat.sub_self, List.replicate_zero, List.append_nil]
    rw [List.take_of_length_le (by omega)]
    refine T_drop1 (.init .last) ?_
    exact hk ⟨some ⟨b, 0, none⟩, i, i⟩
theorem blocks_Open_c {d n g : Nat} {c la : List Int} {hs : List Hd} (hg : 1 ≤ g) (hg2 : g ≤ 2 ^ 20) (hl : hs.length = g) (ht : Tells c hs) {k : Option Addr × Int → K}
    (hk : ∀ a, T B (R * LDev d n c la * Tab a d g hs) (k (da a, 0))) : T B (R * LDev d n c la) (c_blocks_Open (da d) g k) := by
  refine T_of (blocks_Open_ok _ g k) ?_
  (repeat (first | ((with_reducible apply T_ldI); (focus rfl); (focus exact hasA); (focus rfl)) | (with_reducible refine T_al ?_; intro _)))
  rename_i b1
  refine T_bring (X := LDev d n c la) (.init .last) ?_
  refine blocks_Read_c hg hg2 hl ht fun s => ?_
  (repeat' (first | ((with_reducible apply T_ldI); (focus rfl); (focus exact hasA); (focus rfl)) | (with_reducible refine T_al ?_; intro _) | with_reducible refine T_brNE (fun _ => ?_) (fun _ => ?_)))
  · rename_i hx; exact absurd rfl hx
  · rename_i b
    refine Tab_close ?_
    refine T_drop1 (.init (.init .last)) ?_
    exact hk b
theorem blocks_Len_c {a d : Nat} {g : Int} {hs : List Hd} {k : Int → K} (hk : T B (R * Tab a d g hs) (k hs.length)) : T B (R * Tab a d g hs) (c_blocks_Table_Len (da a) k) := by
  refine T_of (blocks_Table_Len_ok _ k) ?_
  unfold da
  refine Tab_open fun s => ?_
  (repeat (first | with_reducible refine T_nn ?_ | ((with_reducible apply T_ldS); (focus rfl); (focus exact hasA); (focus rfl))))
  refine T_vlen (E := 143) (sz := 3) (s := s) (vs := hds hs) (.init .last) fun hn => ?_
  rw [hds_len] at hn
  have : s.n = hs.length := by omega
  rw [this]
  exact Tab_close hk
theorem blocks_Get_c {a d : Nat} {g : Int} {hs : List Hd} {b : Int} {k : Hd → K} (hk : T B (R * Tab a d g hs) (k (if b < 1 then (0, 0, 0) else hs.getD b.toNat (0, 0, 0)))) : T B (R * Tab a d g hs) (c_blocks_Table_Get (da a) b k) := by
  refine T_of (blocks_Table_Get_ok _ b k) ?_
  unfold da
  (repeat' (first | with_reducible refine T_nn ?_ | with_reducible refine T_brT ?_ | ((with_reducible apply T_ldI); (focus rfl); (focus exact hasA); (focus rfl)) | (with_reducible refine T_al ?_; intro _) | ((with_reducible apply T_st); (focus rfl); (focus exact updA); (focus simp); simp only [List.set, Nat.zero_add, Nat.reduceAdd]) | with_reducible refine T_brD (fun _ => ?_) (fun _ => ?_)))
  · rename_i h
    rw [if_pos h] at hk
    skip
    refine T_drop1 .last ?_
    exact hk
  · rename_i bb h
    rw [if_neg h] at hk
    refine T_bring (X := Tab a d g hs) (.init .last) ?_
    refine Tab_open fun s => ?_
    (repeat (((with_reducible apply T_ldS); (focus rfl); (focus exact hasA); (focus rfl))))
    refine T_vlen (E := 143) (sz := 3) (s := s) (vs := hds hs) (.init .last) fun hn => ?_
    rw [hds_len] at hn
    (repeat' (first | with_reducible refine T_nn ?_ | ((with_reducible apply T_ldI); (focus rfl); (focus exact hasA); (focus rfl)) | ((with_reducible apply T_ldS); (focus rfl); (focus exact hasA); (focus rfl)) | ((with_reducible apply T_st); (focus rfl); (focus exact updA); (focus simp); simp only [List.set, Nat.zero_add, Nat.reduceAdd]) | with_reducible refine T_brD (fun _ => ?_) (fun _ => ?_)))
    · rename_i h2
      rw [List.getD_eq_getElem?_getD, List.getElem?_eq_none (by omega)] at hk
      refine Tab_close ?_
      refine T_drop1 (.init .last) ?_
      exact hk
    · rename_i h2
      have hlt : b.toNat < hs.length := by omega
      rw [List.getD_eq_getElem?_getD, List.getElem?_eq_getElem hlt] at hk
      refine T_ixH (l := hs) (Rd.vec (E := 143) (s := s) (.init .last)) (by omega) hlt fun x hx => ?_
      refine T_ldAt hx rfl ?_
      refine T_ldAt hx rfl ?_
      refine T_ldAt hx rfl ?_
      (repeat (first | ((with_reducible apply T_ldI); (focus rfl); (focus exact hasA); (focus rfl)) | ((with_reducible apply T_st); (focus rfl); (focus exact updA); (focus simp); simp only [List.set, Nat.zero_add, Nat.reduceAdd])))
      refine T_drop1 (.init (.init .last)) ?_
      exact Tab_close hk
theorem blocks_All_c {a d : Nat} {g : Int} {hs : List Hd} (hl : hs.length ≤ 2 ^ 30) {k : Sl → K} (hk : ∀ s, T B (R * Tab a d g hs * vec 143 3 s (hds hs)) (k s)) : T B (R * Tab a d g hs) (c_blocks_Table_All (da a) k) := by
  refine T_of (blocks_Table_All_ok _ k) ?_
  unfold da
  refine Tab_open fun s => ?_
  (repeat (first | with_reducible refine T_nn ?_ | ((with_reducible apply T_ldS); (focus rfl); (focus exact hasA); (focus rfl)) | (with_reducible refine T_al ?_; intro _)))
  rename_i b
  refine T_vlen (E := 143) (sz := 3) (s := s) (vs := hds hs) (.init (.init .last)) fun hn => ?_
  rw [hds_len] at hn
  refine T_vecN (E := 143) (sz := 3) (s := ⟨some ⟨b, 0, none⟩, 0, 0⟩) rfl rfl ?_
  refine T_append (s := ⟨some ⟨b, 0, none⟩, 0, 0⟩) kd_hd (Rd.vec (E := 143) (s := s) (.init (.init .last))) (hds_scal hs) (by simp; omega) fun s' => ?_
  rw [List.nil_append]
  refine T_drop1 (.init .last) ?_
  have := hk s'
  refine T_bring (X := vec 143 3 s (hds hs)) (.init (.init .last)) ?_
  refine T_bring (X := pt a (.cells [.pointer (da d), .int .i64 g, s.v].toArray 125)) (.init (.init .last)) ?_
  refine Tab_close ?_
  refine T.perm ?_ this
  ac_rfl
end
theorem splice_snoc {α : Type} {l new : List α} {o : Nat} {x : α} (h : o + new.length < l.length) : splice l o (new ++ [x]) = (splice l o new).set (o + new.length) x := by
  unfold splice
  have e : (l.take o ++ new).length = o + new.length := by simp; omega
  rw [List.set_append_right _ _ (by omega), e, Nat.sub_self, List.drop_eq_getElem_cons h, List.set_cons_zero]
  simp [Nat.add_assoc]
section
variable {B : World} {P R : SL} {t : K}
theorem blocks_Put_c {a d n g b : Nat} {c la : List Int} {hs xs : List Hd} {x : Sl} (hg : 2 ≤ g) (hg2 : g ≤ 2 ^ 20) (hn : n = 64 * g) (hl : hs.length = g) (hb : 1 ≤ b) (hbx : b + xs.length ≤ g) (hne : xs ≠ []) (hr : ∀ h ∈ xs, hRight h)
    (hx : Rd R x 3 (hds xs)) {k : Int → K}
    (hk : ∀ la', Pst n ((256 + (b : Int)) / 8).toNat (((256 + (b : Int)) + xs.length - 1) / 8 + 1).toNat (wrH c b xs) la la' → T B (R * LDev d n (wrH c b xs) la' * Tab a d g (splice hs b xs)) (k 0)) :
    T B (R * LDev d n c la * Tab a d g hs) (c_blocks_Table_Put (da a) b x k) := by
  refine T_of (blocks_Table_Put_ok _ b x k) ?_
  refine T_rdlen (hx.init.init) fun hxn => ?_
  rw [hds_len] at hxn
  have hxn' : x.n = xs.length := by omega
  have hpos : 0 < xs.length := List.length_pos_iff.2 hne
  unfold da
  (repeat' (first | with_reducible refine T_nn ?_ | with_reducible refine T_brT ?_ | with_reducible refine T_brD (fun _ => ?_) (fun _ => ?_)))
  · exfalso; omega
  refine Tab_open fun s => ?_
  (repeat (((with_reducible apply T_ldS); (focus rfl); (focus exact hasA); (focus rfl))))
  refine T_vlen (E := 143) (sz := 3) (s := s) (vs := hds hs) (.init .last) fun hsn => ?_
  rw [hds_len] at hsn
  (repeat' (first | with_reducible refine T_nn ?_ | with_reducible refine T_brT ?_ | ((with_reducible apply T_ldS); (focus rfl); (focus exact hasA); (focus rfl)) | with_reducible refine T_brD (fun _ => ?_) (fun _ => ?_)))
  · exfalso; omega
  · rename_i h; exfalso; rw [w64 (by omega) (by omega)] at h; omega
  refine Tab_close ?_
  refine T_lpX (fun _ s => R * LDev d n c la * Tab a d g hs) (fun m (s : Int × Unit) => ∃ i : Nat, i ≤ xs.length ∧ s.1 = i ∧ m = xs.length - i) xs.length rfl ⟨0, by omega, rfl, by omega⟩ ?_
  rintro m ⟨s1, u⟩ cc ⟨i, h1, h2, h3⟩ hc
  simp only at h2
  subst h2 h3
  (repeat' (first | with_reducible refine T_brD (fun _ => ?_) (fun _ => ?_) | with_reducible refine T_brE (fun _ => ?_) (fun _ => ?_)))
  · rename_i hlt
    have hlt' : i < xs.length := by omega
    refine T_ixH (l := xs) hx.init.init (by omega) (by rw [Int.toNat_natCast]; exact hlt') fun y hy => ?_
    refine T_ldAt hy rfl ?_
    refine T_ldAt hy rfl ?_
    refine T_ldAt hy rfl ?_
    (repeat (first | ((with_reducible apply T_ldI); (focus rfl); (focus exact hasA); (focus rfl)) | (with_reducible refine T_al ?_; intro _) | ((with_reducible apply T_st); (focus rfl); (focus exact updA); (focus simp); simp only [List.set, Nat.zero_add, Nat.reduceAdd])))
    refine bhead_Right_c ?_
    have hrx : hRight (xs[i].1, xs[i].2.1, xs[i].2.2) := hr xs[i] (List.getElem_mem hlt')
    (repeat' (first | with_reducible refine T_brD (fun _ => ?_) (fun _ => ?_) | with_reducible refine T_brN ?_))
    · refine T_drop1 .last ?_
      exact hc (xs.length - (i + 1)) (IntKind.wrap .i64 ((i : Int) + 1), ()) (by omega) ⟨i + 1, by omega, w64 (by omega) (by omega), rfl⟩
    · rename_i h; exact absurd hrx h
  · exfalso; omega
  clear hc
  refine T_lpX (fun _ s => R * LDev d n (wrH c b (xs.take s.1.toNat)) la * Tab a d g (splice hs b (xs.take s.1.toNat))) (fun m (s : Int × Unit) => ∃ i : Nat, i ≤ xs.length ∧ s.1 = i ∧ m = xs.length - i) xs.length (by simp [wrH, splice_nil, splice]) ⟨0, by omega, rfl, by omega⟩ ?_
  rintro m ⟨s1, u⟩ cc ⟨i, h1, h2, h3⟩ hc
  simp only at h2
  subst h2 h3
  simp only [Int.toNat_natCast]
  (repeat' (first | with_reducible refine T_nn ?_ | with_reducible refine T_tick ?_ | with_reducible refine T_brD (fun _ => ?_) (fun _ => ?_)))
  · rename_i hlt
    have hlt' : i < xs.length := by omega
    refine T_ixH (l := xs) hx.init.init (by omega) (by rw [Int.toNat_natCast]; exact hlt') fun y hy => ?_
    refine T_ldAt hy rfl ?_
    refine T_ldAt hy rfl ?_
    refine T_ldAt hy rfl ?_
    (repeat (first | with_reducible refine T_nn ?_ | with_reducible refine T_tick ?_ | (with_reducible refine T_al ?_; intro _) | ((with_reducible apply T_st); (focus rfl); (focus exact updA); (focus simp); simp only [List.set, Nat.zero_add, Nat.reduceAdd])))
    rename_i bb
    refine T_bring (X := Tab a d g (splice hs b (xs.take i))) (.init .last) ?_
    refine Tab_open fun s => ?_
    (repeat (first | with_reducible refine T_nn ?_ | ((with_reducible apply T_ldI); (focus rfl); (focus exact hasA); (focus rfl)) | ((with_reducible apply T_ldP); (focus rfl); (focus exact hasA); (focus rfl))))
    have e1 : IntKind.wrap .i64 ((b : Int) + i) = ((b + i : Nat) : Int) := by rw [w64 (by omega) (by omega)]; omega
    simp only [Int.toNat_natCast]
    (dsimp only [blocks_Table_Put, Zdr0, Zdr1, Zdr2, Zdr3, Zdr4, Zdr5, Zdr6, Zdr7, Zdr8, Zdr9, Zdr10, Zdr11, Zdr12, Zdr13, Zdr14, Zdr15, Zdr16, Zdr17, Zdr18, Zdr19, Zdr20, Zdr21, Zdr22])
    rw [e1]
    refine geom_Header_c (by omega) ?_
    have hh : header g ((b + i : Nat) : Int) = 256 + (b + i : Nat) := by unfold header; rw [if_neg (by omega)]
    rw [hh]
    (repeat (first | with_reducible refine T_chk0 ?_ | ((with_reducible apply T_chk); (focus rfl); (focus exact hasA); (focus rfl))))
    refine bhead_Encode_c (by omega) (by omega) ?_
    (repeat (first | with_reducible refine T_chk0 ?_ | ((with_reducible apply T_chk); (focus rfl); (focus exact hasA); (focus rfl))))
    refine T_bring (X := LDev d n (wrH c b (xs.take i)) la) (.init (.init (.init .last))) ?_
    refine LStore_c (by omega) (by omega) ?_
    (repeat' (first | with_reducible refine T_nn ?_ | with_reducible refine T_tick ?_ | ((with_reducible apply T_ldI); (focus rfl); (focus exact hasA); (focus rfl)) | ((with_reducible apply T_ldS); (focus rfl); (focus exact hasA); (focus rfl)) | with_reducible refine T_brNE (fun _ => ?_) (fun _ => ?_)))
    · rename_i h; exact absurd rfl h
    refine T_stH (i := ((b + i : Nat) : Int)) (x := xs[i]) (s := s) (l := splice hs b (xs.take i)) (.init (.init .last)) (by omega) (by rw [splice_length (by simp; omega)]; omega) ?_
    have hx' := hc (xs.length - (i + 1)) (IntKind.wrap .i64 ((i : Int) + 1), ()) (by omega) ⟨i + 1, by omega, w64 (by omega) (by omega), rfl⟩
    have e : (IntKind.wrap .i64 ((i : Int) + 1)).toNat = i + 1 := by rw [w64 (by omega) (by omega)]; omega
    simp only [e] at hx'
    rw [List.take_succ_eq_append_getElem hlt', wrH_snoc] at hx'
    have e2 : (xs.take i).length = i := by simp; omega
    rw [e2] at hx'
    have e3 : (256 + ((b + i : Nat) : Int)).toNat = 256 + (b + i) := by omega
    have e4 : (splice hs b (xs.take i)).set ((b + i : Nat) : Int).toNat xs[i] = splice hs b (xs.take i ++ [xs[i]]) := by
      rw [Int.toNat_natCast, splice_snoc (by omega), e2]
    rw [e3, e4]
    refine T_drop1 (.init (.init (.init .last))) ?_
    refine T.perm ?_ (Tab_close (R := R * LDev d n ((wrH c b (xs.take i)).set (256 + (b + i)) (benc ((b + i : Nat) : Int) xs[i])) la) (s := s) hx')
    ac_rfl
  · rename_i hge
    have hi : i = xs.length := by omega
    subst hi
    rw [List.take_length]
    refine Tab_open fun s => ?_
    (repeat (first | with_reducible refine T_nn ?_ | ((with_reducible apply T_ldI); (focus rfl); (focus exact hasA); (focus rfl)) | ((with_reducible apply T_ldP); (focus rfl); (focus exact hasA); (focus rfl))))
    refine geom_Header_c (by omega) ?_
    have hh : header g (b : Int) = 256 + b := by unfold header; rw [if_neg (by omega)]
    rw [hh]
    (repeat (first | with_reducible refine T_chk0 ?_ | ((with_reducible apply T_chk); (focus rfl); (focus exact hasA); (focus rfl))))
    refine T_bring (X := LDev d n (wrH c b xs) la) (.init (.init .last)) ?_
    rw [hxn']
    refine LPersist_c (by omega) (by omega) (by omega) fun la' hp => ?_
    refine T.perm ?_ (Tab_close (s := s) (hk la' hp))
    ac_rfl
end
abbrev Pr := Int × Int
def spStep (out : List Pr) (b : Nat) (h : Hd) : List Pr :=
  if h.1 ≠ 0 then out else if 0 < out.length ∧ (out.getD (out.length - 1) (0, 0)).1 + (out.getD (out.length - 1) (0, 0)).2 = b then out.set (out.length - 1) ((out.getD (out.length - 1) (0, 0)).1, (out.getD (out.length - 1) (0, 0)).2 + 1) else out ++ [((b : Int), 1)]
/-- spans of the blocks from 1 up to one -/
def spS (hs : List Hd) : Nat → List Pr
  | 0 => []
  | 1 => []
  | b + 2 => spStep (spS hs (b + 1)) (b + 1) (hs.getD (b + 1) (0, 0, 0))
theorem spS_succ (hs : List Hd) {b : Nat} (h : 1 ≤ b) : spS hs (b + 1) = spStep (spS hs b) b (hs.getD b (0, 0, 0)) := by
  obtain ⟨c, rfl⟩ : ∃ c, b = c + 1 := ⟨b - 1, by omega⟩
  rfl
theorem getD_mem {α : Type} {l : List α} {i : Nat} {d : α} (h : i < l.length) : l.getD i d ∈ l := by
  rw [List.getD_eq_getElem?_getD, List.getElem?_eq_getElem h]; exact List.getElem_mem h
theorem spS_rng (hs : List Hd) : ∀ b, 1 ≤ b → (spS hs b).length ≤ b - 1 ∧ ∀ p ∈ spS hs b, 1 ≤ p.1 ∧ 1 ≤ p.2 ∧ p.1 + p.2 ≤ b := by
  intro b hb
  induction b with
  | zero => omega
  | succ b ih =>
    by_cases h1 : b = 0
    · subst h1; exact ⟨by simp [spS], fun p hp => by simp [spS] at hp⟩
    · obtain ⟨i1, i2⟩ := ih (by omega)
      rw [spS_succ hs (by omega)]
      unfold spStep
      split
      · exact ⟨by omega, fun p hp => by have := i2 p hp; omega⟩
      · split
        · rename_i hc
          have hm := i2 _ (getD_mem (d := (0, 0)) (show (spS hs b).length - 1 < (spS hs b).length by omega))
          refine ⟨by rw [List.length_set]; omega, fun p hp => ?_⟩
          rcases List.mem_or_eq_of_mem_set hp with hp | rfl
          · have := i2 p hp; omega
          · simp only; omega
        · refine ⟨by simp; omega, fun p hp => ?_⟩
          rcases List.mem_append.1 hp with hp | hp
          · have := i2 p hp; omega
          · simp only [List.mem_singleton] at hp; subst hp; simp only; omega
section
variable {B : World} {P R : SL} {t : K}
theorem T_app1b {Pg : Program} {Tid E : TypeId} {sz ty b : Nat} (hK : Kd Pg Tid E sz) {s : Sl} {vs new : List Value} {k : Sl → K} {E' : TypeId} (hn : new.length = sz) (hsc : new.all scal = true)
    (hlen : vs.length / sz + 1 ≤ 2 ^ 40) (hk : ∀ s', T B (R * vec E sz s' (vs ++ new)) (k s')) :
    T B (R * vec E sz s vs * pt b (.cells new.toArray E')) (semT Pg (Builtin.append_ #[Tid, Tid] ty #[s.v, .slice (some ⟨b, 0, none⟩) 1 1]) (.one (.sc .slice)) k) := by
  refine T_bring (X := vec E sz s vs) (.init .last) ?_
  refine T_append (x := ⟨some ⟨b, 0, none⟩, 1, 1⟩) (new := new) hK (Rd.one Has.last (by rw [hn]; simp) (Nat.le_refl _)) hsc hlen fun s' => ?_
  exact T_dropM (hk s')
theorem blocks_Spans_c {hs : List Hd} {x : Sl} (hl : 1 ≤ hs.length) (hl2 : hs.length ≤ 2 ^ 20) (hx : Rd R x 3 (hds hs)) {k : Sl → K} (hk : ∀ s, T B (R * vec 152 2 s (prs (spS hs hs.length))) (k s)) : T B R (c_blocks_Spans x k) := by
  refine T_of (blocks_Spans_ok x k) ?_
  refine T_rdlen hx fun hxn => ?_
  rw [hds_len] at hxn
  refine T_vecN (E := 152) (sz := 2) (s := ⟨none, 0, 0⟩) rfl rfl ?_
  refine T_lpX (fun _ s => R * vec 152 2 s.1 (prs (spS hs s.2.1.toNat))) (fun m (s : Sl × Int × Unit) => ∃ i : Nat, 1 ≤ i ∧ i ≤ hs.length ∧ s.2.1 = i ∧ m = hs.length - i) (hs.length - 1) rfl ⟨1, by omega, by omega, rfl, rfl⟩ ?_
  rintro m ⟨out, s1, u⟩ cc ⟨i, h0, h1, h2, h3⟩ hc
  simp only at h2
  subst h2 h3
  simp only [Int.toNat_natCast]
  refine T_vlen .last fun hout => ?_
  rw [prs_len] at hout
  obtain ⟨r1, r2⟩ := spS_rng hs i h0
  (repeat' (with_reducible refine T_brD (fun _ => ?_) (fun _ => ?_)))
  · rename_i hlt
    have hlt' : i < hs.length := by omega
    have hnext : ∀ s', T B (R * vec 152 2 s' (prs (spStep (spS hs i) i hs[i]))) (cc (s', IntKind.wrap .i64 ((i : Int) + 1), ())) := by
      intro s'
      have := hc (hs.length - (i + 1)) (s', IntKind.wrap .i64 ((i : Int) + 1), ()) (by omega) ⟨i + 1, by omega, by omega, w64 (by omega) (by omega), rfl⟩
      have e : (IntKind.wrap .i64 ((i : Int) + 1)).toNat = i + 1 := by rw [w64 (by omega) (by omega)]; omega
      simp only [e] at this
      rw [spS_succ hs h0, List.getD_eq_getElem?_getD, List.getElem?_eq_getElem hlt'] at this
      exact this
    refine T_ixH (l := hs) hx.init (by omega) (by rw [Int.toNat_natCast]; exact hlt') fun y hy => ?_
    refine T_ldAt hy rfl ?_
    simp only [Int.toNat_natCast]
    generalize spS hs i = o at *
    unfold spStep at hnext
    (repeat' (first | with_reducible refine T_tick ?_ | with_reducible refine T_brF ?_ | (with_reducible refine T_al ?_; intro _) | with_reducible refine T_brD (fun _ => ?_) (fun _ => ?_) | with_reducible refine T_brNE (fun _ => ?_) (fun _ => ?_)))
    · rename_i hne
      rw [if_pos hne] at hnext
      exact hnext out
    · rename_i heq hpos
      rw [if_neg (by omega)] at hnext
      have hol : 0 < o.length := by omega
      have hix : o.length - 1 < o.length := by omega
      have e1 : IntKind.wrap .i64 (((out.n : Nat) : Int) - 1) = ((o.length - 1 : Nat) : Int) := by rw [w64 (by omega) (by omega)]; omega
      (dsimp only [blocks_Spans, Zeu0, Zeu1, Zeu2, Zeu3, Zeu4, Zeu5, Zeu6, Zeu7, Zeu8, Zeu9, Zeu10, Zeu11, Zeu12])
      rw [e1]
      have hm := r2 _ (List.getElem_mem hix)
      rw [List.getD_eq_getElem?_getD, List.getElem?_eq_getElem hix, Option.getD_some] at hnext
      refine T_ixP (l := o) (Rd.vec .last) (by omega) (by rw [Int.toNat_natCast]; exact hix) fun z hz => ?_
      simp only [Int.toNat_natCast] at hz
      refine T_ldAt hz rfl ?_
      refine T_ixP (l := o) (Rd.vec .last) (by omega) (by rw [Int.toNat_natCast]; exact hix) fun z2 hz2 => ?_
      simp only [Int.toNat_natCast] at hz2
      refine T_ldAt hz2 rfl ?_
      rw [w64 (by omega) (by omega)]
      (repeat' (first | (with_reducible refine T_al ?_; intro _) | with_reducible refine T_brE (fun _ => ?_) (fun _ => ?_)))
      · rename_i hj
        rw [if_pos ⟨hol, hj⟩] at hnext
        refine T_ixP (l := o) (Rd.vec .last) (by omega) (by rw [Int.toNat_natCast]; exact hix) fun z3 hz3 => ?_
        simp only [Int.toNat_natCast] at hz3
        refine T_ldAt hz3 rfl ?_
        rw [w64 (by omega) (by omega)]
        refine T_stP1 (l := o) .last (by omega) (by rw [Int.toNat_natCast]; exact hix) ?_
        simp only [Int.toNat_natCast]
        exact hnext out
      · rename_i hj _
        rw [if_neg (fun h => hj h.2)] at hnext
        refine T_app1b (vs := prs o) (new := [.int .i64 i, .int .i64 1]) kd_sp rfl rfl (by rw [prs_len]; omega) fun s' => ?_
        have := hnext s'
        rw [prs_append] at this
        exact this
    · rename_i heq hpos _
      rw [if_neg (by omega), if_neg (by omega)] at hnext
      refine T_app1b (vs := prs o) (new := [.int .i64 i, .int .i64 1]) kd_sp rfl rfl (by rw [prs_len]; omega) fun s' => ?_
      have := hnext s'
      rw [prs_append] at this
      exact this
  · rename_i hge
    have hi : i = hs.length := by omega
    subst hi
    exact hk out
theorem blocks_TSpans_c {a d : Nat} {g : Int} {hs : List Hd} (hl : 1 ≤ hs.length) (hl2 : hs.length ≤ 2 ^ 20) {k : Sl → K} (hk : ∀ s, T B (R * Tab a d g hs * vec 152 2 s (prs (spS hs hs.length))) (k s)) : T B (R * Tab a d g hs) (c_blocks_Table_Spans (da a) k) := by
  refine T_of (blocks_Table_Spans_ok _ k) ?_
  unfold da
  refine Tab_open fun s => ?_
  (repeat (first | with_reducible refine T_nn ?_ | ((with_reducible apply T_ldS); (focus rfl); (focus exact hasA); (focus rfl))))
  refine blocks_Spans_c hl hl2 (Rd.vec (E := 143) (s := s) (.init .last)) fun s' => ?_
  refine T_bring (X := vec 143 3 s (hds hs)) (.init (.init .last)) ?_
  refine T_bring (X := pt a (.cells [.pointer (da d), .int .i64 g, s.v].toArray 125)) (.init (.init .last)) ?_
  refine Tab_close ?_
  refine T.perm ?_ (hk s')
  ac_rfl
end
end Go.Proofs.YtdgcbapclnnkkaaGreat.X
