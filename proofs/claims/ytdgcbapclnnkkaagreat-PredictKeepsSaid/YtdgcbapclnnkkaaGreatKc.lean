/- Part 3 of the proof that the law holds for every input: the theorems of this part. Conditions: each theorem bears its own; the last has none. -/
import Derived.Test.YtdgcbapclnnkkaaGreatKb
set_option linter.all false
section
/- Printed by a program of this session (gen.py): the functions of the dump over typed primitives, and that they serve for the model's code. No condition. -/
set_option maxRecDepth 100000
set_option linter.unusedVariables false
namespace Go.Proofs.YtdgcbapclnnkkaaGreat.X
open Go
@[reducible] def nvm_load_s0 (k : ((Option Addr) → K)) (x2 : Addr) : K :=
  k (some x2)
@[reducible] def nvm_load_s1 (words : Sl) (k : ((Option Addr) → K)) (n : Int) : K :=
  tick fun _ =>
  andK
  (c_slices_Clone_Suint64_uint64 words fun x9 =>
  andK
  (mkS Tryz.prog 109 ((words.n : Nat) : Int) ((words.n : Nat) : Int) fun b =>
  andK
  (mkS Tryz.prog 4 n n fun b_1 =>
  mkS Tryz.prog 4 n n fun b_2 =>
  alK (.cells #[words.v, x9.v, .slice (some ⟨b, 0, none⟩) (Int.toNat ((words.n : Nat) : Int)) (Int.toNat ((words.n : Nat) : Int)), .slice (some ⟨b_1, 0, none⟩) (Int.toNat n) (Int.toNat n), .slice (some ⟨b_2, 0, none⟩) (Int.toNat n) (Int.toNat n), .int .i64 0, .int .i64 0, .bool false, .bool false] 165) fun b_3 =>
  nvm_load_s0 k ⟨b_3, 0, none⟩)
  (andK
  (mkS Tryz.prog 4 n n fun b_4 =>
  mkS Tryz.prog 4 n n fun b_5 =>
  alK (.cells #[words.v, x9.v, .slice (some ⟨b, 0, none⟩) (Int.toNat ((words.n : Nat) : Int)) (Int.toNat ((words.n : Nat) : Int)), .slice (some ⟨b_5, 0, none⟩) (Int.toNat n) (Int.toNat n), .slice (some ⟨b_4, 0, none⟩) (Int.toNat n) (Int.toNat n), .int .i64 0, .int .i64 0, .bool false, .bool false] 165) fun b_6 =>
  nvm_load_s0 k ⟨b_6, 0, none⟩)
  ((fun _ => True))))
  (andK
  (mkS Tryz.prog 4 n n fun b_7 =>
  andK
  (mkS Tryz.prog 109 ((words.n : Nat) : Int) ((words.n : Nat) : Int) fun b_8 =>
  mkS Tryz.prog 4 n n fun b_9 =>
  alK (.cells #[words.v, x9.v, .slice (some ⟨b_8, 0, none⟩) (Int.toNat ((words.n : Nat) : Int)) (Int.toNat ((words.n : Nat) : Int)), .slice (some ⟨b_7, 0, none⟩) (Int.toNat n) (Int.toNat n), .slice (some ⟨b_9, 0, none⟩) (Int.toNat n) (Int.toNat n), .int .i64 0, .int .i64 0, .bool false, .bool false] 165) fun b_10 =>
  nvm_load_s0 k ⟨b_10, 0, none⟩)
  (andK
  (mkS Tryz.prog 4 n n fun b_11 =>
  mkS Tryz.prog 109 ((words.n : Nat) : Int) ((words.n : Nat) : Int) fun b_12 =>
  alK (.cells #[words.v, x9.v, .slice (some ⟨b_12, 0, none⟩) (Int.toNat ((words.n : Nat) : Int)) (Int.toNat ((words.n : Nat) : Int)), .slice (some ⟨b_7, 0, none⟩) (Int.toNat n) (Int.toNat n), .slice (some ⟨b_11, 0, none⟩) (Int.toNat n) (Int.toNat n), .int .i64 0, .int .i64 0, .bool false, .bool false] 165) fun b_13 =>
  nvm_load_s0 k ⟨b_13, 0, none⟩)
  ((fun _ => True))))
  (andK
  (mkS Tryz.prog 4 n n fun b_14 =>
  andK
  (mkS Tryz.prog 109 ((words.n : Nat) : Int) ((words.n : Nat) : Int) fun b_15 =>
  mkS Tryz.prog 4 n n fun b_16 =>
  alK (.cells #[words.v, x9.v, .slice (some ⟨b_15, 0, none⟩) (Int.toNat ((words.n : Nat) : Int)) (Int.toNat ((words.n : Nat) : Int)), .slice (some ⟨b_16, 0, none⟩) (Int.toNat n) (Int.toNat n), .slice (some ⟨b_14, 0, none⟩) (Int.toNat n) (Int.toNat n), .int .i64 0, .int .i64 0, .bool false, .bool false] 165) fun b_17 =>
  nvm_load_s0 k ⟨b_17, 0, none⟩)
  (andK
  (mkS Tryz.prog 4 n n fun b_18 =>
  mkS Tryz.prog 109 ((words.n : Nat) : Int) ((words.n : Nat) : Int) fun b_19 =>
  alK (.cells #[words.v, x9.v, .slice (some ⟨b_19, 0, none⟩) (Int.toNat ((words.n : Nat) : Int)) (Int.toNat ((words.n : Nat) : Int)), .slice (some ⟨b_18, 0, none⟩) (Int.toNat n) (Int.toNat n), .slice (some ⟨b_14, 0, none⟩) (Int.toNat n) (Int.toNat n), .int .i64 0, .int .i64 0, .bool false, .bool false] 165) fun b_20 =>
  nvm_load_s0 k ⟨b_20, 0, none⟩)
  ((fun _ => True))))
  ((fun _ => True)))))
  (andK
  (mkS Tryz.prog 109 ((words.n : Nat) : Int) ((words.n : Nat) : Int) fun b_21 =>
  andK
  (c_slices_Clone_Suint64_uint64 words fun x9_1 =>
  andK
  (mkS Tryz.prog 4 n n fun b_22 =>
  mkS Tryz.prog 4 n n fun b_23 =>
  alK (.cells #[words.v, x9_1.v, .slice (some ⟨b_21, 0, none⟩) (Int.toNat ((words.n : Nat) : Int)) (Int.toNat ((words.n : Nat) : Int)), .slice (some ⟨b_22, 0, none⟩) (Int.toNat n) (Int.toNat n), .slice (some ⟨b_23, 0, none⟩) (Int.toNat n) (Int.toNat n), .int .i64 0, .int .i64 0, .bool false, .bool false] 165) fun b_24 =>
  nvm_load_s0 k ⟨b_24, 0, none⟩)
  (andK
  (mkS Tryz.prog 4 n n fun b_25 =>
  mkS Tryz.prog 4 n n fun b_26 =>
  alK (.cells #[words.v, x9_1.v, .slice (some ⟨b_21, 0, none⟩) (Int.toNat ((words.n : Nat) : Int)) (Int.toNat ((words.n : Nat) : Int)), .slice (some ⟨b_26, 0, none⟩) (Int.toNat n) (Int.toNat n), .slice (some ⟨b_25, 0, none⟩) (Int.toNat n) (Int.toNat n), .int .i64 0, .int .i64 0, .bool false, .bool false] 165) fun b_27 =>
  nvm_load_s0 k ⟨b_27, 0, none⟩)
  ((fun _ => True))))
  (andK
  (mkS Tryz.prog 4 n n fun b_28 =>
  andK
  (c_slices_Clone_Suint64_uint64 words fun x9_2 =>
  mkS Tryz.prog 4 n n fun b_29 =>
  alK (.cells #[words.v, x9_2.v, .slice (some ⟨b_21, 0, none⟩) (Int.toNat ((words.n : Nat) : Int)) (Int.toNat ((words.n : Nat) : Int)), .slice (some ⟨b_28, 0, none⟩) (Int.toNat n) (Int.toNat n), .slice (some ⟨b_29, 0, none⟩) (Int.toNat n) (Int.toNat n), .int .i64 0, .int .i64 0, .bool false, .bool false] 165) fun b_30 =>
  nvm_load_s0 k ⟨b_30, 0, none⟩)
  (andK
  (mkS Tryz.prog 4 n n fun b_31 =>
  c_slices_Clone_Suint64_uint64 words fun x9_3 =>
  alK (.cells #[words.v, x9_3.v, .slice (some ⟨b_21, 0, none⟩) (Int.toNat ((words.n : Nat) : Int)) (Int.toNat ((words.n : Nat) : Int)), .slice (some ⟨b_28, 0, none⟩) (Int.toNat n) (Int.toNat n), .slice (some ⟨b_31, 0, none⟩) (Int.toNat n) (Int.toNat n), .int .i64 0, .int .i64 0, .bool false, .bool false] 165) fun b_32 =>
  nvm_load_s0 k ⟨b_32, 0, none⟩)
  ((fun _ => True))))
  (andK
  (mkS Tryz.prog 4 n n fun b_33 =>
  andK
  (c_slices_Clone_Suint64_uint64 words fun x9_4 =>
  mkS Tryz.prog 4 n n fun b_34 =>
  alK (.cells #[words.v, x9_4.v, .slice (some ⟨b_21, 0, none⟩) (Int.toNat ((words.n : Nat) : Int)) (Int.toNat ((words.n : Nat) : Int)), .slice (some ⟨b_34, 0, none⟩) (Int.toNat n) (Int.toNat n), .slice (some ⟨b_33, 0, none⟩) (Int.toNat n) (Int.toNat n), .int .i64 0, .int .i64 0, .bool false, .bool false] 165) fun b_35 =>
  nvm_load_s0 k ⟨b_35, 0, none⟩)
  (andK
  (mkS Tryz.prog 4 n n fun b_36 =>
  c_slices_Clone_Suint64_uint64 words fun x9_5 =>
  alK (.cells #[words.v, x9_5.v, .slice (some ⟨b_21, 0, none⟩) (Int.toNat ((words.n : Nat) : Int)) (Int.toNat ((words.n : Nat) : Int)), .slice (some ⟨b_36, 0, none⟩) (Int.toNat n) (Int.toNat n), .slice (some ⟨b_33, 0, none⟩) (Int.toNat n) (Int.toNat n), .int .i64 0, .int .i64 0, .bool false, .bool false] 165) fun b_37 =>
  nvm_load_s0 k ⟨b_37, 0, none⟩)
  ((fun _ => True))))
  ((fun _ => True)))))
  (andK
  (mkS Tryz.prog 4 n n fun b_38 =>
  andK
  (c_slices_Clone_Suint64_uint64 words fun x9_6 =>
  andK
  (mkS Tryz.prog 109 ((words.n : Nat) : Int) ((words.n : Nat) : Int) fun b_39 =>
  mkS Tryz.prog 4 n n fun b_40 =>
  alK (.cells #[words.v, x9_6.v, .slice (some ⟨b_39, 0, none⟩) (Int.toNat ((words.n : Nat) : Int)) (Int.toNat ((words.n : Nat) : Int)), .slice (some ⟨b_38, 0, none⟩) (Int.toNat n) (Int.toNat n), .slice (some ⟨b_40, 0, none⟩) (Int.toNat n) (Int.toNat n), .int .i64 0, .int .i64 0, .bool false, .bool false] 165) fun b_41 =>
  nvm_load_s0 k ⟨b_41, 0, none⟩)
  (andK
  (mkS Tryz.prog 4 n n fun b_42 =>
  mkS Tryz.prog 109 ((words.n : Nat) : Int) ((words.n : Nat) : Int) fun b_43 =>
  alK (.cells #[words.v, x9_6.v, .slice (some ⟨b_43, 0, none⟩) (Int.toNat ((words.n : Nat) : Int)) (Int.toNat ((words.n : Nat) : Int)), .slice (some ⟨b_38, 0, none⟩) (Int.toNat n) (Int.toNat n), .slice (some ⟨b_42, 0, none⟩) (Int.toNat n) (Int.toNat n), .int .i64 0, .int .i64 0, .bool false, .bool false] 165) fun b_44 =>
  nvm_load_s0 k ⟨b_44, 0, none⟩)
  ((fun _ => True))))
  (andK
  (mkS Tryz.prog 109 ((words.n : Nat) : Int) ((words.n : Nat) : Int) fun b_45 =>
  andK
  (c_slices_Clone_Suint64_uint64 words fun x9_7 =>
  mkS Tryz.prog 4 n n fun b_46 =>
  alK (.cells #[words.v, x9_7.v, .slice (some ⟨b_45, 0, none⟩) (Int.toNat ((words.n : Nat) : Int)) (Int.toNat ((words.n : Nat) : Int)), .slice (some ⟨b_38, 0, none⟩) (Int.toNat n) (Int.toNat n), .slice (some ⟨b_46, 0, none⟩) (Int.toNat n) (Int.toNat n), .int .i64 0, .int .i64 0, .bool false, .bool false] 165) fun b_47 =>
  nvm_load_s0 k ⟨b_47, 0, none⟩)
  (andK
  (mkS Tryz.prog 4 n n fun b_48 =>
  c_slices_Clone_Suint64_uint64 words fun x9_8 =>
  alK (.cells #[words.v, x9_8.v, .slice (some ⟨b_45, 0, none⟩) (Int.toNat ((words.n : Nat) : Int)) (Int.toNat ((words.n : Nat) : Int)), .slice (some ⟨b_38, 0, none⟩) (Int.toNat n) (Int.toNat n), .slice (some ⟨b_48, 0, none⟩) (Int.toNat n) (Int.toNat n), .int .i64 0, .int .i64 0, .bool false, .bool false] 165) fun b_49 =>
  nvm_load_s0 k ⟨b_49, 0, none⟩)
  ((fun _ => True))))
  (andK
  (mkS Tryz.prog 4 n n fun b_50 =>
  andK
  (c_slices_Clone_Suint64_uint64 words fun x9_9 =>
  mkS Tryz.prog 109 ((words.n : Nat) : Int) ((words.n : Nat) : Int) fun b_51 =>
  alK (.cells #[words.v, x9_9.v, .slice (some ⟨b_51, 0, none⟩) (Int.toNat ((words.n : Nat) : Int)) (Int.toNat ((words.n : Nat) : Int)), .slice (some ⟨b_38, 0, none⟩) (Int.toNat n) (Int.toNat n), .slice (some ⟨b_50, 0, none⟩) (Int.toNat n) (Int.toNat n), .int .i64 0, .int .i64 0, .bool false, .bool false] 165) fun b_52 =>
  nvm_load_s0 k ⟨b_52, 0, none⟩)
  (andK
  (mkS Tryz.prog 109 ((words.n : Nat) : Int) ((words.n : Nat) : Int) fun b_53 =>
  c_slices_Clone_Suint64_uint64 words fun x9_10 =>
  alK (.cells #[words.v, x9_10.v, .slice (some ⟨b_53, 0, none⟩) (Int.toNat ((words.n : Nat) : Int)) (Int.toNat ((words.n : Nat) : Int)), .slice (some ⟨b_38, 0, none⟩) (Int.toNat n) (Int.toNat n), .slice (some ⟨b_50, 0, none⟩) (Int.toNat n) (Int.toNat n), .int .i64 0, .int .i64 0, .bool false, .bool false] 165) fun b_54 =>
  nvm_load_s0 k ⟨b_54, 0, none⟩)
  ((fun _ => True))))
  ((fun _ => True)))))
  (andK
  (mkS Tryz.prog 4 n n fun b_55 =>
  andK
  (c_slices_Clone_Suint64_uint64 words fun x9_11 =>
  andK
  (mkS Tryz.prog 109 ((words.n : Nat) : Int) ((words.n : Nat) : Int) fun b_56 =>
  mkS Tryz.prog 4 n n fun b_57 =>
  alK (.cells #[words.v, x9_11.v, .slice (some ⟨b_56, 0, none⟩) (Int.toNat ((words.n : Nat) : Int)) (Int.toNat ((words.n : Nat) : Int)), .slice (some ⟨b_57, 0, none⟩) (Int.toNat n) (Int.toNat n), .slice (some ⟨b_55, 0, none⟩) (Int.toNat n) (Int.toNat n), .int .i64 0, .int .i64 0, .bool false, .bool false] 165) fun b_58 =>
  nvm_load_s0 k ⟨b_58, 0, none⟩)
  (andK
  (mkS Tryz.prog 4 n n fun b_59 =>
  mkS Tryz.prog 109 ((words.n : Nat) : Int) ((words.n : Nat) : Int) fun b_60 =>
  alK (.cells #[words.v, x9_11.v, .slice (some ⟨b_60, 0, none⟩) (Int.toNat ((words.n : Nat) : Int)) (Int.toNat ((words.n : Nat) : Int)), .slice (some ⟨b_59, 0, none⟩) (Int.toNat n) (Int.toNat n), .slice (some ⟨b_55, 0, none⟩) (Int.toNat n) (Int.toNat n), .int .i64 0, .int .i64 0, .bool false, .bool false] 165) fun b_61 =>
  nvm_load_s0 k ⟨b_61, 0, none⟩)
  ((fun _ => True))))
  (andK
  (mkS Tryz.prog 109 ((words.n : Nat) : Int) ((words.n : Nat) : Int) fun b_62 =>
  andK
  (c_slices_Clone_Suint64_uint64 words fun x9_12 =>
  mkS Tryz.prog 4 n n fun b_63 =>
  alK (.cells #[words.v, x9_12.v, .slice (some ⟨b_62, 0, none⟩) (Int.toNat ((words.n : Nat) : Int)) (Int.toNat ((words.n : Nat) : Int)), .slice (some ⟨b_63, 0, none⟩) (Int.toNat n) (Int.toNat n), .slice (some ⟨b_55, 0, none⟩) (Int.toNat n) (Int.toNat n), .int .i64 0, .int .i64 0, .bool false, .bool false] 165) fun b_64 =>
  nvm_load_s0 k ⟨b_64, 0, none⟩)
  (andK
  (mkS Tryz.prog 4 n n fun b_65 =>
  c_slices_Clone_Suint64_uint64 words fun x9_13 =>
  alK (.cells #[words.v, x9_13.v, .slice (some ⟨b_62, 0, none⟩) (Int.toNat ((words.n : Nat) : Int)) (Int.toNat ((words.n : Nat) : Int)), .slice (some ⟨b_65, 0, none⟩) (Int.toNat n) (Int.toNat n), .slice (some ⟨b_55, 0, none⟩) (Int.toNat n) (Int.toNat n), .int .i64 0, .int .i64 0, .bool false, .bool false] 165) fun b_66 =>
  nvm_load_s0 k ⟨b_66, 0, none⟩)
  ((fun _ => True))))
  (andK
  (mkS Tryz.prog 4 n n fun b_67 =>
  andK
  (c_slices_Clone_Suint64_uint64 words fun x9_14 =>
  mkS Tryz.prog 109 ((words.n : Nat) : Int) ((words.n : Nat) : Int) fun b_68 =>
  alK (.cells #[words.v, x9_14.v, .slice (some ⟨b_68, 0, none⟩) (Int.toNat ((words.n : Nat) : Int)) (Int.toNat ((words.n : Nat) : Int)), .slice (some ⟨b_67, 0, none⟩) (Int.toNat n) (Int.toNat n), .slice (some ⟨b_55, 0, none⟩) (Int.toNat n) (Int.toNat n), .int .i64 0, .int .i64 0, .bool false, .bool false] 165) fun b_69 =>
  nvm_load_s0 k ⟨b_69, 0, none⟩)
  (andK
  (mkS Tryz.prog 109 ((words.n : Nat) : Int) ((words.n : Nat) : Int) fun b_70 =>
  c_slices_Clone_Suint64_uint64 words fun x9_15 =>
  alK (.cells #[words.v, x9_15.v, .slice (some ⟨b_70, 0, none⟩) (Int.toNat ((words.n : Nat) : Int)) (Int.toNat ((words.n : Nat) : Int)), .slice (some ⟨b_67, 0, none⟩) (Int.toNat n) (Int.toNat n), .slice (some ⟨b_55, 0, none⟩) (Int.toNat n) (Int.toNat n), .int .i64 0, .int .i64 0, .bool false, .bool false] 165) fun b_71 =>
  nvm_load_s0 k ⟨b_71, 0, none⟩)
  ((fun _ => True))))
  ((fun _ => True)))))
  ((fun _ => True)))))
@[reducible] def nvm_load (words : Sl) : M (Option Addr) := fun k =>
  nvm_load_s1 words k (IntKind.wrap .i64 (Int.tdiv ((words.n : Nat) : Int) 8))
theorem nvm_load_ok (words : Sl) (k : (Option Addr) → K) (w : World) (hyp_ : nvm_load words k w) : c_nvm_load words k w :=
  cl_of (P := Tryz.prog) Tryz.func176 rfl (by kernel_rfl)
  (RefK.seq [] [0] (fun z_ => [(0, words.v)]) (fun z_ => nvm_load_s1 words k (IntKind.wrap .i64 (Int.tdiv ((words.n : Nat) : Int) 8))) (by kernel_rfl) (fun _ => by kernel_rfl)
  (RefK.plain [] (by kernel_rfl))
  (fun _ => RefK.seq [(3, .int .i64)] [0] (fun z_ => [(3, .int .i64 z_.1), (0, words.v)]) (fun z_ => nvm_load_s1 words k z_.1) (by kernel_rfl) (fun _ => by kernel_rfl)
  (RefK.plain [] (by kernel_rfl))
  (fun ⟨n, _⟩ => RefK.seq [(2, .addr)] [] (fun z_ => [(2, .pointer (some z_.1))]) (fun z_ => nvm_load_s0 k z_.1) (by kernel_rfl) (fun _ => by kernel_rfl)
  (RefK.drawM [] [0, 0, 2, 0, 8, 24, 0, 64, 0, 256, 1023, 2047, 4095] (.step 0 (.step 1 (.step 3 (.step 4 (.step 6 (.step 8 (.alt 2 (.alt 5 (.alt 7 (.step 9 (.step 10 (.step 11 (.step 12 .nil)))) (.alt 9 (.step 7 (.step 10 (.step 11 (.step 12 .nil)))) .no)) (.alt 7 (.alt 5 (.step 9 (.step 10 (.step 11 (.step 12 .nil)))) (.alt 9 (.step 5 (.step 10 (.step 11 (.step 12 .nil)))) .no)) (.alt 9 (.alt 5 (.step 7 (.step 10 (.step 11 (.step 12 .nil)))) (.alt 7 (.step 5 (.step 10 (.step 11 (.step 12 .nil)))) .no)) .no))) (.alt 5 (.alt 2 (.alt 7 (.step 9 (.step 10 (.step 11 (.step 12 .nil)))) (.alt 9 (.step 7 (.step 10 (.step 11 (.step 12 .nil)))) .no)) (.alt 7 (.alt 2 (.step 9 (.step 10 (.step 11 (.step 12 .nil)))) (.alt 9 (.step 2 (.step 10 (.step 11 (.step 12 .nil)))) .no)) (.alt 9 (.alt 2 (.step 7 (.step 10 (.step 11 (.step 12 .nil)))) (.alt 7 (.step 2 (.step 10 (.step 11 (.step 12 .nil)))) .no)) .no))) (.alt 7 (.alt 2 (.alt 5 (.step 9 (.step 10 (.step 11 (.step 12 .nil)))) (.alt 9 (.step 5 (.step 10 (.step 11 (.step 12 .nil)))) .no)) (.alt 5 (.alt 2 (.step 9 (.step 10 (.step 11 (.step 12 .nil)))) (.alt 9 (.step 2 (.step 10 (.step 11 (.step 12 .nil)))) .no)) (.alt 9 (.alt 2 (.step 5 (.step 10 (.step 11 (.step 12 .nil)))) (.alt 5 (.step 2 (.step 10 (.step 11 (.step 12 .nil)))) .no)) .no))) (.alt 9 (.alt 2 (.alt 5 (.step 7 (.step 10 (.step 11 (.step 12 .nil)))) (.alt 7 (.step 5 (.step 10 (.step 11 (.step 12 .nil)))) .no)) (.alt 5 (.alt 2 (.step 7 (.step 10 (.step 11 (.step 12 .nil)))) (.alt 7 (.step 2 (.step 10 (.step 11 (.step 12 .nil)))) .no)) (.alt 7 (.alt 2 (.step 5 (.step 10 (.step 11 (.step 12 .nil)))) (.alt 5 (.step 2 (.step 10 (.step 11 (.step 12 .nil)))) .no)) .no))) .no)))))))))) [0, 1, 2, 3, 4, 5, 6, 7, 8, 9, 10, 11, 12] (by kernel_rfl) (by kernel_rfl))
  (fun ⟨x2, _⟩ => RefK.ret (by kernel_rfl))))) hyp_
end Go.Proofs.YtdgcbapclnnkkaaGreat.X
end
section
/- Contracts: the device. Conditions: at most 2^32 lines. -/
set_option linter.unusedVariables false
set_option maxRecDepth 4000
namespace Go.Proofs.YtdgcbapclnnkkaaGreat.X
open Go
structure Dv where
  lasting : List Int
  cache : List Int
  flushed : List Int
  dirty : List Bool
  pending : List Bool
  steps : Int
  fuse : Int
  armed : Bool
  dead : Bool
structure Dv.Ok (v : Dv) (n : Nat) : Prop where
  big : n ≤ 2 ^ 32
  l1 : v.lasting.length = 8 * n
  l2 : v.cache.length = 8 * n
  l3 : v.flushed.length = 8 * n
  l4 : v.dirty.length = n
  l5 : v.pending.length = n
abbrev Q5 := Sl × Sl × Sl × Sl × Sl
def devC (v : Dv) (q : Q5) : Obj := .cells [q.1.v, q.2.1.v, q.2.2.1.v, q.2.2.2.1.v, q.2.2.2.2.v, .int .i64 v.steps, .int .i64 v.fuse, .bool v.armed, .bool v.dead].toArray 165
def DevQ (d : Nat) (v : Dv) (q : Q5) : SL :=
  vec 109 1 q.1 (wds v.lasting) * vec 109 1 q.2.1 (wds v.cache) * vec 109 1 q.2.2.1 (wds v.flushed) * vec 4 1 q.2.2.2.1 (bls v.dirty) * vec 4 1 q.2.2.2.2 (bls v.pending) * pt d (devC v q)
def Dev (d : Nat) (v : Dv) : SL := ex (DevQ d v)
def da (d : Nat) : Option Addr := some ⟨d, 0, none⟩
section
variable {B : World} {R : SL} {t : K}
theorem Dev_open {d : Nat} {v : Dv} (h : ∀ q, T B (R * vec 109 1 q.1 (wds v.lasting) * vec 109 1 q.2.1 (wds v.cache) * vec 109 1 q.2.2.1 (wds v.flushed) * vec 4 1 q.2.2.2.1 (bls v.dirty) * vec 4 1 q.2.2.2.2 (bls v.pending) * pt d (devC v q)) t) : T B (R * Dev d v) t := by
  refine T_ex fun q => T.perm ?_ (h q)
  unfold DevQ; simp only [sep_assoc]
theorem Dev_close {d : Nat} {v : Dv} (q : Q5) (h : T B (R * Dev d v) t) : T B (R * vec 109 1 q.1 (wds v.lasting) * vec 109 1 q.2.1 (wds v.cache) * vec 109 1 q.2.2.1 (wds v.flushed) * vec 4 1 q.2.2.2.1 (bls v.dirty) * vec 4 1 q.2.2.2.2 (bls v.pending) * pt d (devC v q)) t := by
  refine T.perm ?_ (T_exI q h)
  unfold DevQ; simp only [sep_assoc]
def getI (l : List Int) (a : Int) : Int := if a < 0 then 0 else l.getD a.toNat 0
theorem nvm_Len_c {d : Nat} {v : Dv} {k : Int → K} (hk : T B (R * Dev d v) (k v.cache.length)) : T B (R * Dev d v) (c_nvm_Device_Len (da d) k) := by
  refine T_of (nvm_Device_Len_ok _ k) ?_
  unfold da
  refine Dev_open fun q => ?_
  unfold devC
  (repeat (first | with_reducible refine T_nn ?_ | ((with_reducible apply T_ldS); (focus rfl); (focus (repeat (first | with_reducible exact Has.last | with_reducible exact Has.one | refine Has.init ?_))); (focus rfl))))
  refine T_vlen (E := 109) (sz := 1) (s := q.2.1) (vs := wds v.cache) (.init (.init (.init (.init .last)))) fun hn => ?_
  rw [wds_len, Nat.mul_one] at hn
  rw [hn]
  exact Dev_close q hk
theorem nvm_Get_c {d : Nat} {v : Dv} {a : Int} {k : Int → K} (hk : T B (R * Dev d v) (k (getI v.cache a))) : T B (R * Dev d v) (c_nvm_Device_Get (da d) a k) := by
  refine T_of (nvm_Device_Get_ok _ a k) ?_
  unfold da getI at *
  (repeat' (first | with_reducible refine T_nn ?_ | with_reducible refine T_brT ?_ | with_reducible refine T_brD (fun _ => ?_) (fun _ => ?_)))
  · rename_i h
    rw [if_pos h] at hk; exact hk
  · rename_i h
    rw [if_neg h] at hk
    refine Dev_open fun q => ?_
    unfold devC
    (repeat (((with_reducible apply T_ldS); (focus rfl); (focus (repeat (first | with_reducible exact Has.last | with_reducible exact Has.one | refine Has.init ?_))); (focus rfl))))
    refine T_vlen (E := 109) (sz := 1) (s := q.2.1) (vs := wds v.cache) (.init (.init (.init (.init .last)))) fun hn => ?_
    rw [wds_len, Nat.mul_one] at hn
    (repeat' (first | with_reducible refine T_nn ?_ | ((with_reducible apply T_ldS); (focus rfl); (focus (repeat (first | with_reducible exact Has.last | with_reducible exact Has.one | refine Has.init ?_))); (focus rfl)) | with_reducible refine T_brD (fun _ => ?_) (fun _ => ?_)))
    · rename_i h2
      rw [List.getD_eq_getElem?_getD, List.getElem?_eq_none (by omega)] at hk
      exact Dev_close q hk
    · rename_i h2
      have hlt : a.toNat < v.cache.length := by omega
      refine T_ixV (Rd.vec (E := 109) (s := q.2.1) (vs := wds v.cache) (.init (.init (.init (.init .last))))) (by omega) (wds_at hlt) ?_
      rw [List.getD_eq_getElem?_getD, List.getElem?_eq_getElem hlt] at hk
      exact Dev_close q hk
theorem nvm_Lasting_c {d : Nat} {v : Dv} {a : Int} {k : Int → K} (hk : T B (R * Dev d v) (k (getI v.lasting a))) : T B (R * Dev d v) (c_nvm_Device_Lasting (da d) a k) := by
  refine T_of (nvm_Device_Lasting_ok _ a k) ?_
  unfold da getI at *
  (repeat' (first | with_reducible refine T_nn ?_ | with_reducible refine T_brT ?_ | with_reducible refine T_brD (fun _ => ?_) (fun _ => ?_)))
  · rename_i h
    rw [if_pos h] at hk; exact hk
  · rename_i h
    rw [if_neg h] at hk
    refine Dev_open fun q => ?_
    unfold devC
    (repeat (((with_reducible apply T_ldS); (focus rfl); (focus (repeat (first | with_reducible exact Has.last | with_reducible exact Has.one | refine Has.init ?_))); (focus rfl))))
    refine T_vlen (E := 109) (sz := 1) (s := q.1) (vs := wds v.lasting) (.init (.init (.init (.init (.init .last))))) fun hn => ?_
    rw [wds_len, Nat.mul_one] at hn
    (repeat' (first | with_reducible refine T_nn ?_ | ((with_reducible apply T_ldS); (focus rfl); (focus (repeat (first | with_reducible exact Has.last | with_reducible exact Has.one | refine Has.init ?_))); (focus rfl)) | with_reducible refine T_brD (fun _ => ?_) (fun _ => ?_)))
    · rename_i h2
      rw [List.getD_eq_getElem?_getD, List.getElem?_eq_none (by omega)] at hk
      exact Dev_close q hk
    · rename_i h2
      have hlt : a.toNat < v.lasting.length := by omega
      refine T_ixV (Rd.vec (E := 109) (s := q.1) (vs := wds v.lasting) (.init (.init (.init (.init (.init .last)))))) (by omega) (wds_at hlt) ?_
      rw [List.getD_eq_getElem?_getD, List.getElem?_eq_getElem hlt] at hk
      exact Dev_close q hk
def Dv.stops (v : Dv) : Bool := v.dead || (v.armed && v.fuse == 0)
def Dv.stepV (v : Dv) : Dv := if v.stops then { v with dead := true } else { v with fuse := IntKind.wrap .i64 (v.fuse - 1), steps := IntKind.wrap .i64 (v.steps + 1) }
theorem nvm_step_c {d : Nat} {v : Dv} {k : Bool → K} (hk : T B (R * Dev d v.stepV) (k (!v.stops))) : T B (R * Dev d v) (c_nvm_Device_step (da d) k) := by
  refine T_of (nvm_Device_step_ok _ k) ?_
  unfold da
  refine Dev_open fun q => ?_
  unfold devC
  obtain ⟨l1, l2, l3, l4, l5, st, fu, ar, de⟩ := v
  cases de <;> cases ar <;> simp only [Dv.stops, Dv.stepV, Bool.false_or, Bool.true_or, Bool.false_and, Bool.true_and, if_true, Bool.not_true, Bool.not_false, Bool.false_eq_true, if_false] at hk
  · (repeat' (first | with_reducible refine T_nn ?_ | with_reducible refine T_brF ?_ | ((with_reducible apply T_ldI); (focus rfl); (focus (repeat (first | with_reducible exact Has.last | with_reducible exact Has.one | refine Has.init ?_))); (focus rfl)) | ((with_reducible apply T_ldB); (focus rfl); (focus (repeat (first | with_reducible exact Has.last | with_reducible exact Has.one | refine Has.init ?_))); (focus rfl)) | ((with_reducible apply T_st); (focus rfl); (focus (repeat (first | with_reducible exact Upd.last | with_reducible exact Upd.one | with_reducible apply Upd.init))); (focus simp); simp only [List.set, Nat.zero_add, Nat.reduceAdd])))
    exact Dev_close (v := ⟨l1, l2, l3, l4, l5, IntKind.wrap .i64 (st + 1), IntKind.wrap .i64 (fu - 1), false, false⟩) q hk
  · (repeat' (first | with_reducible refine T_nn ?_ | with_reducible refine T_brT ?_ | with_reducible refine T_brF ?_ | ((with_reducible apply T_ldI); (focus rfl); (focus (repeat (first | with_reducible exact Has.last | with_reducible exact Has.one | refine Has.init ?_))); (focus rfl)) | ((with_reducible apply T_ldB); (focus rfl); (focus (repeat (first | with_reducible exact Has.last | with_reducible exact Has.one | refine Has.init ?_))); (focus rfl)) | ((with_reducible apply T_st); (focus rfl); (focus (repeat (first | with_reducible exact Upd.last | with_reducible exact Upd.one | with_reducible apply Upd.init))); (focus simp); simp only [List.set, Nat.zero_add, Nat.reduceAdd]) | with_reducible refine T_brE (fun _ => ?_) (fun _ => ?_)))
    · rename_i h0
      simp only at h0
      subst h0
      exact Dev_close (v := ⟨l1, l2, l3, l4, l5, st, 0, true, true⟩) q hk
    · rename_i h0
      simp only [ne_eq] at h0
      have : (fu == 0) = false := by simpa using h0
      rw [this] at hk
      exact Dev_close (v := ⟨l1, l2, l3, l4, l5, IntKind.wrap .i64 (st + 1), IntKind.wrap .i64 (fu - 1), true, false⟩) q hk
  · (repeat' (first | with_reducible refine T_nn ?_ | with_reducible refine T_brT ?_ | ((with_reducible apply T_ldB); (focus rfl); (focus (repeat (first | with_reducible exact Has.last | with_reducible exact Has.one | refine Has.init ?_))); (focus rfl)) | ((with_reducible apply T_st); (focus rfl); (focus (repeat (first | with_reducible exact Upd.last | with_reducible exact Upd.one | with_reducible apply Upd.init))); (focus simp); simp only [List.set, Nat.zero_add, Nat.reduceAdd])))
    exact Dev_close (v := ⟨l1, l2, l3, l4, l5, st, fu, false, true⟩) q hk
  · (repeat' (first | with_reducible refine T_nn ?_ | with_reducible refine T_brT ?_ | ((with_reducible apply T_ldB); (focus rfl); (focus (repeat (first | with_reducible exact Has.last | with_reducible exact Has.one | refine Has.init ?_))); (focus rfl)) | ((with_reducible apply T_st); (focus rfl); (focus (repeat (first | with_reducible exact Upd.last | with_reducible exact Upd.one | with_reducible apply Upd.init))); (focus simp); simp only [List.set, Nat.zero_add, Nat.reduceAdd])))
    exact Dev_close (v := ⟨l1, l2, l3, l4, l5, st, fu, true, true⟩) q hk
def Dv.storeV (v : Dv) (a w : Int) : Int × Dv :=
  if a < 0 ∨ a ≥ v.cache.length then (2, v) else if v.stops then (3, v.stepV) else (0, { v.stepV with cache := v.cache.set a.toNat w, dirty := v.dirty.set (a / 8).toNat true })
theorem stepV_same (v : Dv) : v.stepV.cache = v.cache ∧ v.stepV.dirty = v.dirty ∧ v.stepV.lasting = v.lasting ∧ v.stepV.flushed = v.flushed ∧ v.stepV.pending = v.pending := by
  unfold Dv.stepV; split <;> exact ⟨rfl, rfl, rfl, rfl, rfl⟩
theorem nvm_Store_c {d n : Nat} {v : Dv} {a w : Int} (ok : v.Ok n) {k : Int → K} (hk : T B (R * Dev d (v.storeV a w).2) (k (v.storeV a w).1)) : T B (R * Dev d v) (c_nvm_Device_Store (da d) a w k) := by
  refine T_of (nvm_Device_Store_ok _ a w k) ?_
  have hb := ok.big
  have h2 := ok.l2
  have h4 := ok.l4
  unfold Dv.storeV at hk
  by_cases hr : a < 0 ∨ a ≥ v.cache.length
  · rw [if_pos hr] at hk
    (repeat' (first | with_reducible refine T_brT ?_ | with_reducible refine T_brD (fun _ => ?_) (fun _ => ?_)))
    · exact hk
    · unfold da
      refine Dev_open fun q => ?_
      unfold devC
      (repeat (first | with_reducible refine T_nn ?_ | ((with_reducible apply T_ldS); (focus rfl); (focus (repeat (first | with_reducible exact Has.last | with_reducible exact Has.one | refine Has.init ?_))); (focus rfl))))
      refine T_vlen (E := 109) (sz := 1) (s := q.2.1) (vs := wds v.cache) (.init (.init (.init (.init .last)))) fun hn => ?_
      rw [wds_len, Nat.mul_one] at hn
      (repeat' (with_reducible refine T_brD (fun _ => ?_) (fun _ => ?_)))
      · exact Dev_close q hk
      · exfalso; omega
  · rw [if_neg hr] at hk
    (repeat' (first | with_reducible refine T_brT ?_ | with_reducible refine T_brD (fun _ => ?_) (fun _ => ?_)))
    · exfalso; omega
    refine Dev_open fun q => ?_
    unfold devC
    unfold da
    (repeat (first | with_reducible refine T_nn ?_ | ((with_reducible apply T_ldS); (focus rfl); (focus (repeat (first | with_reducible exact Has.last | with_reducible exact Has.one | refine Has.init ?_))); (focus rfl))))
    refine T_vlen (E := 109) (sz := 1) (s := q.2.1) (vs := wds v.cache) (.init (.init (.init (.init .last)))) fun hn => ?_
    rw [wds_len, Nat.mul_one] at hn
    (repeat' (with_reducible refine T_brD (fun _ => ?_) (fun _ => ?_)))
    · exfalso; omega
    refine Dev_close q ?_
    refine nvm_step_c (d := d) ?_
    cases hs : v.stops
    · rw [hs] at hk
      simp only [Bool.not_true, Bool.not_false]
      (repeat (first | with_reducible refine T_nn ?_ | with_reducible refine T_brF ?_))
      refine Dev_open fun q => ?_
      unfold devC
      obtain ⟨e1, e2, e3, e4, e5⟩ := stepV_same v
      rw [e1, e2, e3, e4, e5]
      (repeat (((with_reducible apply T_ldS); (focus rfl); (focus (repeat (first | with_reducible exact Has.last | with_reducible exact Has.one | refine Has.init ?_))); (focus rfl))))
      refine T_stV (i := a) (E := 109) (s := q.2.1) (vs := wds v.cache) (.init (.init (.init (.init .last)))) (by omega) (by rw [wds_len]; omega) ?_
      rw [wds_set]
      (repeat (first | with_reducible refine T_nn ?_ | ((with_reducible apply T_ldS); (focus rfl); (focus (repeat (first | with_reducible exact Has.last | with_reducible exact Has.one | refine Has.init ?_))); (focus rfl))))
      have e8 : Int.tdiv a 8 = a / 8 := Int.tdiv_eq_ediv_of_nonneg (by omega)
      rw [e8, w64 (n := a / 8) (by omega) (by omega)]
      refine T_stV (i := a / 8) (E := 4) (s := q.2.2.2.1) (vs := bls v.dirty) (.init (.init (.init .last))) (by omega) (by rw [bls_len]; omega) ?_
      rw [bls_set]
      simp only [Bool.false_eq_true, if_false] at hk
      have hk' := Dev_close q hk
      refine T.perm ?_ hk'
      simp only [e3, e4, e5]
      unfold devC
      ac_rfl
    · rw [hs] at hk
      simp only [Bool.not_true, Bool.not_false]
      (repeat (with_reducible refine T_brT ?_))
      exact hk
theorem nvm_part_c {d : Option Addr} {s : Sl} {line : Nat} (h1 : line ≤ 2 ^ 40) (h2 : 8 * line + 8 ≤ s.n) (h3 : s.n ≤ s.c) {k : Sl → K} (hk : T B R (k ⟨cutP s.p (8 * line) s.c 1, 8, s.c - 8 * line⟩)) : T B R (c_nvm_Device_part d s line k) := by
  refine T_of (nvm_Device_part_ok _ s line k) ?_
  have e1 : IntKind.wrap .i64 ((IntKind.wrap .i64 ((line : Int) + 1)) * 8) = ((8 * line + 8 : Nat) : Int) := by rw [w64 (n := (line : Int) + 1) (by omega) (by omega), w64 (by omega) (by omega)]; omega
  have e2 : IntKind.wrap .i64 ((line : Int) * 8) = ((8 * line : Nat) : Int) := by rw [w64 (by omega) (by omega)]; omega
  (dsimp only [nvm_Device_part, nvm_Device_part_s0, nvm_Device_part_s1])
  rw [e1, e2]
  refine T_lo (by omega) (by omega) ?_
  refine T_lo (by omega) (by omega) ?_
  rw [Int.toNat_natCast, Int.toNat_natCast, show 8 * line + 8 - 8 * line = 8 by omega]
  exact hk
end
end Go.Proofs.YtdgcbapclnnkkaaGreat.X
end
section
/- Contracts: the device: what is flushed, fenced, made. Conditions: at most 2^32 lines. -/
set_option linter.unusedVariables false
set_option maxRecDepth 4000
namespace Go.Proofs.YtdgcbapclnnkkaaGreat.X
open Go
theorem wds_cut (l : List Int) (o n : Nat) : wds (cut l o n) = cut (wds l) o n := cut_map _ _ _ _
theorem wds_splice (l new : List Int) (o : Nat) : wds (splice l o new) = splice (wds l) o (wds new) := splice_map _ _ _ _
section
variable {B : World} {P R : SL} {t : K}
theorem T_rdfull {x : Sl} {vs : List Value} (h : Rd P x 1 vs) (ht : x.n = vs.length → x.n ≤ x.c → T B P t) : T B P t := fun w s => ht (by rw [(h B w s).1, Nat.mul_one]) (by have := (h B w s).2.1; omega) w s
theorem Rd.pieceW {x y : Sl} {l : List Int} {o n : Nat} (h : Rd P x 1 (wds l)) (ho : o + n ≤ l.length) (h1 : y.p = cutP x.p o x.c 1) (h2 : y.n = n) (h3 : y.c = x.c - o) : Rd P y 1 (wds (cut l o n)) := by
  have := Rd.piece (o := o) (n := n) (by omega) h (by rw [wds_len]; omega) h1 h2 h3
  rw [Nat.mul_one, Nat.mul_one, ← wds_cut] at this
  exact this
def line8 (v : Dv) (l : Nat) : Dv := { v with pending := v.pending.set l true, flushed := splice v.flushed (8 * l) (cut v.cache (8 * l) 8) }
def Dv.flushV (v : Dv) (l : Nat) : Int × Dv := if v.stops then (3, v.stepV) else (0, if v.dirty.getD l false then line8 v.stepV l else v.stepV)
theorem nvm_Flush_c {d n : Nat} {v : Dv} {l : Nat} (ok : v.Ok n) (hl : l < n) {k : Int → K} (hk : T B (R * Dev d (v.flushV l).2) (k (v.flushV l).1)) : T B (R * Dev d v) (c_nvm_Device_Flush (da d) l k) := by
  refine T_of (nvm_Device_Flush_ok _ l k) ?_
  have hb := ok.big
  have h2 := ok.l2
  have h3 := ok.l3
  have h4 := ok.l4
  have h5 := ok.l5
  unfold Dv.flushV at hk
  (repeat' (first | with_reducible refine T_brT ?_ | with_reducible refine T_brD (fun _ => ?_) (fun _ => ?_)))
  · exfalso; omega
  refine Dev_open fun q => ?_
  unfold devC
  unfold da
  (repeat (first | with_reducible refine T_nn ?_ | ((with_reducible apply T_ldS); (focus rfl); (focus (repeat (first | with_reducible exact Has.last | with_reducible exact Has.one | refine Has.init ?_))); (focus rfl))))
  refine T_vlen (E := 4) (sz := 1) (s := q.2.2.2.1) (vs := bls v.dirty) (.init (.init .last)) fun hn => ?_
  rw [bls_len, Nat.mul_one] at hn
  (repeat' (with_reducible refine T_brD (fun _ => ?_) (fun _ => ?_)))
  · exfalso; omega
  refine Dev_close q ?_
  refine nvm_step_c (d := d) ?_
  cases hs : v.stops
  · rw [hs] at hk
    simp only [Bool.not_true, Bool.not_false]
    (repeat (first | with_reducible refine T_nn ?_ | with_reducible refine T_brF ?_))
    refine Dev_open fun q => ?_
    unfold devC
    have hs' : ∀ w : Dv, w = v.stepV → w.stepV = w.stepV := fun _ _ => rfl
    obtain ⟨e1, e2, e3, e4, e5⟩ := stepV_same v
    generalize v.stepV = w at *
    (repeat (((with_reducible apply T_ldS); (focus rfl); (focus (repeat (first | with_reducible exact Has.last | with_reducible exact Has.one | refine Has.init ?_))); (focus rfl))))
    have hld : l < w.dirty.length := by rw [e2]; omega
    refine T_ixVB (Rd.vec (E := 4) (s := q.2.2.2.1) (vs := bls w.dirty) (.init (.init .last))) (by omega) (by rw [Int.toNat_natCast]; exact bls_at hld) ?_
    simp only [Bool.false_eq_true, if_false] at hk
    rw [← e2, List.getD_eq_getElem?_getD, List.getElem?_eq_getElem hld, Option.getD_some] at hk
    cases hd : w.dirty[l]
    · rw [hd] at hk
      (repeat (with_reducible refine T_brF ?_))
      exact Dev_close q hk
    · rw [hd] at hk
      (repeat (first | with_reducible refine T_nn ?_ | with_reducible refine T_brT ?_ | ((with_reducible apply T_ldS); (focus rfl); (focus (repeat (first | with_reducible exact Has.last | with_reducible exact Has.one | refine Has.init ?_))); (focus rfl))))
      refine T_stV (i := l) (E := 4) (s := q.2.2.2.2) (vs := bls w.pending) (.init .last) (by omega) (by rw [bls_len]; rw [e5]; omega) ?_
      rw [bls_set, Int.toNat_natCast]
      (repeat (first | with_reducible refine T_nn ?_ | with_reducible refine T_tick ?_ | ((with_reducible apply T_ldS); (focus rfl); (focus (repeat (first | with_reducible exact Has.last | with_reducible exact Has.one | refine Has.init ?_))); (focus rfl))))
      refine T_rdfull (x := q.2.2.1) (Rd.vec (E := 109) (vs := wds w.flushed) (.init (.init (.init .last)))) fun n3 c3 => ?_
      refine T_rdfull (x := q.2.1) (Rd.vec (E := 109) (vs := wds w.cache) (.init (.init (.init (.init .last))))) fun n2 c2 => ?_
      rw [wds_len] at n2 n3
      rw [e1] at n2
      rw [e4] at n3
      refine nvm_part_c (by omega) (by omega) c3 ?_
      (repeat (first | with_reducible refine T_chk0 ?_ | ((with_reducible apply T_chk); (focus rfl); (focus (repeat (first | with_reducible exact Has.last | with_reducible exact Has.one | refine Has.init ?_))); (focus rfl))))
      refine nvm_part_c (by omega) (by omega) c2 ?_
      refine T_copyV (o := 8 * l) kd_u64 (s := q.2.2.1) (vs := wds w.flushed) (.init (.init (.init .last)))
        (Rd.pieceW (l := w.cache) (o := 8 * l) (n := 8) (Rd.vec (E := 109) (s := q.2.1) (.init (.init (.init .last)))) (by rw [e1]; omega) rfl rfl rfl) (wds_scal _) rfl rfl (by rw [wds_len, e4]; simp only; omega) ?_
      rw [← wds_splice]
      refine T.perm ?_ (Dev_close q hk)
      simp only [if_true, line8]
      unfold devC
      ac_rfl
  · rw [hs] at hk
    simp only [Bool.not_true, Bool.not_false]
    (repeat (with_reducible refine T_brT ?_))
    exact hk
def fenceL (v : Dv) (l : Nat) : Dv :=
  if v.pending.getD l false then { v with lasting := splice v.lasting (8 * l) (cut v.flushed (8 * l) 8), pending := v.pending.set l false, dirty := v.dirty.set l (!decide (cut (splice v.lasting (8 * l) (cut v.flushed (8 * l) 8)) (8 * l) 8 = cut v.cache (8 * l) 8)) } else v
def fenceN (v : Dv) : Nat → Dv
  | 0 => v
  | i + 1 => fenceL (fenceN v i) i
def Dv.fenceV (v : Dv) : Int × Dv := if v.stops then (3, v.stepV) else (0, fenceN v.stepV v.pending.length)
theorem fenceL_ok {v : Dv} {n l : Nat} (ok : v.Ok n) (hl : l < n) : (fenceL v l).Ok n := by
  unfold fenceL
  split
  · have h1 := ok.l1
    have h3 := ok.l3
    have hc : (cut v.flushed (8 * l) 8).length = 8 := cut_length (by omega)
    exact ⟨ok.big, by simp only; rw [splice_length (by rw [hc]; omega)]; exact ok.l1, ok.l2, ok.l3, by simpa using ok.l4, by simpa using ok.l5⟩
  · exact ok
theorem fenceN_ok {v : Dv} {n : Nat} (ok : v.Ok n) : ∀ i, i ≤ n → (fenceN v i).Ok n
  | 0, _ => ok
  | i + 1, h => fenceL_ok (fenceN_ok ok i (by omega)) (by omega)
theorem stepV_ok {v : Dv} {n : Nat} (ok : v.Ok n) : v.stepV.Ok n := by
  obtain ⟨e1, e2, e3, e4, e5⟩ := stepV_same v
  exact ⟨ok.big, by rw [e3]; exact ok.l1, by rw [e1]; exact ok.l2, by rw [e4]; exact ok.l3, by rw [e2]; exact ok.l4, by rw [e5]; exact ok.l5⟩
theorem nvm_Fence_c {d n : Nat} {v : Dv} (ok : v.Ok n) {k : Int → K} (hk : T B (R * Dev d v.fenceV.2) (k v.fenceV.1)) : T B (R * Dev d v) (c_nvm_Device_Fence (da d) k) := by
  refine T_of (nvm_Device_Fence_ok _ k) ?_
  unfold Dv.fenceV at hk
  have ok' := stepV_ok ok
  have hp5 : v.pending = v.stepV.pending := (stepV_same v).2.2.2.2.symm
  refine nvm_step_c (d := d) ?_
  cases hs : v.stops
  · rw [hs] at hk
    simp only [Bool.not_true, Bool.not_false]
    (repeat (with_reducible refine T_brF ?_))
    simp only [Bool.false_eq_true, if_false] at hk
    rw [hp5] at hk
    generalize v.stepV = w at *
    unfold da
    refine Dev_open fun q => ?_
    unfold devC
    (repeat (first | with_reducible refine T_nn ?_ | ((with_reducible apply T_ldS); (focus rfl); (focus (repeat (first | with_reducible exact Has.last | with_reducible exact Has.one | refine Has.init ?_))); (focus rfl))))
    refine T_vlen (E := 4) (sz := 1) (s := q.2.2.2.2) (vs := bls w.pending) (.init .last) fun hn => ?_
    rw [bls_len, Nat.mul_one] at hn
    have hw5 := ok'.l5
    have hw := ok'.big
    refine T_lpX (fun n s => R * DevQ d (fenceN w s.1.toNat) q) (fun m (s : Int × Unit) => ∃ i : Nat, i ≤ n ∧ s.1 = i ∧ m = n - i) n ?_ ⟨0, by omega, rfl, by omega⟩ ?_
    · show _ = R * DevQ d w q
      unfold DevQ devC; simp only [sep_assoc]
    rintro m ⟨s1, u⟩ c ⟨i, hi, h1, h2⟩ hc
    simp only at h1
    subst h1 h2
    simp only [Int.toNat_natCast]
    have okv := fenceN_ok ok' i hi
    have hnext : i < n → T B (R * DevQ d (fenceL (fenceN w i) i) q) (c (IntKind.wrap .i64 ((i : Int) + 1), ())) := by
      intro hlt
      have := hc (n - (i + 1)) (IntKind.wrap .i64 ((i : Int) + 1), ()) (by omega) ⟨i + 1, by omega, w64 (by omega) (by omega), rfl⟩
      have e : (IntKind.wrap .i64 ((i : Int) + 1)).toNat = i + 1 := by rw [w64 (by omega) (by omega)]; omega
      simp only [e] at this
      exact this
    clear hc
    unfold fenceL at hnext
    have hend : i = n → T B (R * DevQ d (fenceN w i) q) (k 0) := by
      intro e; subst e; rw [hw5] at hk; exact T_exI q hk
    generalize fenceN w i = v' at *
    have hq : R * DevQ d v' q = R * vec 109 1 q.1 (wds v'.lasting) * vec 109 1 q.2.1 (wds v'.cache) * vec 109 1 q.2.2.1 (wds v'.flushed) * vec 4 1 q.2.2.2.1 (bls v'.dirty) * vec 4 1 q.2.2.2.2 (bls v'.pending) * pt d (devC v' q) := by
      unfold DevQ; simp only [sep_assoc]
    rw [hq] at hend ⊢
    (repeat' (with_reducible refine T_brD (fun _ => ?_) (fun _ => ?_)))
    · rename_i hlt
      have hlt' : i < n := by omega
      have hnx := hnext hlt'
      have o1 := okv.l1; have o2 := okv.l2; have o3 := okv.l3; have o4 := okv.l4; have o5 := okv.l5
      have hip : i < v'.pending.length := by omega
      refine T_ixVB (Rd.vec (E := 4) (s := q.2.2.2.2) (vs := bls v'.pending) (.init .last)) (by omega) (by rw [Int.toNat_natCast]; exact bls_at hip) ?_
      rw [List.getD_eq_getElem?_getD, List.getElem?_eq_getElem hip, Option.getD_some] at hnx
      cases hpi : v'.pending[i]
      · rw [hpi] at hnx
        simp only [Bool.false_eq_true, if_false] at hnx
        rw [hq] at hnx
        (repeat (with_reducible refine T_brF ?_))
        exact hnx
      · rw [hpi] at hnx
        simp only [if_true] at hnx
        (repeat (first | with_reducible refine T_nn ?_ | with_reducible refine T_tick ?_ | with_reducible refine T_brT ?_))
        unfold devC
        (repeat (first | with_reducible refine T_nn ?_ | ((with_reducible apply T_ldS); (focus rfl); (focus (repeat (first | with_reducible exact Has.last | with_reducible exact Has.one | refine Has.init ?_))); (focus rfl))))
        refine T_rdfull (x := q.1) (Rd.vec (E := 109) (vs := wds v'.lasting) (.init (.init (.init (.init (.init .last)))))) fun n1 c1 => ?_
        refine T_rdfull (x := q.2.2.1) (Rd.vec (E := 109) (vs := wds v'.flushed) (.init (.init (.init .last)))) fun n3 c3 => ?_
        refine T_rdfull (x := q.2.1) (Rd.vec (E := 109) (vs := wds v'.cache) (.init (.init (.init (.init .last))))) fun n2 c2 => ?_
        rw [wds_len] at n1 n2 n3
        refine nvm_part_c (by omega) (by omega) c1 ?_
        (repeat (first | with_reducible refine T_chk0 ?_ | ((with_reducible apply T_chk); (focus rfl); (focus (repeat (first | with_reducible exact Has.last | with_reducible exact Has.one | refine Has.init ?_))); (focus rfl))))
        refine nvm_part_c (by omega) (by omega) c3 ?_
        have hcl : (cut v'.flushed (8 * i) 8).length = 8 := cut_length (by omega)
        refine T_copyV (o := 8 * i) kd_u64 (s := q.1) (vs := wds v'.lasting) (.init (.init (.init (.init (.init .last)))))
          (Rd.pieceW (l := v'.flushed) (o := 8 * i) (n := 8) (Rd.vec (E := 109) (s := q.2.2.1) (.init (.init (.init .last)))) (by omega) rfl rfl rfl) (wds_scal _) rfl rfl (by rw [wds_len]; simp only; omega) ?_
        rw [← wds_splice]
        generalize hla : splice v'.lasting (8 * i) (cut v'.flushed (8 * i) 8) = la at *
        have hlal : la.length = 8 * n := by rw [← hla, splice_length (by rw [hcl]; omega)]; exact o1
        (repeat (first | with_reducible refine T_nn ?_ | ((with_reducible apply T_ldS); (focus rfl); (focus (repeat (first | with_reducible exact Has.last | with_reducible exact Has.one | refine Has.init ?_))); (focus rfl))))
        refine T_stV (i := i) (E := 4) (s := q.2.2.2.2) (vs := bls v'.pending) (.init (.init .last)) (by omega) (by rw [bls_len]; omega) ?_
        rw [bls_set, Int.toNat_natCast]
        (repeat (first | with_reducible refine T_nn ?_ | with_reducible refine T_tick ?_ | ((with_reducible apply T_ldS); (focus rfl); (focus (repeat (first | with_reducible exact Has.last | with_reducible exact Has.one | refine Has.init ?_))); (focus rfl))))
        refine nvm_part_c (by omega) (by omega) c1 ?_
        (repeat (first | with_reducible refine T_chk0 ?_ | ((with_reducible apply T_chk); (focus rfl); (focus (repeat (first | with_reducible exact Has.last | with_reducible exact Has.one | refine Has.init ?_))); (focus rfl))))
        refine nvm_part_c (by omega) (by omega) c2 ?_
        (repeat (first | with_reducible refine T_chk0 ?_ | ((with_reducible apply T_chk); (focus rfl); (focus (repeat (first | with_reducible exact Has.last | with_reducible exact Has.one | refine Has.init ?_))); (focus rfl))))
        refine equal_u64_c (l1 := cut la (8 * i) 8) (l2 := cut v'.cache (8 * i) 8) (by rw [cut_length (by omega)]; omega)
          (Rd.pieceW (o := 8 * i) (n := 8) (Rd.vec (E := 109) (s := q.1) (.init .last)) (by omega) rfl rfl rfl)
          (Rd.pieceW (o := 8 * i) (n := 8) (Rd.vec (E := 109) (s := q.2.1) (.init (.init (.init (.init (.init .last)))))) (by omega) rfl rfl rfl) ?_
        (repeat (first | with_reducible refine T_chk0 ?_ | ((with_reducible apply T_chk); (focus rfl); (focus (repeat (first | with_reducible exact Has.last | with_reducible exact Has.one | refine Has.init ?_))); (focus rfl))))
        refine T_stV (i := i) (E := 4) (s := q.2.2.2.1) (vs := bls v'.dirty) (.init (.init (.init .last))) (by omega) (by rw [bls_len]; omega) ?_
        rw [bls_set, Int.toNat_natCast]
        refine T.perm ?_ hnx
        unfold DevQ devC
        ac_rfl
    · rename_i hge
      exact hend (by omega)
  · rw [hs] at hk
    simp only [Bool.not_true, Bool.not_false]
    (repeat (with_reducible refine T_brT ?_))
    exact hk
end
end Go.Proofs.YtdgcbapclnnkkaaGreat.X
end
section
/- The device by lines: what flushes and a fence make last. Plain. -/
set_option linter.unusedVariables false
namespace Go.Proofs.YtdgcbapclnnkkaaGreat.X
open Go
def ln (L : List Int) (l : Nat) : List Int := cut L (8 * l) 8
theorem ln_splice {L new : List Int} {m l n : Nat} (hL : L.length = 8 * n) (hm : m < n) (hn : new.length = 8) : ln (splice L (8 * m) new) l = if l = m then new else ln L l := by
  unfold ln
  apply List.ext_getElem?
  intro j
  by_cases hj : j < 8
  · rw [cut_get hj]
    unfold splice
    split
    · rename_i h; subst h
      rw [List.getElem?_append_left (by simp; omega), List.getElem?_append_right (by simp; omega)]
      congr 1; simp; omega
    · rename_i h
      rw [cut_get hj]
      by_cases hlt : l < m
      · rw [List.append_assoc, List.getElem?_append_left (by simp; omega), List.getElem?_take_of_lt (by omega)]
      · rw [List.getElem?_append_right (by simp; omega), List.getElem?_drop]
        congr 1
        simp only [List.length_append, List.length_take, hn, hL]
        omega
  · have : (cut (splice L (8 * m) new) (8 * l) 8)[j]? = none := List.getElem?_eq_none (by simp [cut]; omega)
    rw [this]
    split
    · rw [List.getElem?_eq_none (by omega)]
    · rw [List.getElem?_eq_none (by simp [cut]; omega)]
theorem getD_setB {l : List Bool} {i j : Nat} {b : Bool} (h : i < l.length) : (l.set i b).getD j false = if j = i then b else l.getD j false := by
  rw [List.getD_eq_getElem?_getD, List.getElem?_set]
  split
  · rename_i e; subst e; simp [h]
  · rename_i e; rw [if_neg (Ne.symm e), List.getD_eq_getElem?_getD]
theorem fenceN_spec {v : Dv} {n : Nat} (ok : v.Ok n) : ∀ i, i ≤ n → (fenceN v i).cache = v.cache ∧ (fenceN v i).flushed = v.flushed ∧ (fenceN v i).armed = v.armed ∧ (fenceN v i).dead = v.dead ∧
    (∀ l, l < n → ln (fenceN v i).lasting l = if l < i ∧ v.pending.getD l false = true then ln v.flushed l else ln v.lasting l) ∧
    (∀ l, l < n → (fenceN v i).pending.getD l false = if l < i then false else v.pending.getD l false) ∧
    (∀ l, l < n → (fenceN v i).dirty.getD l false = if l < i ∧ v.pending.getD l false = true then !decide (ln v.flushed l = ln v.cache l) else v.dirty.getD l false) := by
  intro i
  induction i with
  | zero => intro _; refine ⟨rfl, rfl, rfl, rfl, ?_, ?_, ?_⟩ <;> (intro l _; simp [fenceN])
  | succ i ih =>
    intro hi
    obtain ⟨h1, h2, h3, h4, h5, h6, h7⟩ := ih (by omega)
    have okw := fenceN_ok ok i (by omega)
    show (fenceL (fenceN v i) i).cache = _ ∧ (fenceL (fenceN v i) i).flushed = _ ∧ (fenceL (fenceN v i) i).armed = _ ∧ (fenceL (fenceN v i) i).dead = _ ∧ (∀ l, l < n → ln (fenceL (fenceN v i) i).lasting l = _) ∧ (∀ l, l < n → (fenceL (fenceN v i) i).pending.getD l false = _) ∧ (∀ l, l < n → (fenceL (fenceN v i) i).dirty.getD l false = _)
    have hpi := h6 i (by omega)
    rw [if_neg (by omega)] at hpi
    generalize fenceN v i = w at *
    unfold fenceL
    rw [hpi]
    have hcl : (cut w.flushed (8 * i) 8).length = 8 := cut_length (by have := okw.l3; omega)
    cases hp : v.pending.getD i false
    · simp only [Bool.false_eq_true, if_false]
      refine ⟨h1, h2, h3, h4, fun l hl => ?_, fun l hl => ?_, fun l hl => ?_⟩
      · rw [h5 l hl]
        by_cases e : l = i
        · subst e; rw [hp]; simp
        · simp only [show l < i + 1 ↔ l < i by omega]
      · rw [h6 l hl]
        by_cases e : l = i
        · subst e; rw [hp]; simp
        · simp only [show l < i + 1 ↔ l < i by omega]
      · rw [h7 l hl]
        by_cases e : l = i
        · subst e; rw [hp]; simp
        · simp only [show l < i + 1 ↔ l < i by omega]
    · simp only [if_true]
      have hs : ∀ l, ln (splice w.lasting (8 * i) (cut w.flushed (8 * i) 8)) l = if l = i then ln v.flushed i else ln w.lasting l := by
        intro l
        rw [ln_splice okw.l1 (by omega) hcl, h2]; rfl
      refine ⟨h1, h2, h3, h4, fun l hl => ?_, fun l hl => ?_, fun l hl => ?_⟩
      · rw [hs l]
        by_cases e : l = i
        · subst e; rw [if_pos rfl, if_pos ⟨by omega, hp⟩]
        · rw [if_neg e, h5 l hl]; simp only [show l < i + 1 ↔ l < i by omega]
      · rw [getD_setB (by rw [okw.l5]; omega)]
        by_cases e : l = i
        · subst e; rw [if_pos rfl, if_pos (by omega)]
        · rw [if_neg e, h6 l hl]; simp only [show l < i + 1 ↔ l < i by omega]
      · rw [getD_setB (by rw [okw.l4]; omega)]
        by_cases e : l = i
        · subst e
          rw [if_pos rfl, if_pos ⟨by omega, hp⟩]
          have := hs l
          rw [if_pos rfl] at this
          show (!decide (ln (splice w.lasting (8 * l) (cut w.flushed (8 * l) 8)) l = ln w.cache l)) = _
          rw [this, h1]
        · rw [if_neg e, h7 l hl]; simp only [show l < i + 1 ↔ l < i by omega]
/-- a device that goes on, with nothing flushed that was not fenced -/
structure Live (v : Dv) (n : Nat) : Prop where
  ok : v.Ok n
  a : v.armed = false
  de : v.dead = false
  pe : ∀ l, l < n → v.pending.getD l false = false
  cl : ∀ l, l < n → v.dirty.getD l false = false → ln v.lasting l = ln v.cache l
/-- .. lines from one up to another were flushed -/
structure Mid (v0 v : Dv) (n a b : Nat) : Prop where
  ok : v.Ok n
  ar : v.armed = false
  de : v.dead = false
  ca : v.cache = v0.cache
  la : v.lasting = v0.lasting
  di : v.dirty = v0.dirty
  pe : ∀ l, l < n → v.pending.getD l false = (decide (a ≤ l ∧ l < b) && v0.dirty.getD l false)
  fl : ∀ l, l < n → v.pending.getD l false = true → ln v.flushed l = ln v.cache l
theorem Live.mid {v : Dv} {n : Nat} (h : Live v n) (a : Nat) : Mid v v n a a := by
  refine ⟨h.ok, h.a, h.de, rfl, rfl, rfl, fun l hl => ?_, fun l hl hp => ?_⟩
  · rw [h.pe l hl]
    have : decide (a ≤ l ∧ l < a) = false := decide_eq_false (by omega)
    rw [this]; rfl
  · rw [h.pe l hl] at hp; cases hp
theorem stepV_go {v : Dv} (h1 : v.armed = false) (h2 : v.dead = false) : v.stops = false ∧ v.stepV = { v with fuse := IntKind.wrap .i64 (v.fuse - 1), steps := IntKind.wrap .i64 (v.steps + 1) } := by
  have : v.stops = false := by unfold Dv.stops; rw [h1, h2]; rfl
  exact ⟨this, by unfold Dv.stepV; rw [this]; rfl⟩
theorem Mid.flush {v0 v : Dv} {n a b : Nat} (h : Mid v0 v n a b) (hb : b < n) (hab : a ≤ b) : (v.flushV b).1 = 0 ∧ Mid v0 (v.flushV b).2 n a (b + 1) := by
  obtain ⟨s1, s2⟩ := stepV_go h.ar h.de
  have hlp : b < v.pending.length := by rw [h.ok.l5]; exact hb
  have hcl : (cut v.cache (8 * b) 8).length = 8 := cut_length (by rw [h.ok.l2]; omega)
  unfold Dv.flushV
  rw [s1, s2]
  simp only [Bool.false_eq_true, if_false, true_and]
  cases hd : v.dirty.getD b false
  · simp only [Bool.false_eq_true, if_false]
    refine ⟨⟨h.ok.big, h.ok.l1, h.ok.l2, h.ok.l3, h.ok.l4, h.ok.l5⟩, h.ar, h.de, h.ca, h.la, h.di, fun l hl => ?_, h.fl⟩
    show v.pending.getD l false = _
    rw [h.pe l hl]
    by_cases e : l = b
    · subst e; rw [← h.di, hd]; try simp
    · simp only [show (a ≤ l ∧ l < b + 1) ↔ (a ≤ l ∧ l < b) by omega]
  · simp only [if_true]
    unfold line8
    refine ⟨⟨h.ok.big, h.ok.l1, h.ok.l2, ?_, h.ok.l4, ?_⟩, h.ar, h.de, h.ca, h.la, h.di, fun l hl => ?_, fun l hl => ?_⟩
    · simp only; rw [splice_length (by rw [hcl, h.ok.l3]; omega)]; exact h.ok.l3
    · simp only [List.length_set]; exact h.ok.l5
    · simp only
      rw [getD_setB hlp]
      by_cases e : l = b
      · subst e; rw [if_pos rfl, ← h.di, hd]; simp; omega
      · rw [if_neg e, h.pe l hl]; simp only [show (a ≤ l ∧ l < b + 1) ↔ (a ≤ l ∧ l < b) by omega]
    · simp only
      rw [getD_setB hlp, ln_splice h.ok.l3 hb hcl]
      by_cases e : l = b
      · subst e; intro _; rw [if_pos rfl]; rfl
      · rw [if_neg e, if_neg e]; exact h.fl l hl
theorem Mid.fence {v0 v : Dv} {n a b : Nat} (h0 : Live v0 n) (h : Mid v0 v n a b) : v.fenceV.1 = 0 ∧ Live v.fenceV.2 n ∧ v.fenceV.2.cache = v0.cache ∧ ∀ l, l < n → ln v.fenceV.2.lasting l = if a ≤ l ∧ l < b then ln v0.cache l else ln v0.lasting l := by
  obtain ⟨s1, s2⟩ := stepV_go h.ar h.de
  have okw : ({ v with fuse := IntKind.wrap .i64 (v.fuse - 1), steps := IntKind.wrap .i64 (v.steps + 1) } : Dv).Ok n := ⟨h.ok.big, h.ok.l1, h.ok.l2, h.ok.l3, h.ok.l4, h.ok.l5⟩
  unfold Dv.fenceV
  rw [s1, s2, h.ok.l5]
  simp only [Bool.false_eq_true, if_false, true_and]
  obtain ⟨h1, h2, h3, h4, h5, h6, h7⟩ := fenceN_spec okw n (Nat.le_refl _)
  have okf := fenceN_ok okw n (Nat.le_refl _)
  generalize fenceN { v with fuse := IntKind.wrap .i64 (v.fuse - 1), steps := IntKind.wrap .i64 (v.steps + 1) } n = w at *
  simp only at h1 h2 h3 h4 h5 h6 h7
  have key : ∀ l, l < n → ln w.lasting l = if a ≤ l ∧ l < b then ln v0.cache l else ln v0.lasting l := by
    intro l hl
    rw [h5 l hl]
    have hp := h.pe l hl
    cases hpl : v.pending.getD l false
    · rw [if_neg (by simp), h.la]
      rw [hpl] at hp
      split
      · rename_i hin
        refine h0.cl l hl ?_
        have : decide (a ≤ l ∧ l < b) = true := by simpa using hin
        rw [this] at hp; simpa using hp.symm
      · rfl
    · rw [if_pos ⟨hl, rfl⟩, h.fl l hl hpl, h.ca]
      rw [hpl] at hp
      have := (Bool.and_eq_true_iff.1 hp.symm).1
      rw [if_pos (by simpa using this)]
  refine ⟨⟨okf, h3.trans h.ar, h4.trans h.de, fun l hl => ?_, fun l hl hd => ?_⟩, h1.trans h.ca, key⟩
  · rw [h6 l hl, if_pos hl]
  · rw [key l hl, h1, h.ca]
    have := h7 l hl
    rw [hd] at this
    have hp := h.pe l hl
    split
    · rfl
    · rename_i hin
      have hf : decide (a ≤ l ∧ l < b) = false := by simpa using hin
      rw [hf, Bool.false_and] at hp
      rw [hp, if_neg (by simp), h.di] at this
      exact h0.cl l hl this.symm
end Go.Proofs.YtdgcbapclnnkkaaGreat.X
end
section
/- Contracts: a device that goes on. Conditions: at most 2^32 lines. -/
set_option linter.unusedVariables false
set_option maxRecDepth 4000
namespace Go.Proofs.YtdgcbapclnnkkaaGreat.X
open Go
section
variable {B : World} {P R : SL} {t : K}
theorem Live.storeV {v : Dv} {n : Nat} {a w : Int} (h : Live v n) (h0 : 0 ≤ a) (h1 : a < v.cache.length) : (v.storeV a w).1 = 0 ∧ Live (v.storeV a w).2 n ∧ (v.storeV a w).2.cache = v.cache.set a.toNat w ∧ (v.storeV a w).2.lasting = v.lasting := by
  obtain ⟨s1, s2⟩ := stepV_go h.a h.de
  have hl2 := h.ok.l2
  have hl4 := h.ok.l4
  unfold Dv.storeV
  rw [if_neg (by omega), s1, s2]
  simp only [Bool.false_eq_true, if_false, true_and, and_true]
  refine ⟨⟨h.ok.big, h.ok.l1, ?_, h.ok.l3, ?_, h.ok.l5⟩, h.a, h.de, h.pe, fun l hl hd => ?_⟩
  · simp only [List.length_set]; exact hl2
  · simp only [List.length_set]; exact hl4
  · simp only at hd ⊢
    rw [getD_setB (by omega)] at hd
    split at hd
    · cases hd
    · rename_i hne
      have := h.cl l hl hd
      rw [this]
      unfold ln cut
      apply List.ext_getElem?
      intro j
      by_cases hj : j < 8
      · rw [List.getElem?_take_of_lt hj, List.getElem?_take_of_lt hj, List.getElem?_drop, List.getElem?_drop, List.getElem?_set]
        rw [if_neg (by omega)]
      · rw [List.getElem?_eq_none (by simp; omega), List.getElem?_eq_none (by simp; omega)]
/-- what a live device is: its words now, and those that last -/
def LDev (d n : Nat) (c la : List Int) : SL := ex fun v => Dev d v * pu (Live v n ∧ v.cache = c ∧ v.lasting = la)
theorem LDev_open {d n : Nat} {c la : List Int} (h : ∀ v, Live v n → v.cache = c → v.lasting = la → T B (R * Dev d v) t) : T B (R * LDev d n c la) t := by
  refine T_ex fun v => ?_
  rw [← sep_assoc]
  exact T_pu fun hv => h v hv.1 hv.2.1 hv.2.2
theorem LDev_close {d n : Nat} {v : Dv} {c la : List Int} (hv : Live v n) (h1 : v.cache = c) (h2 : v.lasting = la) (h : T B (R * LDev d n c la) t) : T B (R * Dev d v) t := by
  refine T_puI (φ := Live v n ∧ v.cache = c ∧ v.lasting = la) ⟨hv, h1, h2⟩ ?_
  rw [sep_assoc]
  exact T_exI v h
theorem LLen_c {d n : Nat} {c la : List Int} {k : Int → K} (hk : c.length = 8 * n → n ≤ 2 ^ 32 → T B (R * LDev d n c la) (k ((8 * n : Nat) : Int))) : T B (R * LDev d n c la) (c_nvm_Device_Len (da d) k) := by
  refine LDev_open fun v hv h1 h2 => ?_
  refine nvm_Len_c (LDev_close hv h1 h2 ?_)
  have hl := hv.ok.l2
  rw [hl]
  exact hk (h1 ▸ hl) hv.ok.big
theorem LGet_c {d n : Nat} {c la : List Int} {a : Int} {k : Int → K} (hk : T B (R * LDev d n c la) (k (getI c a))) : T B (R * LDev d n c la) (c_nvm_Device_Get (da d) a k) := by
  refine LDev_open fun v hv h1 h2 => ?_
  refine nvm_Get_c (LDev_close hv h1 h2 ?_)
  rw [h1]; exact hk
theorem LLasting_c {d n : Nat} {c la : List Int} {a : Int} {k : Int → K} (hk : T B (R * LDev d n c la) (k (getI la a))) : T B (R * LDev d n c la) (c_nvm_Device_Lasting (da d) a k) := by
  refine LDev_open fun v hv h1 h2 => ?_
  refine nvm_Lasting_c (LDev_close hv h1 h2 ?_)
  rw [h2]; exact hk
theorem LStore_c {d n : Nat} {c la : List Int} {a w : Int} {k : Int → K} (h0 : 0 ≤ a) (h1 : a < 8 * n) (hk : T B (R * LDev d n (c.set a.toNat w) la) (k 0)) : T B (R * LDev d n c la) (c_nvm_Device_Store (da d) a w k) := by
  refine LDev_open fun v hv e1 e2 => ?_
  have hl := hv.ok.l2
  obtain ⟨s1, s2, s3, s4⟩ := hv.storeV (w := w) h0 (by omega)
  refine nvm_Store_c hv.ok ?_
  rw [s1]
  exact LDev_close s2 (by rw [s3, e1]) (by rw [s4, e2]) hk
/-- a word out of range -/
theorem LStoreOut_c {d n : Nat} {c la : List Int} {a w : Int} {k : Int → K} (h1 : a < 0 ∨ 8 * n ≤ a) (hk : T B (R * LDev d n c la) (k 2)) : T B (R * LDev d n c la) (c_nvm_Device_Store (da d) a w k) := by
  refine LDev_open fun v hv e1 e2 => ?_
  have hl := hv.ok.l2
  have hs : v.storeV a w = (2, v) := by unfold Dv.storeV; exact if_pos (by omega)
  refine nvm_Store_c hv.ok ?_
  rw [hs]
  exact LDev_close hv e1 e2 hk
/-- what lasts behind a Persist -/
def Pst (n a b : Nat) (c la la' : List Int) : Prop := la'.length = 8 * n ∧ ∀ l, l < n → ln la' l = if a ≤ l ∧ l < b then ln c l else ln la l
theorem LPersist_c {d n : Nat} {c la : List Int} {a w : Int} {k : Int → K} (h0 : 0 ≤ a) (h1 : 0 < w) (h2 : a + w ≤ 8 * n)
    (hk : ∀ la', Pst n (a / 8).toNat ((a + w - 1) / 8 + 1).toNat c la la' → T B (R * LDev d n c la') (k 0)) : T B (R * LDev d n c la) (c_nvm_Device_Persist (da d) a w k) := by
  refine T_of (nvm_Device_Persist_ok _ a w k) ?_
  (repeat' (first | with_reducible refine T_brT ?_ | with_reducible refine T_brD (fun _ => ?_) (fun _ => ?_)))
  · exfalso; omega
  · exfalso; omega
  refine LLen_c fun hl hn => ?_
  (repeat' (first | with_reducible refine T_brT ?_ | with_reducible refine T_brD (fun _ => ?_) (fun _ => ?_)))
  · exfalso; omega
  refine LLen_c fun hl hn => ?_
  (repeat' (with_reducible refine T_brD (fun _ => ?_) (fun _ => ?_)))
  · rename_i h
    exfalso
    rw [w64 (by omega) (by omega)] at h; omega
  · obtain ⟨a0, ha0⟩ : ∃ m : Nat, a / 8 = m := ⟨(a / 8).toNat, by omega⟩
    obtain ⟨b0, hb0⟩ : ∃ m : Nat, (a + w - 1) / 8 + 1 = m := ⟨((a + w - 1) / 8 + 1).toNat, by omega⟩
    rw [ha0, hb0] at hk
    simp only [Int.toNat_natCast] at hk
    refine LDev_open fun v hv e1 e2 => ?_
    subst e1 e2
    have e3 : IntKind.wrap .i64 (Int.tdiv a 8) = (a0 : Int) := by rw [Int.tdiv_eq_ediv_of_nonneg h0, w64 (by omega) (by omega)]; exact ha0
    have e4 : IntKind.wrap .i64 (Int.tdiv (IntKind.wrap .i64 ((IntKind.wrap .i64 (a + w)) - 1)) 8) = (b0 : Int) - 1 := by
      rw [w64 (n := a + w) (by omega) (by omega), w64 (n := a + w - 1) (by omega) (by omega), Int.tdiv_eq_ediv_of_nonneg (by omega), w64 (by omega) (by omega)]; omega
    (dsimp only [nvm_Device_Persist, nvm_Device_Persist_s0, nvm_Device_Persist_s1, nvm_Device_Persist_s2, nvm_Device_Persist_s3, nvm_Device_Persist_s4, nvm_Device_Persist_s5, nvm_Device_Persist_s6, nvm_Device_Persist_l7, nvm_Device_Persist_s8, nvm_Device_Persist_s9, nvm_Device_Persist_s10, nvm_Device_Persist_s11, nvm_Device_Persist_s12])
    rw [e3, e4]
    have hm0 := hv.mid a0
    have close : ∀ (v' : Dv) (j : Nat) (t : K), Mid v v' n a0 j → T B (R * ex fun v' => Dev d v' * pu (Mid v v' n a0 j)) t → T B (R * Dev d v') t := by
      intro v' j t hm h
      refine T_puI hm ?_
      rw [sep_assoc]
      exact T_exI v' h
    refine T_lpW (fun m s => R * ex fun v' => Dev d v' * pu (Mid v v' n a0 s.1.toNat)) (fun m (s : Int × Unit) => ∃ i : Nat, s.1 = i ∧ a0 ≤ i ∧ i ≤ b0 ∧ m = b0 - i) (b0 - a0)
      (fun t ht => close v a0 t hm0 (by simpa using ht)) ⟨a0, rfl, by omega, by omega, rfl⟩ ?_
    rintro m ⟨s1, u⟩ c ⟨i, h3, h4, h5, h6⟩ hc
    simp only at h3
    subst h3 h6
    simp only [Int.toNat_natCast]
    refine T_ex fun v' => ?_
    rw [← sep_assoc]
    refine T_pu fun hm => ?_
    (repeat' (with_reducible refine T_brD (fun _ => ?_) (fun _ => ?_)))
    · rename_i hle
      have hlt : i < b0 := by omega
      obtain ⟨f1, f2⟩ := hm.flush (by omega) h4
      refine nvm_Flush_c hm.ok (by omega) ?_
      rw [f1]
      skip
      have := hc (b0 - (i + 1)) (IntKind.wrap .i64 ((i : Int) + 1), ()) (by omega) ⟨i + 1, w64 (by omega) (by omega), by omega, by omega, rfl⟩
      have e : (IntKind.wrap .i64 ((i : Int) + 1)).toNat = i + 1 := by rw [w64 (by omega) (by omega)]; omega
      simp only [e] at this
      (repeat' (with_reducible refine T_brNE (fun _ => ?_) (fun _ => ?_)))
      · rename_i hx; exact absurd rfl hx
      exact close _ (i + 1) _ f2 this
    · rename_i hgt
      have hib : i = b0 := by omega
      subst hib
      obtain ⟨f1, f2, f3, f4⟩ := hm.fence hv
      refine nvm_Fence_c hm.ok ?_
      rw [f1]
      exact LDev_close f2 f3 rfl (hk _ ⟨f2.ok.l1, f4⟩)
  · exfalso; omega
end
end Go.Proofs.YtdgcbapclnnkkaaGreat.X
end
section
/- Contracts: devices that are made. Conditions: at most 2^32 lines. -/
set_option linter.unusedVariables false
set_option maxRecDepth 4000
namespace Go.Proofs.YtdgcbapclnnkkaaGreat.X
open Go
section
variable {B : World} {P R : SL} {t t1 t2 : K}
theorem T_andK (h1 : T B P t1) (h2 : T B P t2) : T B P (andK t1 t2) := fun w s => ⟨h1 w s, h2 w s⟩
theorem T_true : T B P (fun _ => True) := fun _ _ => trivial
def newV (l : List Int) (n : Nat) : Dv := ⟨l, l, List.replicate (8 * n) 0, List.replicate n false, List.replicate n false, 0, 0, false, false⟩
theorem newV_live {l : List Int} {n : Nat} (hl : l.length = 8 * n) (hn : n ≤ 2 ^ 32) : Live (newV l n) n := by
  refine ⟨⟨hn, hl, hl, by simp [newV], by simp [newV], by simp [newV]⟩, rfl, rfl, fun i hi => ?_, fun i hi _ => rfl⟩
  simp only [newV, List.getD_eq_getElem?_getD, List.getElem?_replicate, hi, if_true, Option.getD_some]
theorem Dev_new {d n : Nat} {l : List Int} (hl : l.length = 8 * n) (hn : n ≤ 2 ^ 32) {s1 s2 : Sl} {p3 p4 p5 : Option Addr} {n3 c3 n4 c4 n5 c5 : Nat}
    (hP : P = R * vec 109 1 s1 (wds l) * vec 109 1 s2 (wds l) * vec 109 1 ⟨p3, n3, c3⟩ (wds (List.replicate (8 * n) 0)) * vec 4 1 ⟨p4, n4, c4⟩ (bls (List.replicate n false)) * vec 4 1 ⟨p5, n5, c5⟩ (bls (List.replicate n false)))
    (h : T B (R * LDev d n l l) t) :
    T B (P * pt d (.cells #[s1.v, s2.v, .slice p3 n3 c3, .slice p4 n4 c4, .slice p5 n5 c5, .int .i64 0, .int .i64 0, .bool false, .bool false] 165)) t := by
  subst hP
  exact Dev_close (v := newV l n) (s1, s2, ⟨p3, n3, c3⟩, ⟨p4, n4, c4⟩, ⟨p5, n5, c5⟩) (LDev_close (newV_live hl hn) rfl rfl h)
theorem nvm_load_c {s : Sl} {l : List Int} {n : Nat} (hl : l.length = 8 * n) (hn : n ≤ 2 ^ 32) {k : Option Addr → K} (hk : ∀ d, T B (R * LDev d n l l) (k (da d))) : T B (R * vec 109 1 s (wds l)) (c_nvm_load s k) := by
  refine T_of (nvm_load_ok s k) ?_
  refine T_vlen (.last) fun hs => ?_
  rw [wds_len, Nat.mul_one, hl] at hs
  have e1 : IntKind.wrap .i64 (Int.tdiv ((s.n : Nat) : Int) 8) = ((n : Nat) : Int) := by rw [hs, Int.tdiv_eq_ediv_of_nonneg (by omega), w64 (by omega) (by omega)]; omega
  (dsimp only [nvm_load, nvm_load_s0, nvm_load_s1])
  rw [e1, hs]
  (repeat (with_reducible refine T_tick ?_))
  have hr3 : repZ (zerosP Tryz.prog 109) (Int.toNat ((8 * n : Nat) : Int)) = wds (List.replicate (8 * n) 0) := by rw [Int.toNat_natCast, repZ_wds]
  have hr4 : repZ (zerosP Tryz.prog 4) (Int.toNat ((n : Nat) : Int)) = bls (List.replicate n false) := by rw [Int.toNat_natCast, repZ_bls]
  repeat' (first
    | with_reducible exact T_true
    | with_reducible refine T_andK ?_ ?_
    | refine clone_u64_c (l := l) (by omega) (Rd.vec (E := 109) (s := s) (by (repeat (first | with_reducible exact Frm.last | with_reducible exact Frm.one | with_reducible apply Frm.init)))) fun s' => ?_
    | refine T_mkV kd_u64 (by omega) (by omega) (by omega) fun b => ?_
    | refine T_mkV kd_bool (by omega) (by omega) (by omega) fun b => ?_
    | with_reducible refine T_al fun d => ?_)
  all_goals
    rw [hr3, hr4]
    refine Dev_new (R := R) hl hn ?_ (hk _)
    ac_rfl
theorem nvm_New_c {w : Int} {n : Nat} (hw : w = 8 * n) (hn : n ≤ 2 ^ 32) {k : Option Addr → K} (hk : ∀ d, T B (R * LDev d n (List.replicate (8 * n) 0) (List.replicate (8 * n) 0)) (k (da d))) : T B R (c_nvm_New w k) := by
  refine T_of (nvm_New_ok w k) ?_
  subst hw
  refine bits_Up_c (by omega) (by omega) (by omega) ?_
  have e1 : (8 * (n : Int) + 8 - 1) / 8 = n := by omega
  have e2 : IntKind.wrap .i64 ((n : Int) * 8) = ((8 * n : Nat) : Int) := by rw [w64 (by omega) (by omega)]; omega
  (dsimp only [nvm_New, nvm_New_s0, nvm_New_s1, nvm_New_s2])
  rw [e1, e2]
  refine T_mkV kd_u64 (by omega) (by omega) (by omega) fun b => ?_
  rw [Int.toNat_natCast, repZ_wds]
  exact nvm_load_c (by simp) hn hk
end
end Go.Proofs.YtdgcbapclnnkkaaGreat.X
end
section
/- Elements of several cells, by assertions. Conditions: sizes below 2^40 elements. -/
set_option linter.unusedVariables false
set_option maxRecDepth 4000
namespace Go.Proofs.YtdgcbapclnnkkaaGreat.X
open Go
/-- cells that an address leads to, wherever the assertion holds -/
def At (P : SL) (a : Addr) (vs : List Value) : Prop := ∀ B w, Sat B P w → ∀ j v, vs[j]? = some v → w.cell? (a.add j) = some v
section
variable {B : World} {P Q R : SL} {t : K}
theorem At.init {a : Addr} {vs : List Value} (h : At P a vs) : At (P * Q) a vs := fun B w s => h B w s.left
theorem T_ixEl {s : Sl} {sz : Nat} {vs : List Value} {i : Int} {k : Addr → K} (hsz : 0 < sz) (h : Rd P s sz vs) (h0 : 0 ≤ i) (hi : (i.toNat + 1) * sz ≤ vs.length) (ht : ∀ a, At P a (cut vs (i.toNat * sz) sz) → T B P (k a)) : T B P (ixS s.p s.n i sz k) := by
  intro w hw
  obtain ⟨e1, _, e3⟩ := h B w hw
  have hlt : i.toNat < s.n := by
    rw [e1] at hi
    exact Nat.le_of_mul_le_mul_right hi hsz
  rw [Nat.add_mul, Nat.one_mul] at hi
  rcases e3 with ⟨_, rfl⟩ | ⟨a, p1, p2⟩
  · simp at hi; omega
  · refine ⟨a, p1, ⟨h0, by omega⟩, ht _ (fun B' w' hw' j v hj => ?_) w hw⟩
    obtain ⟨_, _, f3⟩ := h B' w' hw'
    have hjs : j < sz := by
      have : (cut vs (i.toNat * sz) sz).length = sz := cut_length hi
      rw [← this]; exact (List.getElem?_eq_some_iff.1 hj).1
    rw [cut_get hjs] at hj
    rcases f3 with ⟨q1, _⟩ | ⟨a', q1, q2⟩
    · rw [p1] at q1; cases q1
    · rw [p1] at q1; cases q1
      rw [add_add]; exact q2 _ _ hj
theorem T_ldAt {a : Addr} {vs : List Value} {j : Nat} {kd : IntKind} {n : Int} {k : Int → K} (h : At P a vs) (hj : vs[j]? = some (.int kd n)) (ht : T B P (k n)) : T B P (ldI kd (a.add j) k) :=
  fun w hw => ⟨n, h B w hw j _ hj, ht w hw⟩
theorem T_vopen {E : TypeId} {sz : Nat} {s : Sl} {vs : List Value} (hF : Frm P (vec E sz s vs) R) (hne : vs ≠ [])
    (ht : ∀ b rest, s.p = some ⟨b, 0, none⟩ → s.n * sz = vs.length → s.c * sz = vs.length + rest.length → s.c ≤ maxLen → T B (R * pt b (.cells (vs ++ rest).toArray E)) t) : T B P t := by
  unfold Frm at hF; subst hF
  intro w hw
  rcases vec_cases hw with ⟨_, _, rfl, _⟩ | ⟨b, rest, h1, h2, h3, h4, hR⟩
  · exact absurd rfl hne
  · exact ht b rest h1 h2 h3 h4 w hR
/-- headers of blocks -/
def hds (l : List Hd) : List Value := l.flatMap fun h => [.int .i64 h.1, .int .i64 h.2.1, .int .i64 h.2.2]
def prs (l : List (Int × Int)) : List Value := l.flatMap fun h => [.int .i64 h.1, .int .i64 h.2]
theorem kd_hd : Kd Tryz.prog 80 143 3 := ⟨by kernel_rfl, by kernel_rfl, by kernel_rfl, by kernel_rfl, by kernel_rfl, by decide +kernel, by decide +kernel⟩
theorem kd_sp : Kd Tryz.prog 150 152 2 := ⟨by kernel_rfl, by kernel_rfl, by kernel_rfl, by kernel_rfl, by kernel_rfl, by decide +kernel, by decide +kernel⟩
theorem hds_cons (h : Hd) (l : List Hd) : hds (h :: l) = .int .i64 h.1 :: .int .i64 h.2.1 :: .int .i64 h.2.2 :: hds l := rfl
theorem prs_cons (h : Int × Int) (l : List (Int × Int)) : prs (h :: l) = .int .i64 h.1 :: .int .i64 h.2 :: prs l := rfl
theorem hds_append (l m : List Hd) : hds (l ++ m) = hds l ++ hds m := List.flatMap_append
theorem prs_append (l m : List (Int × Int)) : prs (l ++ m) = prs l ++ prs m := List.flatMap_append
theorem hds_len (l : List Hd) : (hds l).length = l.length * 3 := by
  induction l with
  | nil => rfl
  | cons h l ih => rw [hds_cons]; simp only [List.length_cons, ih]; omega
theorem prs_len (l : List (Int × Int)) : (prs l).length = l.length * 2 := by
  induction l with
  | nil => rfl
  | cons h l ih => rw [prs_cons]; simp only [List.length_cons, ih]; omega
theorem hds_scal (l : List Hd) : (hds l).all scal = true := by
  induction l with
  | nil => rfl
  | cons h l ih => rw [hds_cons]; simp only [List.all_cons, ih, scal, Bool.and_self]
theorem prs_scal (l : List (Int × Int)) : (prs l).all scal = true := by
  induction l with
  | nil => rfl
  | cons h l ih => rw [prs_cons]; simp only [List.all_cons, ih, scal, Bool.and_self]
theorem hds_cut {l : List Hd} {i : Nat} (h : i < l.length) : cut (hds l) (i * 3) 3 = [.int .i64 l[i].1, .int .i64 l[i].2.1, .int .i64 l[i].2.2] := by
  induction l generalizing i with
  | nil => simp at h
  | cons x l ih =>
    cases i with
    | zero => rfl
    | succ i =>
      have := ih (i := i) (by simpa using h)
      rw [hds_cons, List.getElem_cons_succ, ← this]
      unfold cut
      rw [show (i + 1) * 3 = i * 3 + 1 + 1 + 1 by omega]; rfl
theorem prs_cut {l : List (Int × Int)} {i : Nat} (h : i < l.length) : cut (prs l) (i * 2) 2 = [.int .i64 l[i].1, .int .i64 l[i].2] := by
  induction l generalizing i with
  | nil => simp at h
  | cons x l ih =>
    cases i with
    | zero => rfl
    | succ i =>
      have := ih (i := i) (by simpa using h)
      rw [prs_cons, List.getElem_cons_succ, ← this]
      unfold cut
      rw [show (i + 1) * 2 = i * 2 + 1 + 1 by omega]; rfl
theorem hds_set {l : List Hd} {i : Nat} {x : Hd} (h : i < l.length) : (((hds l).set (i * 3) (.int .i64 x.1)).set (i * 3 + 1) (.int .i64 x.2.1)).set (i * 3 + 2) (.int .i64 x.2.2) = hds (l.set i x) := by
  induction l generalizing i with
  | nil => simp at h
  | cons y l ih =>
    cases i with
    | zero => rfl
    | succ i =>
      have := ih (i := i) (by simpa using h)
      rw [List.set_cons_succ, hds_cons, hds_cons, ← this, show (i + 1) * 3 = i * 3 + 1 + 1 + 1 by omega]; rfl
theorem prs_set1 {l : List (Int × Int)} {i : Nat} {x : Int} (h : i < l.length) : (prs l).set (i * 2 + 1) (.int .i64 x) = prs (l.set i (l[i].1, x)) := by
  induction l generalizing i with
  | nil => simp at h
  | cons y l ih =>
    cases i with
    | zero => rfl
    | succ i =>
      have := ih (i := i) (by simpa using h)
      rw [List.getElem_cons_succ, List.set_cons_succ, prs_cons, prs_cons, ← this, show (i + 1) * 2 + 1 = i * 2 + 1 + 1 + 1 by omega]; rfl
theorem repZ_hds (n : Nat) : repZ (zerosP Tryz.prog 143) n = hds (List.replicate n (0, 0, 0)) := by
  have : zerosP Tryz.prog 143 = [.int .i64 0, .int .i64 0, .int .i64 0] := by kernel_rfl
  rw [this]
  induction n with
  | zero => rfl
  | succ n ih => rw [List.replicate_succ, hds_cons, ← ih]; rfl
/-- a header out of a slice -/
theorem T_ixH {s : Sl} {l : List Hd} {i : Int} {k : Addr → K} (h : Rd P s 3 (hds l)) (h0 : 0 ≤ i) (hi : i.toNat < l.length)
    (ht : ∀ a, At P a [.int .i64 l[i.toNat].1, .int .i64 l[i.toNat].2.1, .int .i64 l[i.toNat].2.2] → T B P (k a)) : T B P (ixS s.p s.n i 3 k) := by
  refine T_ixEl (by omega) h h0 (by rw [hds_len]; omega) fun a ha => ?_
  rw [hds_cut hi] at ha
  exact ht a ha
theorem T_ixP {s : Sl} {l : List (Int × Int)} {i : Int} {k : Addr → K} (h : Rd P s 2 (prs l)) (h0 : 0 ≤ i) (hi : i.toNat < l.length)
    (ht : ∀ a, At P a [.int .i64 l[i.toNat].1, .int .i64 l[i.toNat].2] → T B P (k a)) : T B P (ixS s.p s.n i 2 k) := by
  refine T_ixEl (by omega) h h0 (by rw [prs_len]; omega) fun a ha => ?_
  rw [prs_cut hi] at ha
  exact ht a ha
theorem T_stH {s : Sl} {l : List Hd} {i : Int} {x : Hd} (hF : Frm P (vec 143 3 s (hds l)) R) (h0 : 0 ≤ i) (hi : i.toNat < l.length) (ht : T B (R * vec 143 3 s (hds (l.set i.toNat x))) t) :
    T B P (ixS s.p s.n i 3 fun a => stK (a.add 0) (.int .i64 x.1) (stK (a.add 1) (.int .i64 x.2.1) (stK (a.add 2) (.int .i64 x.2.2) t))) := by
  have hl := hds_len l
  refine T_vopen hF (fun e => by rw [e] at hl; simp at hl; omega) fun b rest h1 h2 h3 h4 => ?_
  refine T_ixS h1 h0 (by omega) ?_
  rw [add_mk, Nat.zero_add]
  refine T_st (i := i.toNat * 3) (by rw [add_mk]; rfl) Upd.last (by simp; omega) ?_
  refine T_st (i := i.toNat * 3 + 1) (by rw [add_mk]) Upd.last (by simp; omega) ?_
  refine T_st (i := i.toNat * 3 + 2) (by rw [add_mk]) Upd.last (by simp; omega) ?_
  rw [List.set_append_left _ _ (by omega), List.set_append_left _ _ (by simp; omega), List.set_append_left _ _ (by simp; omega), hds_set hi]
  refine T_vecI h1 ?_ ?_ h4 ht
  · rw [h2, hds_len, hds_len]; simp
  · rw [h3, hds_len, hds_len]; simp
theorem T_stP1 {s : Sl} {l : List (Int × Int)} {i : Int} {x : Int} (hF : Frm P (vec 152 2 s (prs l)) R) (h0 : 0 ≤ i) (hi : i.toNat < l.length) (ht : T B (R * vec 152 2 s (prs (l.set i.toNat (l[i.toNat].1, x)))) t) :
    T B P (ixS s.p s.n i 2 fun a => stK ((a.add 1).add 0) (.int .i64 x) t) := by
  have hl := prs_len l
  refine T_vopen hF (fun e => by rw [e] at hl; simp at hl; omega) fun b rest h1 h2 h3 h4 => ?_
  refine T_ixS h1 h0 (by omega) ?_
  rw [add_mk, Nat.zero_add]
  refine T_st (i := i.toNat * 2 + 1) (by rw [add_mk, add_mk]) Upd.last (by simp; omega) ?_
  rw [List.set_append_left _ _ (by omega), prs_set1 hi]
  refine T_vecI h1 ?_ ?_ h4 ht
  · rw [h2, prs_len, prs_len]; simp
  · rw [h3, prs_len, prs_len]; simp
end
end Go.Proofs.YtdgcbapclnnkkaaGreat.X
end
