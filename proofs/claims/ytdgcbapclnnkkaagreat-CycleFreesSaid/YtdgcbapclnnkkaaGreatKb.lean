/- Part 2 of the proof that the law holds for every input: the theorems of this part. Conditions: each theorem bears its own; the last has none. -/
import Derived.Test.YtdgcbapclnnkkaaGreatKa
set_option linter.all false
set_option maxRecDepth 4000
namespace Go.Proofs.YtdgcbapclnnkkaaGreat.X
open Go
section
set_option maxRecDepth 100000
abbrev Zaa0 (k : ((Int × Bool) → K)) (x2 : Int) (x3 : Bool) : K :=
 k (x2, x3)
abbrev Zaa1 (k : ((Int × Bool) → K)) (o_1 : Addr) : K :=
 ldI .i64 (o_1.add 0) fun x4_0 =>
 ldI .i64 (o_1.add 1) fun x4_1 =>
 Yav (x4_0, x4_1) fun x5 =>
 Ylt x5 fun x6 =>
 Zaa0 k x6.1 x6.2
abbrev Ynz (o : (Int × Int)) : M (Int × Bool) := fun k =>
 alK (.cells #[.int .i64 o.1, .int .i64 o.2] 68) fun b =>
 Zaa1 k ⟨b, 0, none⟩
theorem Ykn (o : (Int × Int)) (k : (Int × Bool) → K) (w : World) (h_ : Ynz o k w) : Ybj o k w :=
 Yae (P := Tryz.prog) Tryz.func78 rfl (by kernel_rfl)
 (Qs [(1, .addr)] [] (fun z_ => Zaa1 k z_.1)
 Qz
 (fun (o_1, _) => Qs [(2, .int .i64), (3, .bool)] [] (fun z_ => Zaa0 k z_.1 z_.2.1)
 Qz
 (fun (x2, x3, _) => Qr))) h_
abbrev Zab0 (k : (Int → K)) (x4 : Int) : K :=
 k x4
abbrev Zab1 (k : (Int → K)) (x4_1 : Int) : K :=
 k x4_1
abbrev Zab2 (at_1 : Int) (k : (Int → K)) (x12 : Bool) : K :=
 brK x12
 (Zab1 k (-1))
 (Zab0 k (IntKind.wrap .i64 (Int.tdiv at_1 512)))
abbrev Zab3 (at_1 : Int) (k : (Int → K)) (g_1 : Addr) : K :=
 brK (decide (at_1 < 0))
 (Zab2 at_1 k true)
 (ldI .i64 (g_1.add 0) fun x9_0 =>
 Yco x9_0 fun x10 =>
 Zab2 at_1 k (decide (at_1 ≥ x10)))
abbrev Yko (g : Int) (at_1 : Int) : M Int := fun k =>
 alK (.cells #[.int .i64 g] 43) fun b =>
 Zab3 at_1 k ⟨b, 0, none⟩
theorem Yh1 (g : Int) (at_1 : Int) (k : Int → K) (w : World) (h_ : Yko g at_1 k w) : Ya3 g at_1 k w :=
 Yae (P := Tryz.prog) Tryz.func80 rfl (by kernel_rfl)
 (Qs [(2, .addr)] [1] (fun z_ => Zab3 at_1 k z_.1)
 Qz
 (fun (g_1, _) => Qs [] [1] (fun z_ => Zab0 k (IntKind.wrap .i64 (Int.tdiv at_1 512)))
 (Qs [(12, .bool)] [1] (fun z_ => Zab2 at_1 k z_.1)
 (Qp [2])
 (fun (x12, _) => Qc (x12) (Zab1 k (-1)) (Zab0 k (IntKind.wrap .i64 (Int.tdiv at_1 512))) (Qs [(4, .int .i64)] [] (fun z_ => Zab1 k z_.1)
 Qz
 (fun (x4_1, _) => Qr)) Qk))
 (fun _ => Qs [(4, .int .i64)] [] (fun z_ => Zab0 k z_.1)
 Qz
 (fun (x4, _) => Qr)))) h_
abbrev Zac0 (k : (Int → K)) (x2 : Int) : K :=
 k x2
abbrev Zac1 (k : (Int → K)) (x2_1 : Int) : K :=
 k x2_1
abbrev Zac2 (k : (Int → K)) (n : Int) (x14 : Bool) : K :=
 brK x14
 (Zac1 k 0)
 (Zac0 k n)
abbrev Zac3 (k : (Int → K)) (n : Int) (e : Int) : K :=
 Zac2 k n (e != 0)
abbrev Zac4 (k : (Int → K)) (o_1 : Addr) : K :=
 ldI .i64 (o_1.add 0) fun x7 =>
 ldI .i64 (o_1.add 1) fun x9 =>
 Yke x7 x9 fun x10 =>
 Zac3 k x10.1 x10.2
abbrev Ypc (o : (Int × Int)) : M Int := fun k =>
 alK (.cells #[.int .i64 o.1, .int .i64 o.2] 68) fun b =>
 Zac4 k ⟨b, 0, none⟩
theorem Yl3 (o : (Int × Int)) (k : Int → K) (w : World) (h_ : Ypc o k w) : Yav o k w :=
 Yae (P := Tryz.prog) Tryz.func86 rfl (by kernel_rfl)
 (Qs [(1, .addr)] [] (fun z_ => Zac4 k z_.1)
 Qz
 (fun (o_1, _) => Qs [(3, .int .i64), (4, .int .i64)] [] (fun z_ => Zac3 k z_.1 z_.2.1)
 Qz
 (fun (n, e, _) => Qs [] [3] (fun z_ => Zac0 k n)
 (Qs [(14, .bool)] [3] (fun z_ => Zac2 k n z_.1)
 Qz
 (fun (x14, _) => Qc (x14) (Zac1 k 0) (Zac0 k n) (Qs [(2, .int .i64)] [] (fun z_ => Zac1 k z_.1)
 Qz
 (fun (x2_1, _) => Qr)) Qk))
 (fun _ => Qs [(2, .int .i64)] [] (fun z_ => Zac0 k z_.1)
 Qz
 (fun (x2, _) => Qr))))) h_
abbrev Zad0 (k : (Int → K)) (x2 : Int) : K :=
 k x2
abbrev Zad1 (k : (Int → K)) (g_1 : Addr) : K :=
 ldI .i64 (g_1.add 0) fun x4 =>
 Zad0 k (IntKind.wrap .i64 ((max2I 0 (IntKind.wrap .i64 (x4 - 1))) * 512))
abbrev Yn0 (g : Int) : M Int := fun k =>
 alK (.cells #[.int .i64 g] 43) fun b =>
 Zad1 k ⟨b, 0, none⟩
theorem Ykp (g : Int) (k : Int → K) (w : World) (h_ : Yn0 g k w) : Yeb g k w :=
 Yae (P := Tryz.prog) Tryz.func87 rfl (by kernel_rfl)
 (Qs [(1, .addr)] [] (fun z_ => Zad1 k z_.1)
 Qz
 (fun (g_1, _) => Qs [(2, .int .i64)] [] (fun z_ => Zad0 k z_.1)
 Qz
 (fun (x2, _) => Qr))) h_
abbrev Zae0 (k : (Int → K)) (x2 : Int) : K :=
 k x2
abbrev Zae1 (k : (Int → K)) (o_1 : Addr) : K :=
 ldI .i64 (o_1.add 0) fun x11_0 =>
 ldI .i64 (o_1.add 1) fun x11_1 =>
 Yav (x11_0, x11_1) fun x12 =>
 Ykf x12 512 fun x13 =>
 Zae0 k x13
abbrev Zae2 (k : (Int → K)) (x2_1 : Int) : K :=
 k x2_1
abbrev Zae3 (k : (Int → K)) (o_1 : Addr) (x10 : Bool) : K :=
 brK x10
 (Zae2 k 0)
 (Zae1 k o_1)
abbrev Zae4 (k : (Int → K)) (o_1 : Addr) (ok : Bool) : K :=
 Zae3 k o_1 ok
abbrev Zae5 (k : (Int → K)) (o_1 : Addr) : K :=
 ldI .i64 (o_1.add 0) fun x6_0 =>
 ldI .i64 (o_1.add 1) fun x6_1 =>
 Ybj (x6_0, x6_1) fun x7 =>
 Zae4 k o_1 x7.2
abbrev Ymx (o : (Int × Int)) : M Int := fun k =>
 alK (.cells #[.int .i64 o.1, .int .i64 o.2] 68) fun b =>
 Zae5 k ⟨b, 0, none⟩
theorem Yju (o : (Int × Int)) (k : Int → K) (w : World) (h_ : Ymx o k w) : Ycn o k w :=
 Yae (P := Tryz.prog) Tryz.func88 rfl (by kernel_rfl)
 (Qs [(1, .addr)] [] (fun z_ => Zae5 k z_.1)
 Qz
 (fun (o_1, _) => Qs [] [1] (fun z_ => Zae1 k o_1)
 (Qs [(4, .bool)] [1] (fun z_ => Zae4 k o_1 z_.1)
 Qz
 (fun (ok, _) => Qs [(10, .bool)] [1] (fun z_ => Zae3 k o_1 z_.1)
 Qz
 (fun (x10, _) => Qc (x10) (Zae2 k 0) (Zae1 k o_1) (Qs [(2, .int .i64)] [] (fun z_ => Zae2 k z_.1)
 Qz
 (fun (x2_1, _) => Qr)) Qk)))
 (fun _ => Qs [(2, .int .i64)] [] (fun z_ => Zae0 k z_.1)
 Qz
 (fun (x2, _) => Qr)))) h_
abbrev Zaf0 (k : (Int → K)) (x2 : Int) : K :=
 k x2
abbrev Zaf1 (k_1 : Int) (k : (Int → K)) : K :=
 Yit fun x6 =>
 ixI .i64 x6.toArray 32 k_1 fun x8 =>
 Zaf0 k x8
abbrev Zaf2 (k : (Int → K)) (x2_1 : Int) : K :=
 k x2_1
abbrev Zaf3 (k_1 : Int) (k : (Int → K)) (x5 : Bool) : K :=
 brK x5
 (Zaf2 k 0)
 (Zaf1 k_1 k)
abbrev Zaf4 (k_1 : Int) (k : (Int → K)) : K :=
 Ya8 k_1 fun x4 =>
 Zaf3 k_1 k (!x4)
abbrev Yyq (k_1 : Int) : M Int := fun k =>
 Zaf4 k_1 k
theorem Ysx (k_1 : Int) (k : Int → K) (w : World) (h_ : Yyq k_1 k w) : Yde k_1 k w :=
 Yae (P := Tryz.prog) Tryz.func93 rfl (by kernel_rfl)
 (Qs [] [0] (fun z_ => Zaf4 k_1 k)
 Qz
 (fun _ => Qs [] [0] (fun z_ => Zaf1 k_1 k)
 (Qs [(5, .bool)] [0] (fun z_ => Zaf3 k_1 k z_.1)
 Qz
 (fun (x5, _) => Qc (x5) (Zaf2 k 0) (Zaf1 k_1 k) (Qs [(2, .int .i64)] [] (fun z_ => Zaf2 k z_.1)
 Qz
 (fun (x2_1, _) => Qr)) Qk))
 (fun _ => Qs [(2, .int .i64)] [] (fun z_ => Zaf0 k z_.1)
 Qz
 (fun (x2, _) => Qr)))) h_
abbrev Zag0 (k : (Bool → K)) (x2 : Bool) : K :=
 k x2
abbrev Zag1 (k_1 : Int) (k : (Bool → K)) : K :=
 brK (decide (k_1 ≥ 0))
 (Zag0 k (decide (k_1 < 32)))
 (Zag0 k false)
abbrev Yyr (k_1 : Int) : M Bool := fun k =>
 Zag1 k_1 k
theorem Ysy (k_1 : Int) (k : Bool → K) (w : World) (h_ : Yyr k_1 k w) : Ya8 k_1 k w :=
 Yae (P := Tryz.prog) Tryz.func100 rfl (by kernel_rfl)
 (Qs [] [0] (fun z_ => Zag1 k_1 k)
 Qz
 (fun _ => Qs [(2, .bool)] [] (fun z_ => Zag0 k z_.1)
 (Qp [2])
 (fun (x2, _) => Qr))) h_
abbrev Zah0 (k : (Int → K)) (x2 : Int) : K :=
 k x2
abbrev Zah1 (k_1 : Int) (k : (Int → K)) : K :=
 Yde k_1 fun x7 =>
 nz x7 <|
 Zah0 k (IntKind.wrap .i64 (Int.tdiv 512 x7))
abbrev Zah2 (k : (Int → K)) (x2_1 : Int) : K :=
 k x2_1
abbrev Zah3 (k_1 : Int) (k : (Int → K)) (x5 : Bool) : K :=
 brK x5
 (Zah2 k 0)
 (Zah1 k_1 k)
abbrev Zah4 (k_1 : Int) (k : (Int → K)) : K :=
 Ya8 k_1 fun x4 =>
 Zah3 k_1 k (!x4)
abbrev Yys (k_1 : Int) : M Int := fun k =>
 Zah4 k_1 k
theorem Ysz (k_1 : Int) (k : Int → K) (w : World) (h_ : Yys k_1 k w) : Ygk k_1 k w :=
 Yae (P := Tryz.prog) Tryz.func102 rfl (by kernel_rfl)
 (Qs [] [0] (fun z_ => Zah4 k_1 k)
 Qz
 (fun _ => Qs [] [0] (fun z_ => Zah1 k_1 k)
 (Qs [(5, .bool)] [0] (fun z_ => Zah3 k_1 k z_.1)
 Qz
 (fun (x5, _) => Qc (x5) (Zah2 k 0) (Zah1 k_1 k) (Qs [(2, .int .i64)] [] (fun z_ => Zah2 k z_.1)
 Qz
 (fun (x2_1, _) => Qr)) Qk))
 (fun _ => Qs [(2, .int .i64)] [] (fun z_ => Zah0 k z_.1)
 Qz
 (fun (x2, _) => Qr)))) h_
abbrev Zai0 (k : (((Int × Int) × Int) → K)) (x4 : Addr) (x5 : Int) : K :=
 ldI .i64 (x4.add 0) fun x4_0 =>
 ldI .i64 (x4.add 1) fun x4_1 =>
 k ((x4_0, x4_1), x5)
abbrev Zai1 (k : (((Int × Int) × Int) → K)) (x4 : Addr) (o : Addr) : K :=
 ldI .i64 (o.add 0) fun x34_0 =>
 ldI .i64 (o.add 1) fun x34_1 =>
 stK (x4.add 0) (.int .i64 x34_0) <|
 stK (x4.add 1) (.int .i64 x34_1) <|
 Zai0 k x4 0
abbrev Zai2 (k : (((Int × Int) × Int) → K)) (x4 : Addr) (x5_1 : Int) : K :=
 ldI .i64 (x4.add 0) fun x4_0_1 =>
 ldI .i64 (x4.add 1) fun x4_1_1 =>
 k ((x4_0_1, x4_1_1), x5_1)
abbrev Zai3 (k : (((Int × Int) × Int) → K)) (x4 : Addr) : K :=
 stK (x4.add 0) (.int .i64 0) <|
 stK (x4.add 1) (.int .i64 0) <|
 Zai2 k x4 26
abbrev Zai4 (k : (((Int × Int) × Int) → K)) (x4 : Addr) (o : Addr) (x32 : Bool) : K :=
 brK x32
 (Zai3 k x4)
 (Zai1 k x4 o)
abbrev Zai5 (at_1 : Int) (w_1 : Int) (k : (((Int × Int) × Int) → K)) (x4 : Addr) (o : Addr) : K :=
 ldI .i64 (o.add 0) fun x28_0 =>
 ldI .i64 (o.add 1) fun x28_1 =>
 Ycs (x28_0, x28_1) at_1 fun x30 =>
 Zai4 k x4 o (x30 != w_1)
abbrev Zai6 (at_1 : Int) (w_1 : Int) (k : (((Int × Int) × Int) → K)) (x4 : Addr) (x : Int) : K :=
 Yex x 8 6 fun x22 =>
 Yex x 14 15 fun x25 =>
 alK (.cells #[.int .i64 0, .int .i64 0] 68) fun b =>
 stK (Addr.add ⟨b, 0, none⟩ 0) (.int .i64 (IntKind.wrap .i64 x22)) <|
 stK (Addr.add ⟨b, 0, none⟩ 1) (.int .i64 (IntKind.wrap .i64 x25)) <|
 Zai5 at_1 w_1 k x4 ⟨b, 0, none⟩
abbrev Zai7 (k : (((Int × Int) × Int) → K)) (x4 : Addr) (x5_2 : Int) : K :=
 ldI .i64 (x4.add 0) fun x4_0_2 =>
 ldI .i64 (x4.add 1) fun x4_1_2 =>
 k ((x4_0_2, x4_1_2), x5_2)
abbrev Zai8 (k : (((Int × Int) × Int) → K)) (x4 : Addr) : K :=
 stK (x4.add 0) (.int .i64 0) <|
 stK (x4.add 1) (.int .i64 0) <|
 Zai7 k x4 25
abbrev Zai9 (at_1 : Int) (w_1 : Int) (k : (((Int × Int) × Int) → K)) (x4 : Addr) (n : Int) (x17 : Bool) : K :=
 brK x17
 (Zai8 k x4)
 (Zai6 at_1 w_1 k x4 (IntKind.wrap .u64 n))
abbrev Zai10 (at_1 : Int) (w_1 : Int) (k : (((Int × Int) × Int) → K)) (x4 : Addr) (n : Int) (ok : Bool) : K :=
 Zai9 at_1 w_1 k x4 n (!ok)
abbrev Zai11 (at_1 : Int) (w_1 : Int) (k : (((Int × Int) × Int) → K)) (x4 : Addr) : K :=
 Ylu w_1 at_1 fun x13 =>
 Zai10 at_1 w_1 k x4 x13.1 x13.2
abbrev Yp2 (at_1 : Int) (w_1 : Int) : M ((Int × Int) × Int) := fun k =>
 alK (.cells #[.int .i64 0, .int .i64 0] 68) fun b_1 =>
 Zai11 at_1 w_1 k ⟨b_1, 0, none⟩
theorem Yrd (at_1 : Int) (w_1 : Int) (k : ((Int × Int) × Int) → K) (w : World) (h_ : Yp2 at_1 w_1 k w) : Yhl at_1 w_1 k w :=
 Yae (P := Tryz.prog) Tryz.func116 rfl (by kernel_rfl)
 (Qs [(4, .addr)] [0, 1] (fun z_ => Zai11 at_1 w_1 k z_.1)
 Qz
 (fun (x4, _) => Qs [(6, .int .u32), (7, .bool)] [0, 1, 4] (fun z_ => Zai10 at_1 w_1 k x4 z_.1 z_.2.1)
 Qz
 (fun (n, ok, _) => Qs [] [0, 1, 4, 6] (fun z_ => Zai6 at_1 w_1 k x4 (IntKind.wrap .u64 n))
 (Qs [(17, .bool)] [0, 1, 4, 6] (fun z_ => Zai9 at_1 w_1 k x4 n z_.1)
 Qz
 (fun (x17, _) => Qc (x17) (Zai8 k x4) (Zai6 at_1 w_1 k x4 (IntKind.wrap .u64 n)) (Qs [(5, .int .i64)] [4] (fun z_ => Zai7 k x4 z_.1)
 Qz
 (fun (x5_2, _) => Qr)) Qk))
 (fun _ => Qs [(8, .int .u64)] [0, 1, 4] (fun z_ => Zai6 at_1 w_1 k x4 z_.1)
 Qz
 (fun (x, _) => Qs [(9, .addr)] [0, 1, 4] (fun z_ => Zai5 at_1 w_1 k x4 z_.1)
 Qz
 (fun (o, _) => Qs [] [4, 9] (fun z_ => Zai1 k x4 o)
 (Qs [(32, .bool)] [4, 9] (fun z_ => Zai4 k x4 o z_.1)
 Qz
 (fun (x32, _) => Qc (x32) (Zai3 k x4) (Zai1 k x4 o) (Qs [(5, .int .i64)] [4] (fun z_ => Zai2 k x4 z_.1)
 Qz
 (fun (x5_1, _) => Qr)) Qk))
 (fun _ => Qs [(5, .int .i64)] [4] (fun z_ => Zai0 k x4 z_.1)
 Qz
 (fun (x5, _) => Qr)))))))) h_
abbrev Zaj0 (k : (((Int × Int) × Bool) → K)) (x6 : Addr) (x7 : Bool) : K :=
 ldI .i64 (x6.add 0) fun x6_0 =>
 ldI .i64 (x6.add 1) fun x6_1 =>
 k ((x6_0, x6_1), x7)
abbrev Zaj1 (k_1 : Int) (at_1 : Int) (k : (((Int × Int) × Bool) → K)) (g_1 : Addr) (x6 : Addr) (c : Addr) : K :=
 tick fun _ =>
 ldI .i64 (c.add 0) fun x28_0 =>
 ldI .i64 (c.add 1) fun x28_1 =>
 ldI .i64 (g_1.add 0) fun x29_0 =>
 ldI .i64 (c.add 0) fun x31_0 =>
 ldI .i64 (c.add 1) fun x31_1 =>
 Ye6 x29_0 k_1 (x31_0, x31_1) fun x32 =>
 chk [.cell (c.add 0) (.int .i64 x28_0), .cell (c.add 1) (.int .i64 x28_1)] fun _ =>
 stK (x6.add 0) (.int .i64 x28_0) <|
 stK (x6.add 1) (.int .i64 x28_1) <|
 Zaj0 k x6 (x32 == at_1)
abbrev Zaj2 (k_1 : Int) (at_1 : Int) (k : (((Int × Int) × Bool) → K)) (g_1 : Addr) (x6 : Addr) : K :=
 ldI .i64 (g_1.add 0) fun x19_0 =>
 Ya3 x19_0 at_1 fun x21 =>
 Yde k_1 fun x25 =>
 nz x25 <|
 alK (.cells #[.int .i64 0, .int .i64 0] 168) fun b =>
 stK (Addr.add ⟨b, 0, none⟩ 0) (.int .i64 x21) <|
 stK (Addr.add ⟨b, 0, none⟩ 1) (.int .i64 (IntKind.wrap .i64 (Int.tdiv (Int.tmod at_1 512) x25))) <|
 Zaj1 k_1 at_1 k g_1 x6 ⟨b, 0, none⟩
abbrev Zaj3 (k : (((Int × Int) × Bool) → K)) (x6 : Addr) (x7_1 : Bool) : K :=
 ldI .i64 (x6.add 0) fun x6_0_1 =>
 ldI .i64 (x6.add 1) fun x6_1_1 =>
 k ((x6_0_1, x6_1_1), x7_1)
abbrev Zaj4 (k : (((Int × Int) × Bool) → K)) (x6 : Addr) : K :=
 stK (x6.add 0) (.int .i64 0) <|
 stK (x6.add 1) (.int .i64 0) <|
 Zaj3 k x6 false
abbrev Zaj5 (k_1 : Int) (at_1 : Int) (k : (((Int × Int) × Bool) → K)) (g_1 : Addr) (x6 : Addr) (x17 : Bool) : K :=
 brK x17
 (Zaj4 k x6)
 (Zaj2 k_1 at_1 k g_1 x6)
abbrev Zaj6 (k_1 : Int) (at_1 : Int) (k : (((Int × Int) × Bool) → K)) (g_1 : Addr) (x6 : Addr) : K :=
 Ya8 k_1 fun x10 =>
 brK (!x10)
 (Zaj5 k_1 at_1 k g_1 x6 true)
 (ldI .i64 (g_1.add 0) fun x13_0 =>
 Yef x13_0 at_1 fun x15 =>
 Zaj5 k_1 at_1 k g_1 x6 (!x15))
abbrev Yz7 (g : Int) (k_1 : Int) (at_1 : Int) : M ((Int × Int) × Bool) := fun k =>
 alK (.cells #[.int .i64 g] 43) fun b_1 =>
 alK (.cells #[.int .i64 0, .int .i64 0] 168) fun b_2 =>
 Zaj6 k_1 at_1 k ⟨b_1, 0, none⟩ ⟨b_2, 0, none⟩
theorem Yyt (g : Int) (k_1 : Int) (at_1 : Int) (k : ((Int × Int) × Bool) → K) (w : World) (h_ : Yz7 g k_1 at_1 k w) : Yo6 g k_1 at_1 k w :=
 Yae (P := Tryz.prog) Tryz.func117 rfl (by kernel_rfl)
 (Qs [(3, .addr), (6, .addr)] [1, 2] (fun z_ => Zaj6 k_1 at_1 k z_.1 z_.2.1)
 Qz
 (fun (g_1, x6, _) => Qs [] [1, 2, 3, 6] (fun z_ => Zaj2 k_1 at_1 k g_1 x6)
 (Qs [(17, .bool)] [1, 2, 3, 6] (fun z_ => Zaj5 k_1 at_1 k g_1 x6 z_.1)
 (Qp [3])
 (fun (x17, _) => Qc (x17) (Zaj4 k x6) (Zaj2 k_1 at_1 k g_1 x6) (Qs [(7, .bool)] [6] (fun z_ => Zaj3 k x6 z_.1)
 Qz
 (fun (x7_1, _) => Qr)) Qk))
 (fun _ => Qs [(8, .addr)] [1, 2, 3, 6] (fun z_ => Zaj1 k_1 at_1 k g_1 x6 z_.1)
 Qz
 (fun (c, _) => Qs [(7, .bool)] [6] (fun z_ => Zaj0 k x6 z_.1)
 (RefK.draw [] [0, 0, 0, 0, 14, 0, 62, 31, 255] [0, 1, 2, 3, 5, 4, 6, 7, 8] [0, 1, 2, 3, 4, 7, 5, 6, 8] (by kernel_rfl) (by kernel_rfl))
 (fun (x7, _) => Qr))))) h_
abbrev Zak0 (k : ((Int × Bool) → K)) (x4 : Int) (x5 : Bool) : K :=
 k (x4, x5)
abbrev Zak1 (k : ((Int × Bool) → K)) (x4_1 : Int) (x5_1 : Bool) : K :=
 k (x4_1, x5_1)
abbrev Zak2 (k : ((Int × Bool) → K)) (i_1 : Int) (c : ((Int × Unit) → K)) (x52 : Bool) : K :=
 brK x52
 (Zak1 k 0 false)
 (c ((IntKind.wrap .i64 (i_1 + 1)), ()))
abbrev Zak3 (list : Sl) (block : Int) (k : ((Int × Bool) → K)) (i_1 : Int) (c : ((Int × Unit) → K)) : K :=
 ixS list.p list.n (IntKind.wrap .i64 (block + i_1)) 3 fun x48 =>
 ldI .i64 (x48.add 0) fun x49_0 =>
 ldI .i64 (x48.add 1) fun x49_1 =>
 ldI .i64 (x48.add 2) fun x49_2 =>
 Zak2 k i_1 c (!((x49_0 == 3) && ((x49_1 == 0) && ((x49_2 == i_1) && true))))
abbrev Zak4 (list : Sl) (block : Int) (k : ((Int × Bool) → K)) (n : Int) (i_1 : Int) (c : ((Int × Unit) → K)) (x41 : Bool) : K :=
 brK x41
 (Zak3 list block k i_1 c)
 (Zak0 k n true)
abbrev Zak5 (list : Sl) (block : Int) (k : ((Int × Bool) → K)) (n : Int) (i_1 : Int) (c : ((Int × Unit) → K)) : K :=
 Zak4 list block k n i_1 c (decide (i_1 < n))
abbrev Zak6 (list : Sl) (block : Int) (k : ((Int × Bool) → K)) (n : Int) (i : Int) : K :=
 lp (fun (z_ : (Int × Unit)) c_ => Zak5 list block k n z_.1 c_) (i, ())
abbrev Zak7 (k : ((Int × Bool) → K)) (x4_2 : Int) (x5_2 : Bool) : K :=
 k (x4_2, x5_2)
abbrev Zak8 (list : Sl) (block : Int) (k : ((Int × Bool) → K)) (n : Int) (x38 : Bool) : K :=
 brK x38
 (Zak7 k 0 false)
 (Zak6 list block k n 1)
abbrev Zak9 (list : Sl) (block : Int) (k : ((Int × Bool) → K)) (n : Int) : K :=
 brK (decide (n < 1))
 (Zak8 list block k n true)
 (Zak8 list block k n (decide (n > (IntKind.wrap .i64 (((list.n : Nat) : Int) - block)))))
abbrev Zak10 (list : Sl) (block : Int) (k : ((Int × Bool) → K)) : K :=
 ixS list.p list.n block 3 fun x26 =>
 ldI .i64 (x26.add 2) fun x28 =>
 Zak9 list block k x28
abbrev Zak11 (k : ((Int × Bool) → K)) (x4_3 : Int) (x5_3 : Bool) : K :=
 k (x4_3, x5_3)
abbrev Zak12 (list : Sl) (block : Int) (k : ((Int × Bool) → K)) (x23 : Bool) : K :=
 brK x23
 (Zak11 k 0 false)
 (Zak10 list block k)
abbrev Zak13 (list : Sl) (block : Int) (k : ((Int × Bool) → K)) : K :=
 brK (decide (block < 0))
 (Zak12 list block k true)
 (brK (decide (block ≥ ((list.n : Nat) : Int)))
 (Zak12 list block k true)
 (ixS list.p list.n block 3 fun x19 =>
 ldI .i64 (x19.add 0) fun x21 =>
 Zak12 list block k (x21 != 2)))
abbrev Yre (list : Sl) (block : Int) : M (Int × Bool) := fun k =>
 Zak13 list block k
theorem Ys0 (list : Sl) (block : Int) (k : (Int × Bool) → K) (w : World) (h_ : Yre list block k w) : Ygl list block k w :=
 Yae (P := Tryz.prog) Tryz.func118 rfl (by kernel_rfl)
 (Qs [] [0, 1] (fun z_ => Zak13 list block k)
 Qz
 (fun _ => Qs [] [0, 1] (fun z_ => Zak10 list block k)
 (Qs [(23, .bool)] [0, 1] (fun z_ => Zak12 list block k z_.1)
 (Qp [2, 8])
 (fun (x23, _) => Qc (x23) (Zak11 k 0 false) (Zak10 list block k) (Qs [(4, .int .i64), (5, .bool)] [] (fun z_ => Zak11 k z_.1 z_.2.1)
 Qz
 (fun (x4_3, x5_3, _) => Qr)) Qk))
 (fun _ => Qs [(6, .int .i64)] [0, 1] (fun z_ => Zak9 list block k z_.1)
 Qz
 (fun (n, _) => Qs [] [0, 1, 6] (fun z_ => Zak6 list block k n 1)
 (Qs [(38, .bool)] [0, 1, 6] (fun z_ => Zak8 list block k n z_.1)
 (Qp [2])
 (fun (x38, _) => Qc (x38) (Zak7 k 0 false) (Zak6 list block k n 1) (Qs [(4, .int .i64), (5, .bool)] [] (fun z_ => Zak7 k z_.1 z_.2.1)
 Qz
 (fun (x4_2, x5_2, _) => Qr)) Qk))
 (fun _ => Qs [] [6] (fun z_ => Zak0 k n true)
 (Qs [(7, .int .i64)] [0, 1, 6] (fun z_ => Zak6 list block k n z_.1)
 Qz
 (fun (i, _) => Qb (Ql [(7, .int .i64)] [0, 1, 6] (fun (z_ : (Int × Unit)) c_ => Zak5 list block k n z_.1 c_) (i, ())
 (fun (i_1, _) c => Qs [] [0, 1, 6, 7] (fun z_ => Zak3 list block k i_1 c)
 (Qs [(41, .bool)] [0, 1, 6, 7] (fun z_ => Zak4 list block k n i_1 c z_.1)
 Qz
 (fun (x41, _) => Qc (x41) (Zak3 list block k i_1 c) (Zak0 k n true) Qk Qx))
 (fun _ => Qs [] [0, 1, 6, 7] (fun z_ => c ((IntKind.wrap .i64 (i_1 + 1)), ()))
 (Qb (Qs [(52, .bool)] [0, 1, 6, 7] (fun z_ => Zak2 k i_1 c z_.1)
 Qz
 (fun (x52, _) => Qc (x52) (Zak1 k 0 false) (c ((IntKind.wrap .i64 (i_1 + 1)), ())) (Qs [(4, .int .i64), (5, .bool)] [] (fun z_ => Zak1 k z_.1 z_.2.1)
 Qz
 (fun (x4_1, x5_1, _) => Qr)) Qk)))
 (fun _ => Qz))))))
 (fun _ => Qs [(4, .int .i64), (5, .bool)] [] (fun z_ => Zak0 k z_.1 z_.2.1)
 Qz
 (fun (x4, x5, _) => Qr))))))) h_
abbrev Zal0 (k : (Int → K)) (x4 : Int) : K :=
 k x4
abbrev Zal1 (k : (Int → K)) (x4_1 : Int) : K :=
 k x4_1
abbrev Zal2 (block : Int) (k : (Int → K)) (x12 : Bool) : K :=
 brK x12
 (Zal1 k (-1))
 (Zal0 k (IntKind.wrap .i64 (block * 512)))
abbrev Zal3 (block : Int) (k : (Int → K)) (g_1 : Addr) : K :=
 brK (decide (block < 0))
 (Zal2 block k true)
 (ldI .i64 (g_1.add 0) fun x10 =>
 Zal2 block k (decide (block ≥ x10)))
abbrev Ymy (g : Int) (block : Int) : M Int := fun k =>
 alK (.cells #[.int .i64 g] 43) fun b =>
 Zal3 block k ⟨b, 0, none⟩
theorem Yjv (g : Int) (block : Int) (k : Int → K) (w : World) (h_ : Ymy g block k w) : Yba g block k w :=
 Yae (P := Tryz.prog) Tryz.func119 rfl (by kernel_rfl)
 (Qs [(2, .addr)] [1] (fun z_ => Zal3 block k z_.1)
 Qz
 (fun (g_1, _) => Qs [] [1] (fun z_ => Zal0 k (IntKind.wrap .i64 (block * 512)))
 (Qs [(12, .bool)] [1] (fun z_ => Zal2 block k z_.1)
 (Qp [2])
 (fun (x12, _) => Qc (x12) (Zal1 k (-1)) (Zal0 k (IntKind.wrap .i64 (block * 512))) (Qs [(4, .int .i64)] [] (fun z_ => Zal1 k z_.1)
 Qz
 (fun (x4_1, _) => Qr)) Qk))
 (fun _ => Qs [(4, .int .i64)] [] (fun z_ => Zal0 k z_.1)
 Qz
 (fun (x4, _) => Qr)))) h_
abbrev Zam0 (k : (Int → K)) (x2 : Int) : K :=
 k x2
abbrev Zam1 (k : (Int → K)) (g_1 : Addr) : K :=
 ldI .i64 (g_1.add 0) fun x4 =>
 Zam0 k (IntKind.wrap .i64 (x4 * 512))
abbrev Ymz (g : Int) : M Int := fun k =>
 alK (.cells #[.int .i64 g] 43) fun b =>
 Zam1 k ⟨b, 0, none⟩
theorem Yjw (g : Int) (k : Int → K) (w : World) (h_ : Ymz g k w) : Yco g k w :=
 Yae (P := Tryz.prog) Tryz.func121 rfl (by kernel_rfl)
 (Qs [(1, .addr)] [] (fun z_ => Zam1 k z_.1)
 Qz
 (fun (g_1, _) => Qs [(2, .int .i64)] [] (fun z_ => Zam0 k z_.1)
 Qz
 (fun (x2, _) => Qr))) h_
abbrev Zan0 (k : ((Int × Bool) → K)) (x2 : Int) (x3 : Bool) : K :=
 k (x2, x3)
abbrev Zan1 (k : ((Int × Bool) → K)) (low_1 : Int) : K :=
 Zan0 k low_1 true
abbrev Zan2 (low_2 : Int) (high_1 : Int) (c : ((Int × Int × Unit) → K)) (mid : Int) (x24 : Bool) : K :=
 brK x24
 (c (low_2, mid, ()))
 (c ((IntKind.wrap .i64 (mid + 1)), high_1, ()))
abbrev Zan3 (words : Int) (low_2 : Int) (high_1 : Int) (c : ((Int × Int × Unit) → K)) (mid : Int) : K :=
 Yde mid fun x22 =>
 Zan2 low_2 high_1 c mid (decide (x22 ≥ words))
abbrev Zan4 (words : Int) (low_2 : Int) (high_1 : Int) (c : ((Int × Int × Unit) → K)) : K :=
 Zan3 words low_2 high_1 c (IntKind.wrap .i64 (Int.tdiv (IntKind.wrap .i64 (low_2 + high_1)) 2))
abbrev Zan5 (words : Int) (k : ((Int × Bool) → K)) (low_2 : Int) (high_1 : Int) (c : ((Int × Int × Unit) → K)) (x16 : Bool) : K :=
 brK x16
 (Zan4 words low_2 high_1 c)
 (Zan1 k low_2)
abbrev Zan6 (words : Int) (k : ((Int × Bool) → K)) (low_2 : Int) (high_1 : Int) (c : ((Int × Int × Unit) → K)) : K :=
 Zan5 words k low_2 high_1 c (decide (low_2 < high_1))
abbrev Zan7 (words : Int) (k : ((Int × Bool) → K)) (low : Int) (high : Int) : K :=
 lp (fun (z_ : (Int × Int × Unit)) c_ => Zan6 words k z_.1 z_.2.1 c_) (low, high, ())
abbrev Zan8 (k : ((Int × Bool) → K)) (x2_1 : Int) (x3_1 : Bool) : K :=
 k (x2_1, x3_1)
abbrev Zan9 (words : Int) (k : ((Int × Bool) → K)) (x13 : Bool) : K :=
 brK x13
 (Zan8 k 0 false)
 (Zan7 words k 0 31)
abbrev Zan10 (words : Int) (k : ((Int × Bool) → K)) : K :=
 brK (decide (words < 1))
 (Zan9 words k true)
 (Yki fun x11 =>
 Zan9 words k (decide (words > x11)))
abbrev Vd6 (words : Int) : M (Int × Bool) := fun k =>
 Zan10 words k
theorem Yyu (words : Int) (k : (Int × Bool) → K) (w : World) (h_ : Vd6 words k w) : Ylt words k w :=
 Yae (P := Tryz.prog) Tryz.func140 rfl (by kernel_rfl)
 (Qs [] [0] (fun z_ => Zan10 words k)
 Qz
 (fun _ => Qs [] [0] (fun z_ => Zan7 words k 0 31)
 (Qs [(13, .bool)] [0] (fun z_ => Zan9 words k z_.1)
 (Qp [2])
 (fun (x13, _) => Qc (x13) (Zan8 k 0 false) (Zan7 words k 0 31) (Qs [(2, .int .i64), (3, .bool)] [] (fun z_ => Zan8 k z_.1 z_.2.1)
 Qz
 (fun (x2_1, x3_1, _) => Qr)) Qk))
 (fun _ => Qs [(4, .int .i64), (5, .int .i64)] [0] (fun z_ => Zan7 words k z_.1 z_.2.1)
 Qz
 (fun (low, high, _) => Qs [(4, .int .i64)] [] (fun z_ => Zan1 k z_.1)
 (Qb (Ql [(4, .int .i64), (5, .int .i64)] [0] (fun (z_ : (Int × Int × Unit)) c_ => Zan6 words k z_.1 z_.2.1 c_) (low, high, ())
 (fun (low_2, high_1, _) c => Qs [] [0, 4, 5] (fun z_ => Zan4 words low_2 high_1 c)
 (Qs [(16, .bool)] [0, 4, 5] (fun z_ => Zan5 words k low_2 high_1 c z_.1)
 Qz
 (fun (x16, _) => Qc (x16) (Zan4 words low_2 high_1 c) (Zan1 k low_2) Qk Qx))
 (fun _ => Qb (Qs [(6, .int .i64)] [0, 4, 5] (fun z_ => Zan3 words low_2 high_1 c z_.1)
 Qz
 (fun (mid, _) => Qs [(24, .bool)] [0, 4, 5, 6] (fun z_ => Zan2 low_2 high_1 c mid z_.1)
 Qz
 (fun (x24, _) => Qc (x24) (c (low_2, mid, ())) (c ((IntKind.wrap .i64 (mid + 1)), high_1, ())) Qz Qz)))))))
 (fun (low_1, _) => Qs [(2, .int .i64), (3, .bool)] [] (fun z_ => Zan0 k z_.1 z_.2.1)
 Qz
 (fun (x2, x3, _) => Qr)))))) h_
abbrev Zao0 (k : ((Int × Int) → K)) (x4 : Int) (x5 : Int) : K :=
 k (x4, x5)
abbrev Zao1 (k : ((Int × Int) → K)) (x4_1 : Int) (x5_1 : Int) : K :=
 k (x4_1, x5_1)
abbrev Zao2 (ptrs : Int) (datas : Int) (k : ((Int × Int) → K)) (x19 : Bool) : K :=
 brK x19
 (Zao1 k 0 5)
 (Zao0 k (IntKind.wrap .i64 ((IntKind.wrap .i64 (1 + ptrs)) + datas)) 0)
abbrev Zao3 (ptrs : Int) (datas : Int) (k : ((Int × Int) → K)) : K :=
 brK (decide (ptrs < 0))
 (Zao2 ptrs datas k true)
 (brK (decide (ptrs > 63))
 (Zao2 ptrs datas k true)
 (brK (decide (datas < 0))
 (Zao2 ptrs datas k true)
 (Zao2 ptrs datas k (decide (datas > 16384)))))
abbrev Va5 (ptrs : Int) (datas : Int) : M (Int × Int) := fun k =>
 Zao3 ptrs datas k
theorem Yuy (ptrs : Int) (datas : Int) (k : (Int × Int) → K) (w : World) (h_ : Va5 ptrs datas k w) : Yke ptrs datas k w :=
 Yae (P := Tryz.prog) Tryz.func147 rfl (by kernel_rfl)
 (Qs [] [0, 1] (fun z_ => Zao3 ptrs datas k)
 Qz
 (fun _ => Qs [] [0, 1] (fun z_ => Zao0 k (IntKind.wrap .i64 ((IntKind.wrap .i64 (1 + ptrs)) + datas)) 0)
 (Qs [(19, .bool)] [0, 1] (fun z_ => Zao2 ptrs datas k z_.1)
 (Qp [2, 6, 10])
 (fun (x19, _) => Qc (x19) (Zao1 k 0 5) (Zao0 k (IntKind.wrap .i64 ((IntKind.wrap .i64 (1 + ptrs)) + datas)) 0) (Qs [(4, .int .i64), (5, .int .i64)] [] (fun z_ => Zao1 k z_.1 z_.2.1)
 Qz
 (fun (x4_1, x5_1, _) => Qr)) Qk))
 (fun _ => Qs [(4, .int .i64), (5, .int .i64)] [] (fun z_ => Zao0 k z_.1 z_.2.1)
 Qz
 (fun (x4, x5, _) => Qr)))) h_
abbrev Zap0 (k : (Int → K)) (x4 : Int) : K :=
 k x4
abbrev Zap1 (n : Int) (size : Int) (k : (Int → K)) : K :=
 nz size <|
 Zap0 k (IntKind.wrap .i64 ((IntKind.wrap .i64 (Int.tdiv (IntKind.wrap .i64 (n - 1)) size)) + 1))
abbrev Zap2 (k : (Int → K)) (x4_1 : Int) : K :=
 k x4_1
abbrev Zap3 (n : Int) (size : Int) (k : (Int → K)) (x10 : Bool) : K :=
 brK x10
 (Zap2 k 0)
 (Zap1 n size k)
abbrev Zap4 (n : Int) (size : Int) (k : (Int → K)) : K :=
 brK (decide (n ≤ 0))
 (Zap3 n size k true)
 (Zap3 n size k (decide (size ≤ 0)))
abbrev Vf6 (n : Int) (size : Int) : M Int := fun k =>
 Zap4 n size k
theorem Va6 (n : Int) (size : Int) (k : Int → K) (w : World) (h_ : Vf6 n size k w) : Ykf n size k w :=
 Yae (P := Tryz.prog) Tryz.func148 rfl (by kernel_rfl)
 (Qs [] [0, 1] (fun z_ => Zap4 n size k)
 Qz
 (fun _ => Qs [] [0, 1] (fun z_ => Zap1 n size k)
 (Qs [(10, .bool)] [0, 1] (fun z_ => Zap3 n size k z_.1)
 (Qp [2])
 (fun (x10, _) => Qc (x10) (Zap2 k 0) (Zap1 n size k) (Qs [(4, .int .i64)] [] (fun z_ => Zap2 k z_.1)
 Qz
 (fun (x4_1, _) => Qr)) Qk))
 (fun _ => Qs [(4, .int .i64)] [] (fun z_ => Zap0 k z_.1)
 Qz
 (fun (x4, _) => Qr)))) h_
abbrev Zaq0 (k : (Int → K)) (x4 : Int) : K :=
 k x4
abbrev Zaq1 (at_1 : Int) (k : (Int → K)) (n_1 : Int) : K :=
 Yh0 (IntKind.wrap .u32 n_1) at_1 fun x21 =>
 Zaq0 k x21
abbrev Zaq2 (at_1 : Int) (k : (Int → K)) (o_1 : Addr) (n : Int) : K :=
 ldI .i64 (o_1.add 1) fun x15 =>
 Yey n 14 15 (IntKind.wrap .u64 x15) fun x17 =>
 Zaq1 at_1 k x17
abbrev Zaq3 (at_1 : Int) (k : (Int → K)) (o_1 : Addr) : K :=
 ldI .i64 (o_1.add 0) fun x10 =>
 Yey 165 8 6 (IntKind.wrap .u64 x10) fun x12 =>
 Zaq2 at_1 k o_1 x12
abbrev Zaq4 (k : (Int → K)) (x4_1 : Int) : K :=
 k x4_1
abbrev Zaq5 (at_1 : Int) (k : (Int → K)) (o_1 : Addr) (x8 : Bool) : K :=
 brK x8
 (Zaq4 k 0)
 (Zaq3 at_1 k o_1)
abbrev Zaq6 (at_1 : Int) (k : (Int → K)) (o_1 : Addr) : K :=
 ldI .i64 (o_1.add 0) fun x6_0 =>
 ldI .i64 (o_1.add 1) fun x6_1 =>
 Yav (x6_0, x6_1) fun x7 =>
 Zaq5 at_1 k o_1 (x7 == 0)
abbrev Yg2 (o : (Int × Int)) (at_1 : Int) : M Int := fun k =>
 alK (.cells #[.int .i64 o.1, .int .i64 o.2] 68) fun b =>
 Zaq6 at_1 k ⟨b, 0, none⟩
theorem Yjx (o : (Int × Int)) (at_1 : Int) (k : Int → K) (w : World) (h_ : Yg2 o at_1 k w) : Ycs o at_1 k w :=
 Yae (P := Tryz.prog) Tryz.func154 rfl (by kernel_rfl)
 (Qs [(2, .addr)] [1] (fun z_ => Zaq6 at_1 k z_.1)
 Qz
 (fun (o_1, _) => Qs [] [1, 2] (fun z_ => Zaq3 at_1 k o_1)
 (Qs [(8, .bool)] [1, 2] (fun z_ => Zaq5 at_1 k o_1 z_.1)
 Qz
 (fun (x8, _) => Qc (x8) (Zaq4 k 0) (Zaq3 at_1 k o_1) (Qs [(4, .int .u64)] [] (fun z_ => Zaq4 k z_.1)
 Qz
 (fun (x4_1, _) => Qr)) Qk))
 (fun _ => Qs [(5, .int .u64)] [1, 2] (fun z_ => Zaq2 at_1 k o_1 z_.1)
 Qz
 (fun (n, _) => Qs [(5, .int .u64)] [1] (fun z_ => Zaq1 at_1 k z_.1)
 Qz
 (fun (n_1, _) => Qs [(4, .int .u64)] [] (fun z_ => Zaq0 k z_.1)
 Qz
 (fun (x4, _) => Qr)))))) h_
abbrev Zar0 (k : ((List Value) → K)) (x0 : Addr) : K :=
 ldBlob x0 32 fun x0_1 =>
 k x0_1
abbrev Zar1 (k : ((List Value) → K)) (x0 : Addr) : K :=
 semU Tryz.prog (Instr.storeAt 206 (.pointer (some x0)) (.agg #[.int .i64 2, .int .i64 3, .int .i64 4, .int .i64 5, .int .i64 6, .int .i64 7, .int .i64 8, .int .i64 10, .int .i64 12, .int .i64 14, .int .i64 16, .int .i64 18, .int .i64 20, .int .i64 24, .int .i64 28, .int .i64 32, .int .i64 36, .int .i64 40, .int .i64 46, .int .i64 51, .int .i64 56, .int .i64 64, .int .i64 73, .int .i64 85, .int .i64 92, .int .i64 102, .int .i64 113, .int .i64 128, .int .i64 146, .int .i64 170, .int .i64 204, .int .i64 256])) <|
 Zar0 k x0
abbrev Yyv : M (List Value) := fun k =>
 alK (.cells #[.int .i64 0, .int .i64 0, .int .i64 0, .int .i64 0, .int .i64 0, .int .i64 0, .int .i64 0, .int .i64 0, .int .i64 0, .int .i64 0, .int .i64 0, .int .i64 0, .int .i64 0, .int .i64 0, .int .i64 0, .int .i64 0, .int .i64 0, .int .i64 0, .int .i64 0, .int .i64 0, .int .i64 0, .int .i64 0, .int .i64 0, .int .i64 0, .int .i64 0, .int .i64 0, .int .i64 0, .int .i64 0, .int .i64 0, .int .i64 0, .int .i64 0, .int .i64 0] 206) fun b =>
 Zar1 k ⟨b, 0, none⟩
theorem Ys1 (k : (List Value) → K) (w : World) (h_ : Yyv k w) : Yit k w :=
 Yae (P := Tryz.prog) Tryz.func155 rfl (by kernel_rfl)
 (Qs [(0, .addr)] [] (fun z_ => Zar1 k z_.1)
 Qz
 (fun (x0, _) => Qs [] [0] (fun z_ => Zar0 k x0)
 Qz
 (fun _ => Qr))) h_
abbrev Zas0 (k : (((Int × (Int × Int)) × Int) → K)) (x4 : Addr) (x5 : Int) : K :=
 ldI .i64 (x4.add 0) fun x4_0 =>
 ldI .i64 (x4.add 1) fun x4_1 =>
 ldI .i64 (x4.add 2) fun x4_2 =>
 k ((x4_0, (x4_1, x4_2)), x5)
abbrev Zas1 (k : (((Int × (Int × Int)) × Int) → K)) (x4 : Addr) (h : Addr) : K :=
 ldI .i64 (h.add 0) fun x38_0 =>
 ldI .i64 (h.add 1) fun x38_1 =>
 ldI .i64 (h.add 2) fun x38_2 =>
 stK (x4.add 0) (.int .i64 x38_0) <|
 stK (x4.add 1) (.int .i64 x38_1) <|
 stK (x4.add 2) (.int .i64 x38_2) <|
 Zas0 k x4 0
abbrev Zas2 (k : (((Int × (Int × Int)) × Int) → K)) (x4 : Addr) (x5_1 : Int) : K :=
 ldI .i64 (x4.add 0) fun x4_0_1 =>
 ldI .i64 (x4.add 1) fun x4_1_1 =>
 ldI .i64 (x4.add 2) fun x4_2_1 =>
 k ((x4_0_1, (x4_1_1, x4_2_1)), x5_1)
abbrev Zas3 (k : (((Int × (Int × Int)) × Int) → K)) (x4 : Addr) : K :=
 stK (x4.add 0) (.int .i64 0) <|
 stK (x4.add 1) (.int .i64 0) <|
 stK (x4.add 2) (.int .i64 0) <|
 Zas2 k x4 26
abbrev Zas4 (k : (((Int × (Int × Int)) × Int) → K)) (x4 : Addr) (h : Addr) (x36 : Bool) : K :=
 brK x36
 (Zas3 k x4)
 (Zas1 k x4 h)
abbrev Zas5 (block : Int) (w_1 : Int) (k : (((Int × (Int × Int)) × Int) → K)) (x4 : Addr) (h : Addr) : K :=
 ldI .i64 (h.add 0) fun x33_0 =>
 ldI .i64 (h.add 1) fun x33_1 =>
 ldI .i64 (h.add 2) fun x33_2 =>
 Yel block (x33_0, (x33_1, x33_2)) fun x34 =>
 Zas4 k x4 h (x34 != w_1)
abbrev Zas6 (block : Int) (w_1 : Int) (k : (((Int × (Int × Int)) × Int) → K)) (x4 : Addr) (x : Int) : K :=
 Yex x 0 2 fun x23 =>
 Yex x 2 6 fun x26 =>
 Yex x 8 16 fun x29 =>
 alK (.cells #[.int .i64 0, .int .i64 0, .int .i64 0] 143) fun b =>
 stK (Addr.add ⟨b, 0, none⟩ 0) (.int .i64 (IntKind.wrap .i64 x23)) <|
 stK (Addr.add ⟨b, 0, none⟩ 1) (.int .i64 (IntKind.wrap .i64 x26)) <|
 stK (Addr.add ⟨b, 0, none⟩ 2) (.int .i64 (IntKind.wrap .i64 x29)) <|
 Zas5 block w_1 k x4 ⟨b, 0, none⟩
abbrev Zas7 (k : (((Int × (Int × Int)) × Int) → K)) (x4 : Addr) (x5_2 : Int) : K :=
 ldI .i64 (x4.add 0) fun x4_0_2 =>
 ldI .i64 (x4.add 1) fun x4_1_2 =>
 ldI .i64 (x4.add 2) fun x4_2_2 =>
 k ((x4_0_2, (x4_1_2, x4_2_2)), x5_2)
abbrev Zas8 (k : (((Int × (Int × Int)) × Int) → K)) (x4 : Addr) : K :=
 stK (x4.add 0) (.int .i64 0) <|
 stK (x4.add 1) (.int .i64 0) <|
 stK (x4.add 2) (.int .i64 0) <|
 Zas7 k x4 25
abbrev Zas9 (block : Int) (w_1 : Int) (k : (((Int × (Int × Int)) × Int) → K)) (x4 : Addr) (n : Int) (x18 : Bool) : K :=
 brK x18
 (Zas8 k x4)
 (Zas6 block w_1 k x4 (IntKind.wrap .u64 n))
abbrev Zas10 (block : Int) (w_1 : Int) (k : (((Int × (Int × Int)) × Int) → K)) (x4 : Addr) (n : Int) (ok : Bool) : K :=
 Zas9 block w_1 k x4 n (!ok)
abbrev Zas11 (block : Int) (w_1 : Int) (k : (((Int × (Int × Int)) × Int) → K)) (x4 : Addr) : K :=
 Ylu w_1 (IntKind.wrap .i64 (256 + block)) fun x14 =>
 Zas10 block w_1 k x4 x14.1 x14.2
abbrev Yp3 (block : Int) (w_1 : Int) : M ((Int × (Int × Int)) × Int) := fun k =>
 alK (.cells #[.int .i64 0, .int .i64 0, .int .i64 0] 143) fun b_1 =>
 Zas11 block w_1 k ⟨b_1, 0, none⟩
theorem Yrf (block : Int) (w_1 : Int) (k : ((Int × (Int × Int)) × Int) → K) (w : World) (h_ : Yp3 block w_1 k w) : Yhm block w_1 k w :=
 Yae (P := Tryz.prog) Tryz.func164 rfl (by kernel_rfl)
 (Qs [(4, .addr)] [0, 1] (fun z_ => Zas11 block w_1 k z_.1)
 Qz
 (fun (x4, _) => Qs [(6, .int .u32), (7, .bool)] [0, 1, 4] (fun z_ => Zas10 block w_1 k x4 z_.1 z_.2.1)
 Qz
 (fun (n, ok, _) => Qs [] [0, 1, 4, 6] (fun z_ => Zas6 block w_1 k x4 (IntKind.wrap .u64 n))
 (Qs [(18, .bool)] [0, 1, 4, 6] (fun z_ => Zas9 block w_1 k x4 n z_.1)
 Qz
 (fun (x18, _) => Qc (x18) (Zas8 k x4) (Zas6 block w_1 k x4 (IntKind.wrap .u64 n)) (Qs [(5, .int .i64)] [4] (fun z_ => Zas7 k x4 z_.1)
 Qz
 (fun (x5_2, _) => Qr)) Qk))
 (fun _ => Qs [(8, .int .u64)] [0, 1, 4] (fun z_ => Zas6 block w_1 k x4 z_.1)
 Qz
 (fun (x, _) => Qs [(9, .addr)] [0, 1, 4] (fun z_ => Zas5 block w_1 k x4 z_.1)
 Qz
 (fun (h, _) => Qs [] [4, 9] (fun z_ => Zas1 k x4 h)
 (Qs [(36, .bool)] [4, 9] (fun z_ => Zas4 k x4 h z_.1)
 Qz
 (fun (x36, _) => Qc (x36) (Zas3 k x4) (Zas1 k x4 h) (Qs [(5, .int .i64)] [4] (fun z_ => Zas2 k x4 z_.1)
 Qz
 (fun (x5_1, _) => Qr)) Qk))
 (fun _ => Qs [(5, .int .i64)] [4] (fun z_ => Zas0 k x4 z_.1)
 Qz
 (fun (x5, _) => Qr)))))))) h_
abbrev Zat0 (k : (Int → K)) (x4 : Int) : K :=
 k x4
abbrev Zat1 (k : (Int → K)) (x4_1 : Int) : K :=
 k x4_1
abbrev Zat2 (block : Int) (k : (Int → K)) (x12 : Bool) : K :=
 brK x12
 (Zat1 k (-1))
 (Zat0 k (IntKind.wrap .i64 (256 + block)))
abbrev Zat3 (block : Int) (k : (Int → K)) (g_1 : Addr) : K :=
 brK (decide (block < 1))
 (Zat2 block k true)
 (ldI .i64 (g_1.add 0) fun x10 =>
 Zat2 block k (decide (block ≥ x10)))
abbrev Yl4 (g : Int) (block : Int) : M Int := fun k =>
 alK (.cells #[.int .i64 g] 43) fun b =>
 Zat3 block k ⟨b, 0, none⟩
theorem Yi2 (g : Int) (block : Int) (k : Int → K) (w : World) (h_ : Yl4 g block k w) : Ya0 g block k w :=
 Yae (P := Tryz.prog) Tryz.func165 rfl (by kernel_rfl)
 (Qs [(2, .addr)] [1] (fun z_ => Zat3 block k z_.1)
 Qz
 (fun (g_1, _) => Qs [] [1] (fun z_ => Zat0 k (IntKind.wrap .i64 (256 + block)))
 (Qs [(12, .bool)] [1] (fun z_ => Zat2 block k z_.1)
 (Qp [2])
 (fun (x12, _) => Qc (x12) (Zat1 k (-1)) (Zat0 k (IntKind.wrap .i64 (256 + block))) (Qs [(4, .int .i64)] [] (fun z_ => Zat1 k z_.1)
 Qz
 (fun (x4_1, _) => Qr)) Qk))
 (fun _ => Qs [(4, .int .i64)] [] (fun z_ => Zat0 k z_.1)
 Qz
 (fun (x4, _) => Qr)))) h_
abbrev Zau0 (k : ((Int × Bool) → K)) (x4 : Int) (x5 : Bool) : K :=
 k (x4, x5)
abbrev Zau1 (k : ((Int × Bool) → K)) (x4_1 : Int) (x5_1 : Bool) : K :=
 k (x4_1, x5_1)
abbrev Zau2 (k : ((Int × Bool) → K)) (n : Int) (x13 : Bool) : K :=
 brK x13
 (Zau1 k 0 false)
 (Zau0 k n true)
abbrev Zau3 (w_1 : Int) (place : Int) (k : ((Int × Bool) → K)) (n : Int) : K :=
 Yh0 n place fun x11 =>
 Zau2 k n (x11 != w_1)
abbrev Vd7 (w_1 : Int) (place : Int) : M (Int × Bool) := fun k =>
 Zau3 w_1 place k (IntKind.wrap .u32 w_1)
theorem Yyw (w_1 : Int) (place : Int) (k : (Int × Bool) → K) (w : World) (h_ : Vd7 w_1 place k w) : Ylu w_1 place k w :=
 Yae (P := Tryz.prog) Tryz.func172 rfl (by kernel_rfl)
 (Qs [] [0, 1] (fun z_ => Zau3 w_1 place k (IntKind.wrap .u32 w_1))
 Qz
 (fun _ => Qs [(6, .int .u32)] [0, 1] (fun z_ => Zau3 w_1 place k z_.1)
 Qz
 (fun (n, _) => Qs [] [6] (fun z_ => Zau0 k n true)
 (Qs [(13, .bool)] [6] (fun z_ => Zau2 k n z_.1)
 Qz
 (fun (x13, _) => Qc (x13) (Zau1 k 0 false) (Zau0 k n true) (Qs [(4, .int .u32), (5, .bool)] [] (fun z_ => Zau1 k z_.1 z_.2.1)
 Qz
 (fun (x4_1, x5_1, _) => Qr)) Qk))
 (fun _ => Qs [(4, .int .u32), (5, .bool)] [] (fun z_ => Zau0 k z_.1 z_.2.1)
 Qz
 (fun (x4, x5, _) => Qr))))) h_
abbrev Zav0 (k : (Int → K)) (x6 : Int) : K :=
 k x6
abbrev Zav1 (w_1 : Int) (at_1 : Int) (width : Int) (k : (Int → K)) : K :=
 nneg (IntKind.wrap .u64 at_1) <|
 Yix width fun x18 =>
 Zav0 k (bitI .and .u64 (shrI .u64 w_1 (IntKind.wrap .u64 at_1)) x18)
abbrev Zav2 (k : (Int → K)) (x6_1 : Int) : K :=
 k x6_1
abbrev Zav3 (w_1 : Int) (at_1 : Int) (width : Int) (k : (Int → K)) (x12 : Bool) : K :=
 brK x12
 (Zav2 k 0)
 (Zav1 w_1 at_1 width k)
abbrev Zav4 (w_1 : Int) (at_1 : Int) (width : Int) (k : (Int → K)) : K :=
 brK (decide (at_1 < 0))
 (Zav3 w_1 at_1 width k true)
 (Zav3 w_1 at_1 width k (decide (at_1 ≥ 64)))
abbrev Vd8 (w_1 : Int) (at_1 : Int) (width : Int) : M Int := fun k =>
 Zav4 w_1 at_1 width k
theorem Yyx (w_1 : Int) (at_1 : Int) (width : Int) (k : Int → K) (w : World) (h_ : Vd8 w_1 at_1 width k w) : Yex w_1 at_1 width k w :=
 Yae (P := Tryz.prog) Tryz.func173 rfl (by kernel_rfl)
 (Qs [] [0, 1, 2] (fun z_ => Zav4 w_1 at_1 width k)
 Qz
 (fun _ => Qs [] [0, 1, 2] (fun z_ => Zav1 w_1 at_1 width k)
 (Qs [(12, .bool)] [0, 1, 2] (fun z_ => Zav3 w_1 at_1 width k z_.1)
 (Qp [2])
 (fun (x12, _) => Qc (x12) (Zav2 k 0) (Zav1 w_1 at_1 width k) (Qs [(6, .int .u64)] [] (fun z_ => Zav2 k z_.1)
 Qz
 (fun (x6_1, _) => Qr)) Qk))
 (fun _ => Qs [(6, .int .u64)] [] (fun z_ => Zav0 k z_.1)
 Qz
 (fun (x6, _) => Qr)))) h_
abbrev Zaw0 (k : (Bool → K)) (x4 : Bool) : K :=
 k x4
abbrev Zaw1 (at_1 : Int) (k : (Bool → K)) (g_1 : Addr) : K :=
 ldI .i64 (g_1.add 0) fun x5_0 =>
 Ya3 x5_0 at_1 fun x7 =>
 Zaw0 k (decide (x7 ≥ 1))
abbrev Yn1 (g : Int) (at_1 : Int) : M Bool := fun k =>
 alK (.cells #[.int .i64 g] 43) fun b =>
 Zaw1 at_1 k ⟨b, 0, none⟩
theorem Ykq (g : Int) (at_1 : Int) (k : Bool → K) (w : World) (h_ : Yn1 g at_1 k w) : Yef g at_1 k w :=
 Yae (P := Tryz.prog) Tryz.func174 rfl (by kernel_rfl)
 (Qs [(2, .addr)] [1] (fun z_ => Zaw1 at_1 k z_.1)
 Qz
 (fun (g_1, _) => Qs [(4, .bool)] [] (fun z_ => Zaw0 k z_.1)
 Qz
 (fun (x4, _) => Qr))) h_
abbrev Zax0 (k : (Int → K)) (x6 : Int) : K :=
 k x6
abbrev Zax1 (k_1 : Int) (k : (Int → K)) (g_1 : Addr) (c_1 : Addr) : K :=
 tick fun _ =>
 ldI .i64 (g_1.add 0) fun x34_0 =>
 ldI .i64 (c_1.add 0) fun x36 =>
 ldI .i64 (c_1.add 1) fun x39 =>
 Yba x34_0 x36 fun x37 =>
 chk [.cell (c_1.add 1) (.int .i64 x39)] fun _ =>
 Yde k_1 fun x41 =>
 chk [.cell (c_1.add 1) (.int .i64 x39)] fun _ =>
 Zax0 k (IntKind.wrap .i64 (x37 + (IntKind.wrap .i64 (x39 * x41))))
abbrev Zax2 (k : (Int → K)) (x6_1 : Int) : K :=
 k x6_1
abbrev Zax3 (k_1 : Int) (k : (Int → K)) (g_1 : Addr) (c_1 : Addr) (x33 : Bool) : K :=
 brK x33
 (Zax2 k (-1))
 (Zax1 k_1 k g_1 c_1)
abbrev Zax4 (k_1 : Int) (k : (Int → K)) (g_1 : Addr) (c_1 : Addr) : K :=
 tick fun _ =>
 Ya8 k_1 fun x8 =>
 brK (!x8)
 (Zax3 k_1 k g_1 c_1 true)
 (ldI .i64 (c_1.add 0) fun x12 =>
 brK (decide (x12 < 1))
 (Zax3 k_1 k g_1 c_1 true)
 (ldI .i64 (c_1.add 0) fun x17 =>
 ldI .i64 (g_1.add 0) fun x19 =>
 brK (decide (x17 ≥ x19))
 (Zax3 k_1 k g_1 c_1 true)
 (ldI .i64 (c_1.add 1) fun x24 =>
 brK (decide (x24 < 0))
 (Zax3 k_1 k g_1 c_1 true)
 (ldI .i64 (c_1.add 1) fun x29 =>
 Ygk k_1 fun x31 =>
 chk [.cell (c_1.add 1) (.int .i64 x29)] fun _ =>
 Zax3 k_1 k g_1 c_1 (decide (x29 ≥ x31))))))
abbrev Yuz (g : Int) (k_1 : Int) (c : (Int × Int)) : M Int := fun k =>
 alK (.cells #[.int .i64 g] 43) fun b =>
 alK (.cells #[.int .i64 c.1, .int .i64 c.2] 168) fun b_1 =>
 Zax4 k_1 k ⟨b, 0, none⟩ ⟨b_1, 0, none⟩
theorem Yqi (g : Int) (k_1 : Int) (c : (Int × Int)) (k : Int → K) (w : World) (h_ : Yuz g k_1 c k w) : Ye6 g k_1 c k w :=
 Yae (P := Tryz.prog) Tryz.func175 rfl (by kernel_rfl)
 (Qs [(3, .addr), (5, .addr)] [1] (fun z_ => Zax4 k_1 k z_.1 z_.2.1)
 Qz
 (fun (g_1, c_1, _) => Qs [] [1, 3, 5] (fun z_ => Zax1 k_1 k g_1 c_1)
 (Qs [(33, .bool)] [1, 3, 5] (fun z_ => Zax3 k_1 k g_1 c_1 z_.1)
 (RefK.draw [3, 8, 15, 20] [0, 1, 3, 7, 15, 31, 63, 127, 255, 511, 1023, 511, 2559, 8191, 16383, 32767, 65535, 131071, 262143, 524287, 1048575, 2097151, 4194303, 2097151, 10485759, 33554431, 67108863] [0, 1, 2, 3, 4, 5, 6, 7, 8, 9, 10, 11, 12, 13, 14, 15, 16, 17, 18, 19, 20, 21, 22, 23, 24, 25, 26] [0, 1, 2, 3, 4, 5, 6, 7, 8, 9, 10, 11, 12, 13, 14, 15, 16, 17, 18, 19, 20, 21, 22, 23, 24, 25, 26] (by kernel_rfl) (by kernel_rfl))
 (fun (x33, _) => Qc (x33) (Zax2 k (-1)) (Zax1 k_1 k g_1 c_1) (Qs [(6, .int .i64)] [] (fun z_ => Zax2 k z_.1)
 Qz
 (fun (x6_1, _) => Qr)) Qk))
 (fun _ => Qs [(6, .int .i64)] [] (fun z_ => Zax0 k z_.1)
 (RefK.draw [] [0, 0, 2, 7, 0, 16, 0, 79, 255, 511, 1023] [0, 1, 2, 4, 5, 6, 3, 7, 8, 9, 10] [0, 1, 2, 3, 4, 5, 6, 7, 8, 9, 10] (by kernel_rfl) (by kernel_rfl))
 (fun (x6, _) => Qr)))) h_
abbrev Zay0 (k : (Int → K)) (x4 : Int) : K :=
 k x4
abbrev Zay1 (block : Int) (k : (Int → K)) (n_2 : Int) : K :=
 Yh0 (IntKind.wrap .u32 n_2) (IntKind.wrap .i64 (256 + block)) fun x27 =>
 Zay0 k x27
abbrev Zay2 (block : Int) (k : (Int → K)) (h_1 : Addr) (n_1 : Int) : K :=
 ldI .i64 (h_1.add 2) fun x20 =>
 Yey n_1 8 16 (IntKind.wrap .u64 x20) fun x22 =>
 Zay1 block k x22
abbrev Zay3 (block : Int) (k : (Int → K)) (h_1 : Addr) (n : Int) : K :=
 ldI .i64 (h_1.add 1) fun x15 =>
 Yey n 2 6 (IntKind.wrap .u64 x15) fun x17 =>
 Zay2 block k h_1 x17
abbrev Zay4 (block : Int) (k : (Int → K)) (h_1 : Addr) : K :=
 ldI .i64 (h_1.add 0) fun x10 =>
 Yey 0 0 2 (IntKind.wrap .u64 x10) fun x12 =>
 Zay3 block k h_1 x12
abbrev Zay5 (k : (Int → K)) (x4_1 : Int) : K :=
 k x4_1
abbrev Zay6 (block : Int) (k : (Int → K)) (h_1 : Addr) (x8 : Bool) : K :=
 brK x8
 (Zay5 k 0)
 (Zay4 block k h_1)
abbrev Zay7 (block : Int) (k : (Int → K)) (h_1 : Addr) : K :=
 ldI .i64 (h_1.add 0) fun x6_0 =>
 ldI .i64 (h_1.add 1) fun x6_1 =>
 ldI .i64 (h_1.add 2) fun x6_2 =>
 Ybz (x6_0, (x6_1, x6_2)) fun x7 =>
 Zay6 block k h_1 (!x7)
abbrev Yp4 (block : Int) (h : (Int × (Int × Int))) : M Int := fun k =>
 alK (.cells #[.int .i64 h.1, .int .i64 h.2.1, .int .i64 h.2.2] 143) fun b =>
 Zay7 block k ⟨b, 0, none⟩
theorem Yrg (block : Int) (h : (Int × (Int × Int))) (k : Int → K) (w : World) (h_ : Yp4 block h k w) : Yel block h k w :=
 Yae (P := Tryz.prog) Tryz.func177 rfl (by kernel_rfl)
 (Qs [(3, .addr)] [0] (fun z_ => Zay7 block k z_.1)
 Qz
 (fun (h_1, _) => Qs [] [0, 3] (fun z_ => Zay4 block k h_1)
 (Qs [(8, .bool)] [0, 3] (fun z_ => Zay6 block k h_1 z_.1)
 Qz
 (fun (x8, _) => Qc (x8) (Zay5 k 0) (Zay4 block k h_1) (Qs [(4, .int .u64)] [] (fun z_ => Zay5 k z_.1)
 Qz
 (fun (x4_1, _) => Qr)) Qk))
 (fun _ => Qs [(5, .int .u64)] [0, 3] (fun z_ => Zay3 block k h_1 z_.1)
 Qz
 (fun (n, _) => Qs [(5, .int .u64)] [0, 3] (fun z_ => Zay2 block k h_1 z_.1)
 Qz
 (fun (n_1, _) => Qs [(5, .int .u64)] [0] (fun z_ => Zay1 block k z_.1)
 Qz
 (fun (n_2, _) => Qs [(4, .int .u64)] [] (fun z_ => Zay0 k z_.1)
 Qz
 (fun (x4, _) => Qr))))))) h_
abbrev Zaz0 (k : ((Int × Bool) → K)) (x4 : Int) (x5 : Bool) : K :=
 k (x4, x5)
abbrev Zaz1 (i : Int) (k : ((Int × Bool) → K)) (o_1 : Addr) : K :=
 tick fun _ =>
 brK (decide (i ≥ 0))
 (ldI .i64 (o_1.add 0) fun x13 =>
 Zaz0 k (IntKind.wrap .i64 (1 + i)) (decide (i < x13)))
 (Zaz0 k (IntKind.wrap .i64 (1 + i)) false)
abbrev Yjm (o : (Int × Int)) (i : Int) : M (Int × Bool) := fun k =>
 alK (.cells #[.int .i64 o.1, .int .i64 o.2] 68) fun b =>
 Zaz1 i k ⟨b, 0, none⟩
theorem Ym0 (o : (Int × Int)) (i : Int) (k : (Int × Bool) → K) (w : World) (h_ : Yjm o i k w) : Yha o i k w :=
 Yae (P := Tryz.prog) Tryz.func185 rfl (by kernel_rfl)
 (Qs [(2, .addr)] [1] (fun z_ => Zaz1 i k z_.1)
 Qz
 (fun (o_1, _) => Qs [(4, .int .i64), (5, .bool)] [] (fun z_ => Zaz0 k z_.1 z_.2.1)
 (RefK.draw [4] [0, 1, 0, 4, 12, 28, 28, 92, 252, 508, 31, 2047] [0, 1, 2, 3, 4, 5, 6, 7, 8, 9, 10, 11] [0, 1, 2, 3, 4, 10, 5, 6, 7, 8, 9, 11] (by kernel_rfl) (by kernel_rfl))
 (fun (x4, x5, _) => Qr))) h_
abbrev Zba0 (k : (Int → K)) (x0 : Int) : K :=
 k x0
abbrev Zba1 (k : (Int → K)) : K :=
 Yde 31 fun x1 =>
 Zba0 k x1
abbrev Va7 : M Int := fun k =>
 Zba1 k
theorem Yu0 (k : Int → K) (w : World) (h_ : Va7 k w) : Yki k w :=
 Yae (P := Tryz.prog) Tryz.func194 rfl (by kernel_rfl)
 (Qs [] [] (fun z_ => Zba1 k)
 Qz
 (fun _ => Qs [(0, .int .i64)] [] (fun z_ => Zba0 k z_.1)
 Qz
 (fun (x0, _) => Qr))) h_
abbrev Zbb0 (k : (Bool → K)) (x2 : Bool) : K :=
 k x2
abbrev Zbb1 (k : (Bool → K)) (x2_1 : Bool) : K :=
 k x2_1
abbrev Zbb2 (k : (Bool → K)) (x2_2 : Bool) : K :=
 k x2_2
abbrev Zbb3 (k : (Bool → K)) (x2_3 : Bool) : K :=
 k x2_3
abbrev Zbb4 (k : (Bool → K)) (h_1 : Addr) : K :=
 ldI .i64 (h_1.add 1) fun x24 =>
 brK (x24 == 0)
 (ldI .i64 (h_1.add 2) fun x28 =>
 brK (decide (x28 ≥ 1))
 (ldI .i64 (h_1.add 2) fun x33 =>
 Zbb3 k (decide (x33 < 256)))
 (Zbb3 k false))
 (Zbb3 k false)
abbrev Zbb5 (k : (Bool → K)) (h_1 : Addr) (x20 : Bool) : K :=
 brK x20
 (Zbb4 k h_1)
 (Zbb0 k false)
abbrev Zbb6 (k : (Bool → K)) (h_1 : Addr) (x4 : Int) (x20_1 : Bool) : K :=
 brK x20_1
 (Zbb5 k h_1 x20_1)
 (Zbb5 k h_1 (x4 == 3))
abbrev Zbb7 (k : (Bool → K)) (h_1 : Addr) : K :=
 ldI .i64 (h_1.add 1) fun x13 =>
 Ya8 x13 fun x14 =>
 brK x14
 (ldI .i64 (h_1.add 2) fun x17 =>
 Zbb2 k (x17 == 0))
 (Zbb2 k false)
abbrev Zbb8 (k : (Bool → K)) (h_1 : Addr) (x4 : Int) (x10 : Bool) : K :=
 brK x10
 (Zbb7 k h_1)
 (Zbb6 k h_1 x4 (x4 == 2))
abbrev Zbb9 (k : (Bool → K)) (h_1 : Addr) : K :=
 ldI .i64 (h_1.add 0) fun x7_0 =>
 ldI .i64 (h_1.add 1) fun x7_1 =>
 ldI .i64 (h_1.add 2) fun x7_2 =>
 Zbb1 k ((x7_0 == 0) && ((x7_1 == 0) && ((x7_2 == 0) && true)))
abbrev Zbb10 (k : (Bool → K)) (h_1 : Addr) (x4 : Int) (x5 : Bool) : K :=
 brK x5
 (Zbb9 k h_1)
 (Zbb8 k h_1 x4 (x4 == 1))
abbrev Zbb11 (k : (Bool → K)) (h_1 : Addr) (x4 : Int) : K :=
 Zbb10 k h_1 x4 (x4 == 0)
abbrev Zbb12 (k : (Bool → K)) (h_1 : Addr) : K :=
 ldI .i64 (h_1.add 0) fun x4_1 =>
 Zbb11 k h_1 x4_1
abbrev Yn2 (h : (Int × (Int × Int))) : M Bool := fun k =>
 alK (.cells #[.int .i64 h.1, .int .i64 h.2.1, .int .i64 h.2.2] 143) fun b =>
 Zbb12 k ⟨b, 0, none⟩
theorem Ykr (h : (Int × (Int × Int))) (k : Bool → K) (w : World) (h_ : Yn2 h k w) : Ybz h k w :=
 Yae (P := Tryz.prog) Tryz.func195 rfl (by kernel_rfl)
 (Qs [(1, .addr)] [] (fun z_ => Zbb12 k z_.1)
 Qz
 (fun (h_1, _) => Qs [] [] (fun z_ => Zbb0 k false)
 (Qs [(4, .int .i64)] [1] (fun z_ => Zbb11 k h_1 z_.1)
 Qz
 (fun (x4, _) => Qb (Qs [(5, .bool)] [1, 4] (fun z_ => Zbb10 k h_1 x4 z_.1)
 Qz
 (fun (x5, _) => Qc (x5) (Zbb9 k h_1) (Zbb8 k h_1 x4 (x4 == 1)) (Qs [(2, .bool)] [] (fun z_ => Zbb1 k z_.1)
 Qz
 (fun (x2_1, _) => Qr)) (Qs [(10, .bool)] [1, 4] (fun z_ => Zbb8 k h_1 x4 z_.1)
 Qz
 (fun (x10, _) => Qc (x10) (Zbb7 k h_1) (Zbb6 k h_1 x4 (x4 == 2)) (Qs [(2, .bool)] [] (fun z_ => Zbb2 k z_.1)
 (Qp [3])
 (fun (x2_2, _) => Qr)) (Qs [(20, .bool)] [1] (fun z_ => Zbb5 k h_1 z_.1)
 (Qs [(20, .bool)] [1, 4] (fun z_ => Zbb6 k h_1 x4 z_.1)
 Qz
 (fun (x20_1, _) => Qc (x20_1) (Zbb5 k h_1 x20_1) (Zbb5 k h_1 (x4 == 3)) Qk Qz))
 (fun (x20, _) => Qc (x20) (Zbb4 k h_1) (Zbb0 k false) (Qs [(2, .bool)] [] (fun z_ => Zbb3 k z_.1)
 (Qp [3, 8])
 (fun (x2_3, _) => Qr)) Qk))))))))
 (fun _ => Qs [(2, .bool)] [] (fun z_ => Zbb0 k z_.1)
 Qz
 (fun (x2, _) => Qr)))) h_
abbrev Zbc0 (k : (Sl → K)) (x2 : Sl) : K :=
 k x2
abbrev Zbc1 (k : (Sl → K)) (out_1 : Sl) : K :=
 Zbc0 k out_1
abbrev Zbc2 (x6_1 : Int) (c : ((Sl × Int × Unit) → K)) (out_3 : Sl) : K :=
 c (out_3, (IntKind.wrap .i64 (x6_1 + 1)), ())
abbrev Zbc3 (many : Int) (out_2 : Sl) (x6_1 : Int) (c : ((Sl × Int × Unit) → K)) : K :=
 alK (.cells #[.int .i64 2, .int .i64 0, .int .i64 many] 143) fun b =>
 semT Tryz.prog (Builtin.append_ #[80, 80] 80 #[out_2.v, .slice (some ⟨b, 0, none⟩) 1 1]) (.one (.sc (.slice))) fun x15 =>
 Zbc2 x6_1 c x15
abbrev Zbc4 (out_2 : Sl) (x6_1 : Int) (c : ((Sl × Int × Unit) → K)) (i : Int) : K :=
 alK (.cells #[.int .i64 3, .int .i64 0, .int .i64 i] 143) fun b_1 =>
 semT Tryz.prog (Builtin.append_ #[80, 80] 80 #[out_2.v, .slice (some ⟨b_1, 0, none⟩) 1 1]) (.one (.sc (.slice))) fun x20 =>
 Zbc2 x6_1 c x20
abbrev Zbc5 (many : Int) (out_2 : Sl) (x6_1 : Int) (c : ((Sl × Int × Unit) → K)) (i : Int) (x10 : Bool) : K :=
 brK x10
 (Zbc3 many out_2 x6_1 c)
 (Zbc4 out_2 x6_1 c i)
abbrev Zbc6 (many : Int) (out_2 : Sl) (x6_1 : Int) (c : ((Sl × Int × Unit) → K)) (i : Int) : K :=
 Zbc5 many out_2 x6_1 c i (i == 0)
abbrev Zbc7 (many : Int) (k : (Sl → K)) (out_2 : Sl) (x6_1 : Int) (c : ((Sl × Int × Unit) → K)) (x7 : Bool) : K :=
 brK x7
 (Zbc6 many out_2 x6_1 c x6_1)
 (Zbc1 k out_2)
abbrev Zbc8 (many : Int) (k : (Sl → K)) (x5 : Int) (out_2 : Sl) (x6_1 : Int) (c : ((Sl × Int × Unit) → K)) : K :=
 Zbc7 many k out_2 x6_1 c (decide (x6_1 < x5))
abbrev Zbc9 (many : Int) (k : (Sl → K)) (out : Sl) (x5 : Int) (x6 : Int) : K :=
 lp (fun (z_ : (Sl × Int × Unit)) c_ => Zbc8 many k x5 z_.1 z_.2.1 c_) (out, x6, ())
abbrev Zbc10 (many : Int) (k : (Sl → K)) (out : Sl) : K :=
 Zbc9 many k out many 0
abbrev Ywx (many : Int) : M Sl := fun k =>
 Zbc10 many k ⟨none, 0, 0⟩
theorem Ywy (many : Int) (k : Sl → K) (w : World) (h_ : Ywx many k w) : Ymu many k w :=
 Yae (P := Tryz.prog) Tryz.func201 rfl (by kernel_rfl)
 (Qs [] [0] (fun z_ => Zbc10 many k ⟨none, 0, 0⟩)
 Qz
 (fun _ => Qs [(3, .slice)] [0] (fun z_ => Zbc10 many k z_.1)
 Qz
 (fun (out, _) => Qs [(3, .slice)] [] (fun z_ => Zbc1 k z_.1)
 (Qs [(5, .int .i64), (6, .int .i64)] [0, 3] (fun z_ => Zbc9 many k out z_.1 z_.2.1)
 Qz
 (fun (x5, x6, _) => Qb (Ql [(3, .slice), (6, .int .i64)] [0, 5] (fun (z_ : (Sl × Int × Unit)) c_ => Zbc8 many k x5 z_.1 z_.2.1 c_) (out, x6, ())
 (fun (out_2, x6_1, _) c => Qs [(7, .bool)] [0, 3, 5, 6] (fun z_ => Zbc7 many k out_2 x6_1 c z_.1)
 Qz
 (fun (x7, _) => Qs [] [0, 3, 5, 6] (fun z_ => Zbc6 many out_2 x6_1 c x6_1)
 (Qc (x7) (Zbc6 many out_2 x6_1 c x6_1) (Zbc1 k out_2) Qk Qx)
 (fun _ => Qs [(3, .slice)] [0, 5, 6] (fun z_ => Zbc2 x6_1 c z_.1)
 (Qb (Qs [(4, .int .i64)] [0, 3, 5, 6] (fun z_ => Zbc6 many out_2 x6_1 c z_.1)
 Qz
 (fun (i, _) => Qs [(10, .bool)] [0, 3, 4, 5, 6] (fun z_ => Zbc5 many out_2 x6_1 c i z_.1)
 Qz
 (fun (x10, _) => Qc (x10) (Zbc3 many out_2 x6_1 c) (Zbc4 out_2 x6_1 c i) Qz Qz))))
 (fun (out_3, _) => Qz)))))))
 (fun (out_1, _) => Qs [(2, .slice)] [] (fun z_ => Zbc0 k z_.1)
 Qz
 (fun (x2, _) => Qr))))) h_
abbrev Zbd0 (k : (Int → K)) (x8 : Int) : K :=
 k x8
abbrev Zbd1 (w_1 : Int) (at_1 : Int) (n : Int) (k : (Int → K)) (m : Int) : K :=
 nneg (IntKind.wrap .u64 at_1) <|
 Zbd0 k (bitI .or .u64 (bitI .andNot .u64 w_1 m) (bitI .and .u64 (shlI .u64 n (IntKind.wrap .u64 at_1)) m))
abbrev Zbd2 (w_1 : Int) (at_1 : Int) (width : Int) (n : Int) (k : (Int → K)) : K :=
 Yix width fun x18 =>
 nneg (IntKind.wrap .u64 at_1) <|
 Zbd1 w_1 at_1 n k (shlI .u64 x18 (IntKind.wrap .u64 at_1))
abbrev Zbd3 (k : (Int → K)) (x8_1 : Int) : K :=
 k x8_1
abbrev Zbd4 (w_1 : Int) (at_1 : Int) (width : Int) (n : Int) (k : (Int → K)) (x15 : Bool) : K :=
 brK x15
 (Zbd3 k w_1)
 (Zbd2 w_1 at_1 width n k)
abbrev Zbd5 (w_1 : Int) (at_1 : Int) (width : Int) (n : Int) (k : (Int → K)) : K :=
 brK (decide (at_1 < 0))
 (Zbd4 w_1 at_1 width n k true)
 (Zbd4 w_1 at_1 width n k (decide (at_1 ≥ 64)))
abbrev Vd9 (w_1 : Int) (at_1 : Int) (width : Int) (n : Int) : M Int := fun k =>
 Zbd5 w_1 at_1 width n k
theorem Yyy (w_1 : Int) (at_1 : Int) (width : Int) (n : Int) (k : Int → K) (w : World) (h_ : Vd9 w_1 at_1 width n k w) : Yey w_1 at_1 width n k w :=
 Yae (P := Tryz.prog) Tryz.func204 rfl (by kernel_rfl)
 (Qs [] [0, 1, 2, 3] (fun z_ => Zbd5 w_1 at_1 width n k)
 Qz
 (fun _ => Qs [] [0, 1, 2, 3] (fun z_ => Zbd2 w_1 at_1 width n k)
 (Qs [(15, .bool)] [0, 1, 2, 3] (fun z_ => Zbd4 w_1 at_1 width n k z_.1)
 (Qp [2])
 (fun (x15, _) => Qc (x15) (Zbd3 k w_1) (Zbd2 w_1 at_1 width n k) (Qs [(8, .int .u64)] [] (fun z_ => Zbd3 k z_.1)
 Qz
 (fun (x8_1, _) => Qr)) Qk))
 (fun _ => Qs [(9, .int .u64)] [0, 1, 3] (fun z_ => Zbd1 w_1 at_1 n k z_.1)
 Qz
 (fun (m, _) => Qs [(8, .int .u64)] [] (fun z_ => Zbd0 k z_.1)
 Qz
 (fun (x8, _) => Qr))))) h_
abbrev Zbe0 (k : (Int → K)) (x4 : Int) : K :=
 k x4
abbrev Zbe1 (n : Int) (place : Int) (k : (Int → K)) : K :=
 alK (.cells #[.int .u64 (IntKind.wrap .u64 n), .int .u64 (IntKind.wrap .u64 place)] 109) fun b =>
 Ymw ⟨(some ⟨b, 0, none⟩), 2, 2⟩ fun x10 =>
 Zbe0 k (bitI .or .u64 (shlI .u64 (IntKind.wrap .u64 x10) 32) (IntKind.wrap .u64 n))
abbrev Vea (n : Int) (place : Int) : M Int := fun k =>
 Zbe1 n place k
theorem Yyz (n : Int) (place : Int) (k : Int → K) (w : World) (h_ : Vea n place k w) : Yh0 n place k w :=
 Yae (P := Tryz.prog) Tryz.func205 rfl (by kernel_rfl)
 (Qs [] [0, 1] (fun z_ => Zbe1 n place k)
 Qz
 (fun _ => Qs [(4, .int .u64)] [] (fun z_ => Zbe0 k z_.1)
 Qz
 (fun (x4, _) => Qr))) h_
abbrev Zbf0 (k : (Int → K)) (x2 : Int) : K :=
 k x2
abbrev Zbf1 (width : Int) (k : (Int → K)) : K :=
 nneg (IntKind.wrap .u64 width) <|
 Zbf0 k (IntKind.wrap .u64 ((shlI .u64 1 (IntKind.wrap .u64 width)) - 1))
abbrev Zbf2 (k : (Int → K)) (x2_1 : Int) : K :=
 k x2_1
abbrev Zbf3 (k : (Int → K)) (x2_2 : Int) : K :=
 k x2_2
abbrev Zbf4 (width : Int) (k : (Int → K)) (x6 : Bool) : K :=
 brK x6
 (Zbf3 k 18446744073709551615)
 (Zbf1 width k)
abbrev Zbf5 (width : Int) (k : (Int → K)) (x3 : Bool) : K :=
 brK x3
 (Zbf2 k 0)
 (Zbf4 width k (decide (width ≥ 64)))
abbrev Vch (width : Int) : M Int := fun k =>
 Zbf5 width k (decide (width ≤ 0))
theorem Ywz (width : Int) (k : Int → K) (w : World) (h_ : Vch width k w) : Yix width k w :=
 Yae (P := Tryz.prog) Tryz.func216 rfl (by kernel_rfl)
 (Qs [] [0] (fun z_ => Zbf5 width k (decide (width ≤ 0)))
 Qz
 (fun _ => Qs [] [0] (fun z_ => Zbf1 width k)
 (Qb (Qs [(3, .bool)] [0] (fun z_ => Zbf5 width k z_.1)
 Qz
 (fun (x3, _) => Qc (x3) (Zbf2 k 0) (Zbf4 width k (decide (width ≥ 64))) (Qs [(2, .int .u64)] [] (fun z_ => Zbf2 k z_.1)
 Qz
 (fun (x2_1, _) => Qr)) (Qs [(6, .bool)] [0] (fun z_ => Zbf4 width k z_.1)
 Qz
 (fun (x6, _) => Qc (x6) (Zbf3 k 18446744073709551615) (Zbf1 width k) (Qs [(2, .int .u64)] [] (fun z_ => Zbf3 k z_.1)
 Qz
 (fun (x2_2, _) => Qr)) Qk)))))
 (fun _ => Qs [(2, .int .u64)] [] (fun z_ => Zbf0 k z_.1)
 Qz
 (fun (x2, _) => Qr)))) h_
abbrev Zbg0 (k : (Int → K)) (x2 : Int) : K :=
 k x2
abbrev Zbg1 (w_1 : Int) (k : (Int → K)) : K :=
 Ykk (IntKind.wrap .u64 ((bitI .and .u64 w_1 (IntKind.wrap .u64 (0 - w_1))) - 1)) fun x8 =>
 Zbg0 k x8
abbrev Yrh (w_1 : Int) : M Int := fun k =>
 Zbg1 w_1 k
theorem Ys2 (w_1 : Int) (k : Int → K) (w : World) (h_ : Yrh w_1 k w) : Yiz w_1 k w :=
 Yae (P := Tryz.prog) Tryz.func223 rfl (by kernel_rfl)
 (Qs [] [0] (fun z_ => Zbg1 w_1 k)
 Qz
 (fun _ => Qs [(2, .int .i64)] [] (fun z_ => Zbg0 k z_.1)
 Qz
 (fun (x2, _) => Qr))) h_
abbrev Zbh0 (k : (Int → K)) (x2 : Int) : K :=
 k x2
abbrev Zbh1 (list : Sl) (k : (Int → K)) : K :=
 Ykl list fun x4 =>
 Yww x4 fun x5 =>
 Zbh0 k x5
abbrev Vci (list : Sl) : M Int := fun k =>
 Zbh1 list k
theorem Yw0 (list : Sl) (k : Int → K) (w : World) (h_ : Vci list k w) : Ymw list k w :=
 Yae (P := Tryz.prog) Tryz.func226 rfl (by kernel_rfl)
 (Qs [] [0] (fun z_ => Zbh1 list k)
 Qz
 (fun _ => Qs [(2, .int .u32)] [] (fun z_ => Zbh0 k z_.1)
 Qz
 (fun (x2, _) => Qr))) h_
abbrev Zbi0 (k : (Int → K)) (x2 : Int) : K :=
 k x2
abbrev Zbi1 (k : (Int → K)) (w_4 : Int) : K :=
 Zbi0 k (IntKind.wrap .i64 (shrI .u64 (IntKind.wrap .u64 (w_4 * 72340172838076673)) 56))
abbrev Zbi2 (k : (Int → K)) (w_3 : Int) : K :=
 Zbi1 k (bitI .and .u64 (IntKind.wrap .u64 (w_3 + (shrI .u64 w_3 4))) 1085102592571150095)
abbrev Zbi3 (k : (Int → K)) (w_2 : Int) : K :=
 Zbi2 k (IntKind.wrap .u64 ((bitI .and .u64 w_2 3689348814741910323) + (bitI .and .u64 (shrI .u64 w_2 2) 3689348814741910323)))
abbrev Zbi4 (w_1 : Int) (k : (Int → K)) : K :=
 Zbi3 k (IntKind.wrap .u64 (w_1 - (bitI .and .u64 (shrI .u64 w_1 1) 6148914691236517205)))
abbrev Va8 (w_1 : Int) : M Int := fun k =>
 Zbi4 w_1 k
theorem Yu1 (w_1 : Int) (k : Int → K) (w : World) (h_ : Va8 w_1 k w) : Ykk w_1 k w :=
 Yae (P := Tryz.prog) Tryz.func235 rfl (by kernel_rfl)
 (Qs [] [0] (fun z_ => Zbi4 w_1 k)
 Qz
 (fun _ => Qs [(0, .int .u64)] [] (fun z_ => Zbi3 k z_.1)
 Qz
 (fun (w_2, _) => Qs [(0, .int .u64)] [] (fun z_ => Zbi2 k z_.1)
 Qz
 (fun (w_3, _) => Qs [(0, .int .u64)] [] (fun z_ => Zbi1 k z_.1)
 Qz
 (fun (w_4, _) => Qs [(2, .int .i64)] [] (fun z_ => Zbi0 k z_.1)
 Qz
 (fun (x2, _) => Qr)))))) h_
abbrev Zbj0 (k : (Int → K)) (x2 : Int) : K :=
 k x2
abbrev Zbj1 (data : Sl) (k : (Int → K)) : K :=
 Ypb 0 data fun x4 =>
 Zbj0 k x4
abbrev Vf7 (data : Sl) : M Int := fun k =>
 Zbj1 data k
theorem Va9 (data : Sl) (k : Int → K) (w : World) (h_ : Vf7 data k w) : Yww data k w :=
 Yae (P := Tryz.prog) Tryz.func236 rfl (by kernel_rfl)
 (Qs [] [0] (fun z_ => Zbj1 data k)
 Qz
 (fun _ => Qs [(2, .int .u32)] [] (fun z_ => Zbj0 k z_.1)
 Qz
 (fun (x2, _) => Qr))) h_
abbrev Zbk0 (k : (Sl → K)) (x2 : Sl) : K :=
 k x2
abbrev Zbk1 (k : (Sl → K)) (out_1 : Sl) : K :=
 Zbk0 k out_1
abbrev Zbk2 (x13_1 : Int) (c : ((Sl × Int × Unit) → K)) (out_3 : Sl) : K :=
 c (out_3, (IntKind.wrap .i64 (x13_1 + 1)), ())
abbrev Zbk3 (x17_1 : Int) (c_1 : ((Sl × Int × Unit) → K)) (out_5 : Sl) : K :=
 c_1 (out_5, (IntKind.wrap .i64 (x17_1 + 1)), ())
abbrev Zbk4 (w_1 : Int) (out_4 : Sl) (x17_1 : Int) (c_1 : ((Sl × Int × Unit) → K)) (i : Int) : K :=
 nneg (IntKind.wrap .u64 (IntKind.wrap .i64 (8 * i))) <|
 alK (.cells #[.int .u8 (IntKind.wrap .u8 (shrI .u64 w_1 (IntKind.wrap .u64 (IntKind.wrap .i64 (8 * i)))))] 5) fun b =>
 semT Tryz.prog (Builtin.append_ #[60, 60] 60 #[out_4.v, .slice (some ⟨b, 0, none⟩) 1 1]) (.one (.sc (.slice))) fun x28 =>
 Zbk3 x17_1 c_1 x28
abbrev Zbk5 (x13_1 : Int) (c : ((Sl × Int × Unit) → K)) (w_1 : Int) (out_4 : Sl) (x17_1 : Int) (c_1 : ((Sl × Int × Unit) → K)) (x18 : Bool) : K :=
 brK x18
 (Zbk4 w_1 out_4 x17_1 c_1 x17_1)
 (Zbk2 x13_1 c out_4)
abbrev Zbk6 (x13_1 : Int) (c : ((Sl × Int × Unit) → K)) (w_1 : Int) (out_4 : Sl) (x17_1 : Int) (c_1 : ((Sl × Int × Unit) → K)) : K :=
 Zbk5 x13_1 c w_1 out_4 x17_1 c_1 (decide (x17_1 < 8))
abbrev Zbk7 (out_2 : Sl) (x13_1 : Int) (c : ((Sl × Int × Unit) → K)) (w_1 : Int) (x17 : Int) : K :=
 lp (fun (z_ : (Sl × Int × Unit)) c_ => Zbk6 x13_1 c w_1 z_.1 z_.2.1 c_) (out_2, x17, ())
abbrev Zbk8 (out_2 : Sl) (x13_1 : Int) (c : ((Sl × Int × Unit) → K)) (w_1 : Int) : K :=
 Zbk7 out_2 x13_1 c w_1 0
abbrev Zbk9 (x11 : Sl) (out_2 : Sl) (x13_1 : Int) (c : ((Sl × Int × Unit) → K)) : K :=
 ixS x11.p x11.n x13_1 1 fun x15 =>
 ldI .u64 x15 fun x16 =>
 Zbk8 out_2 x13_1 c x16
abbrev Zbk10 (k : (Sl → K)) (x11 : Sl) (out_2 : Sl) (x13_1 : Int) (c : ((Sl × Int × Unit) → K)) (x14 : Bool) : K :=
 brK x14
 (Zbk9 x11 out_2 x13_1 c)
 (Zbk1 k out_2)
abbrev Zbk11 (k : (Sl → K)) (x11 : Sl) (x12 : Int) (out_2 : Sl) (x13_1 : Int) (c : ((Sl × Int × Unit) → K)) : K :=
 Zbk10 k x11 out_2 x13_1 c (decide (x13_1 < x12))
abbrev Zbk12 (k : (Sl → K)) (out : Sl) (x11 : Sl) (x12 : Int) (x13 : Int) : K :=
 lp (fun (z_ : (Sl × Int × Unit)) c_ => Zbk11 k x11 x12 z_.1 z_.2.1 c_) (out, x13, ())
abbrev Zbk13 (words : Sl) (k : (Sl → K)) (out : Sl) : K :=
 Zbk12 k out words ((words.n : Nat) : Int) 0
abbrev Zbk14 (words : Sl) (k : (Sl → K)) : K :=
 mkS Tryz.prog 5 0 (IntKind.wrap .i64 (8 * ((words.n : Nat) : Int))) fun b_1 =>
 Zbk13 words k ⟨(some ⟨b_1, 0, none⟩), (Int.toNat 0), (Int.toNat (IntKind.wrap .i64 (8 * ((words.n : Nat) : Int))))⟩
abbrev Vba (words : Sl) : M Sl := fun k =>
 Zbk14 words k
theorem Yu2 (words : Sl) (k : Sl → K) (w : World) (h_ : Vba words k w) : Ykl words k w :=
 Yae (P := Tryz.prog) Tryz.func237 rfl (by kernel_rfl)
 (Qs [] [0] (fun z_ => Zbk14 words k)
 Qz
 (fun _ => Qs [(3, .slice)] [0] (fun z_ => Zbk13 words k z_.1)
 Qz
 (fun (out, _) => Qs [(3, .slice)] [] (fun z_ => Zbk1 k z_.1)
 (Qs [(11, .slice), (12, .int .i64), (13, .int .i64)] [3] (fun z_ => Zbk12 k out z_.1 z_.2.1 z_.2.2.1)
 Qz
 (fun (x11, x12, x13, _) => Qb (Ql [(3, .slice), (13, .int .i64)] [11, 12] (fun (z_ : (Sl × Int × Unit)) c_ => Zbk11 k x11 x12 z_.1 z_.2.1 c_) (out, x13, ())
 (fun (out_2, x13_1, _) c => Qs [(14, .bool)] [3, 11, 12, 13] (fun z_ => Zbk10 k x11 out_2 x13_1 c z_.1)
 Qz
 (fun (x14, _) => Qs [] [3, 11, 12, 13] (fun z_ => Zbk9 x11 out_2 x13_1 c)
 (Qc (x14) (Zbk9 x11 out_2 x13_1 c) (Zbk1 k out_2) Qk Qx)
 (fun _ => Qs [(3, .slice)] [11, 12, 13] (fun z_ => Zbk2 x13_1 c z_.1)
 (Qb (Qs [(5, .int .u64)] [3, 11, 12, 13] (fun z_ => Zbk8 out_2 x13_1 c z_.1)
 Qz
 (fun (w_1, _) => Qs [(17, .int .i64)] [3, 5, 11, 12, 13] (fun z_ => Zbk7 out_2 x13_1 c w_1 z_.1)
 Qz
 (fun (x17, _) => Qb (Ql [(3, .slice), (17, .int .i64)] [5, 11, 12, 13] (fun (z_ : (Sl × Int × Unit)) c_ => Zbk6 x13_1 c w_1 z_.1 z_.2.1 c_) (out_2, x17, ())
 (fun (out_4, x17_1, _) c_1 => Qs [(18, .bool)] [3, 5, 11, 12, 13, 17] (fun z_ => Zbk5 x13_1 c w_1 out_4 x17_1 c_1 z_.1)
 Qz
 (fun (x18, _) => Qs [] [3, 5, 11, 12, 13, 17] (fun z_ => Zbk4 w_1 out_4 x17_1 c_1 x17_1)
 (Qc (x18) (Zbk4 w_1 out_4 x17_1 c_1 x17_1) (Zbk2 x13_1 c out_4) Qk Qx)
 (fun _ => Qs [(3, .slice)] [5, 11, 12, 13, 17] (fun z_ => Zbk3 x17_1 c_1 z_.1)
 (Qb (Qs [(6, .int .i64)] [3, 5, 11, 12, 13, 17] (fun z_ => Zbk4 w_1 out_4 x17_1 c_1 z_.1)
 Qz
 (fun (i, _) => Qz)))
 (fun (out_5, _) => Qz)))))))))
 (fun (out_3, _) => Qz)))))))
 (fun (out_1, _) => Qs [(2, .slice)] [] (fun z_ => Zbk0 k z_.1)
 Qz
 (fun (x2, _) => Qr))))) h_
abbrev Zbl0 (k : (Int → K)) (x4 : Int) : K :=
 k x4
abbrev Zbl1 (k : (Int → K)) (sum_2 : Int) : K :=
 Zbl0 k (notI .u32 sum_2)
abbrev Zbl2 (x11_1 : Int) (c : ((Int × Int × Unit) → K)) (sum_4 : Int) : K :=
 c (sum_4, (IntKind.wrap .i64 (x11_1 + 1)), ())
abbrev Zbl3 (x11_1 : Int) (c : ((Int × Int × Unit) → K)) (b : Int) (sum_5 : Int) : K :=
 Yi1 (bitI .xor .u8 (IntKind.wrap .u8 sum_5) (shrI .u8 b 4)) fun x28 =>
 Zbl2 x11_1 c (bitI .xor .u32 x28 (shrI .u32 sum_5 4))
abbrev Zbl4 (sum_3 : Int) (x11_1 : Int) (c : ((Int × Int × Unit) → K)) (b : Int) : K :=
 Yi1 (bitI .xor .u8 (IntKind.wrap .u8 sum_3) b) fun x19 =>
 Zbl3 x11_1 c b (bitI .xor .u32 x19 (shrI .u32 sum_3 4))
abbrev Zbl5 (x9 : Sl) (sum_3 : Int) (x11_1 : Int) (c : ((Int × Int × Unit) → K)) : K :=
 ixS x9.p x9.n x11_1 1 fun x13 =>
 ldI .u8 x13 fun x14 =>
 Zbl4 sum_3 x11_1 c x14
abbrev Zbl6 (k : (Int → K)) (x9 : Sl) (sum_3 : Int) (x11_1 : Int) (c : ((Int × Int × Unit) → K)) (x12 : Bool) : K :=
 brK x12
 (Zbl5 x9 sum_3 x11_1 c)
 (Zbl1 k sum_3)
abbrev Zbl7 (k : (Int → K)) (x9 : Sl) (x10 : Int) (sum_3 : Int) (x11_1 : Int) (c : ((Int × Int × Unit) → K)) : K :=
 Zbl6 k x9 sum_3 x11_1 c (decide (x11_1 < x10))
abbrev Zbl8 (k : (Int → K)) (sum_1 : Int) (x9 : Sl) (x10 : Int) (x11 : Int) : K :=
 lp (fun (z_ : (Int × Int × Unit)) c_ => Zbl7 k x9 x10 z_.1 z_.2.1 c_) (sum_1, x11, ())
abbrev Zbl9 (data : Sl) (k : (Int → K)) (sum_1 : Int) : K :=
 Zbl8 k sum_1 data ((data.n : Nat) : Int) 0
abbrev Veb (sum : Int) (data : Sl) : M Int := fun k =>
 Zbl9 data k (notI .u32 sum)
theorem Yy0 (sum : Int) (data : Sl) (k : Int → K) (w : World) (h_ : Veb sum data k w) : Ypb sum data k w :=
 Yae (P := Tryz.prog) Tryz.func258 rfl (by kernel_rfl)
 (Qs [] [0, 1] (fun z_ => Zbl9 data k (notI .u32 sum))
 Qz
 (fun _ => Qs [(0, .int .u32)] [1] (fun z_ => Zbl9 data k z_.1)
 Qz
 (fun (sum_1, _) => Qs [(0, .int .u32)] [] (fun z_ => Zbl1 k z_.1)
 (Qs [(9, .slice), (10, .int .i64), (11, .int .i64)] [0] (fun z_ => Zbl8 k sum_1 z_.1 z_.2.1 z_.2.2.1)
 Qz
 (fun (x9, x10, x11, _) => Qb (Ql [(0, .int .u32), (11, .int .i64)] [9, 10] (fun (z_ : (Int × Int × Unit)) c_ => Zbl7 k x9 x10 z_.1 z_.2.1 c_) (sum_1, x11, ())
 (fun (sum_3, x11_1, _) c => Qs [(12, .bool)] [0, 9, 10, 11] (fun z_ => Zbl6 k x9 sum_3 x11_1 c z_.1)
 Qz
 (fun (x12, _) => Qs [] [0, 9, 10, 11] (fun z_ => Zbl5 x9 sum_3 x11_1 c)
 (Qc (x12) (Zbl5 x9 sum_3 x11_1 c) (Zbl1 k sum_3) Qk Qx)
 (fun _ => Qs [(0, .int .u32)] [9, 10, 11] (fun z_ => Zbl2 x11_1 c z_.1)
 (Qb (Qs [(6, .int .u8)] [0, 9, 10, 11] (fun z_ => Zbl4 sum_3 x11_1 c z_.1)
 Qz
 (fun (b, _) => Qs [(0, .int .u32)] [6, 9, 10, 11] (fun z_ => Zbl3 x11_1 c b z_.1)
 Qz
 (fun (sum_5, _) => Qz))))
 (fun (sum_4, _) => Qz)))))))
 (fun (sum_2, _) => Qs [(4, .int .u32)] [] (fun z_ => Zbl0 k z_.1)
 Qz
 (fun (x4, _) => Qr))))) h_
abbrev Zbm0 (k : (Int → K)) (x2 : Int) : K :=
 k x2
abbrev Zbm1 (i : Int) (k : (Int → K)) : K :=
 ixI .u32 #[.int .u32 0, .int .u32 498536548, .int .u32 997073096, .int .u32 651767980, .int .u32 1994146192, .int .u32 1802195444, .int .u32 1303535960, .int .u32 1342533948, .int .u32 3988292384, .int .u32 4027552580, .int .u32 3604390888, .int .u32 3412177804, .int .u32 2607071920, .int .u32 2262029012, .int .u32 2685067896, .int .u32 3183342108] 16 (bitI .and .u8 i 15) fun x6 =>
 Zbm0 k x6
abbrev Vcj (i : Int) : M Int := fun k =>
 Zbm1 i k
theorem Yw1 (i : Int) (k : Int → K) (w : World) (h_ : Vcj i k w) : Yi1 i k w :=
 Yae (P := Tryz.prog) Tryz.func270 rfl (by kernel_rfl)
 (Qs [] [0] (fun z_ => Zbm1 i k)
 Qz
 (fun _ => Qs [(2, .int .u32)] [] (fun z_ => Zbm0 k z_.1)
 Qz
 (fun (x2, _) => Qr))) h_
end
section
variable {B : World} {R : SL}
/-! geom -/
theorem Yp5 {g : Int} (h0 : 0 ≤ g) (h1 : g ≤ 2 ^ 40) {k : Int → K} (hk : T B R (k (g * 512))) : T B R (Yco g k) := by
 refine Yaq (Yjw g k) ?_
 (repeat (first | ((with_reducible apply Yaf); (focus rfl); (focus exact hasA); (focus rfl)) | (with_reducible refine Ya7 ?_; intro _)))
 rw [w64 (by omega) (by omega)]
 exact hk.weak
def blockOf (g at_ : Int) : Int := if at_ < 0 ∨ at_ ≥ g * 512 then -1 else at_ / 512
theorem Yfp {g a : Int} (h0 : 0 ≤ g) (h1 : g ≤ 2 ^ 40) {k : Int → K} (hk : T B R (k (blockOf g a))) : T B R (Ya3 g a k) := by
 refine Yaq (Yh1 g a k) ?_
 unfold blockOf at hk
 (repeat' (first | with_reducible refine Yal ?_ | ((with_reducible apply Yaf); (focus rfl); (focus exact hasA); (focus rfl)) | (with_reducible refine Ya7 ?_; intro _) | with_reducible refine Yai (fun _ => ?_) (fun _ => ?_)))
 ·rw [if_pos (by omega)] at hk; exact hk.weak
 ·refine Yp5 h0 h1 ?_
  (repeat' (with_reducible refine Yai (fun _ => ?_) (fun _ => ?_)))
  ·rw [if_pos (by omega)] at hk; exact hk.weak
  ·rw [if_neg (by omega)] at hk
   rw [Int.tdiv_eq_ediv_of_nonneg (by omega), w64 (by omega) (by omega)]; exact hk.weak
def first (g b : Int) : Int := if b < 0 ∨ b ≥ g then -1 else b * 512
theorem Yhd {g b : Int} (h1 : g ≤ 2 ^ 40) {k : Int → K} (hk : T B R (k (first g b))) : T B R (Yba g b k) := by
 refine Yaq (Yjv g b k) ?_
 unfold first at hk
 (repeat' (first | with_reducible refine Yal ?_ | ((with_reducible apply Yaf); (focus rfl); (focus exact hasA); (focus rfl)) | (with_reducible refine Ya7 ?_; intro _) | with_reducible refine Yai (fun _ => ?_) (fun _ => ?_)))
 ·rw [if_pos (by omega)] at hk; exact hk.weak
 ·rw [if_pos (by omega)] at hk; exact hk.weak
 ·rw [if_neg (by omega)] at hk
  rw [w64 (by omega) (by omega)]; exact hk.weak
def header (g b : Int) : Int := if b < 1 ∨ b ≥ g then -1 else 256 + b
theorem Yfa {g b : Int} (h1 : g ≤ 2 ^ 40) {k : Int → K} (hk : T B R (k (header g b))) : T B R (Ya0 g b k) := by
 refine Yaq (Yi2 g b k) ?_
 unfold header at hk
 (repeat' (first | with_reducible refine Yal ?_ | ((with_reducible apply Yaf); (focus rfl); (focus exact hasA); (focus rfl)) | (with_reducible refine Ya7 ?_; intro _) | with_reducible refine Yai (fun _ => ?_) (fun _ => ?_)))
 ·rw [if_pos (by omega)] at hk; exact hk.weak
 ·rw [if_pos (by omega)] at hk; exact hk.weak
 ·rw [if_neg (by omega)] at hk
  rw [w64 (by omega) (by omega)]; exact hk.weak
theorem Yy1 {g : Int} (h0 : 0 ≤ g) (h1 : g ≤ 2 ^ 40) {k : Int → K} (hk : T B R (k (max 0 (g - 1) * 512))) : T B R (Yeb g k) := by
 refine Yaq (Ykp g k) ?_
 (repeat' (first | ((with_reducible apply Yaf); (focus rfl); (focus exact hasA); (focus rfl)) | (with_reducible refine Ya7 ?_; intro _)))
 have e : max2I 0 (IntKind.wrap .i64 (g - 1)) = max 0 (g - 1) := by rw [w64 (by omega) (by omega)]; unfold max2I; split <;> omega
 rw [e, w64 (by omega) (by omega)]; exact hk.weak
theorem Yy2 {g a : Int} (h0 : 0 ≤ g) (h1 : g ≤ 2 ^ 40) {k : Bool → K} (hk : T B R (k (decide (1 ≤ blockOf g a)))) : T B R (Yef g a k) := by
 refine Yaq (Ykq g a k) ?_
 (repeat' (first | ((with_reducible apply Yaf); (focus rfl); (focus exact hasA); (focus rfl)) | (with_reducible refine Ya7 ?_; intro _)))
 refine Yfp h0 h1 ?_
 exact hk.weak
/-! class -/
def szs : List Int := [2, 3, 4, 5, 6, 7, 8, 10, 12, 14, 16, 18, 20, 24, 28, 32, 36, 40, 46, 51, 56, 64, 73, 85, 92, 102, 113, 128, 146, 170, 204, 256]
theorem Yu3 {k : List Value → K} (hk : T B R (k (szs.map fun n => .int .i64 n))) : T B R (Yit k) := by
 refine Yaq (Ys1 k) ?_
 (repeat ((with_reducible refine Ya7 ?_; intro _)))
 refine Vf3 (l := List.replicate 32 (.int .i64 0)) (cs := szs.map fun n => .int .i64 n) rfl (by kernel_rfl) (by kernel_rfl) rfl rfl ?_
 (repeat (((with_reducible apply Yt0); (focus rfl); (focus exact hasA); (focus rfl))))
 exact hk.weak
theorem Ybt {c : Int} {k : Bool → K} (hk : T B R (k (decide (0 ≤ c ∧ c < 32)))) : T B R (Ya8 c k) := by
 refine Yaq (Ysy c k) ?_
 (repeat' (with_reducible refine Yai (fun _ => ?_) (fun _ => ?_)))
 ·have e : decide (c < 32) = decide (0 ≤ c ∧ c < 32) := by simp; omega
  rw [e]; exact hk
 ·have e : decide (0 ≤ c ∧ c < 32) = false := by simp; omega
  rw [e] at hk; exact hk
def clsW (c : Int) : Int := if 0 ≤ c ∧ c < 32 then szs.getD c.toNat 0 else 0
theorem Yfb {c : Int} {k : Int → K} (hk : T B R (k (clsW c))) : T B R (Yde c k) := by
 refine Yaq (Ysx c k) ?_
 unfold clsW at hk
 skip
 refine Ybt ?_
 (repeat' (first | with_reducible refine Yai (fun _ => ?_) (fun _ => ?_) | with_reducible refine Yfh ?_))
 ·rename_i h
  rw [if_pos h] at hk
  refine Yu3 ?_
  intro w s
  have hl : c.toNat < szs.length := by show c.toNat < 32; omega
  refine ⟨by omega, szs.getD c.toNat 0, ?_, hk w s⟩
  simp only [List.getElem?_toArray, List.getElem?_map, List.getElem?_eq_getElem hl, Option.map_some, List.getD_eq_getElem?_getD, Option.getD_some]
 ·rename_i h
  rw [if_neg h] at hk
  exact hk
theorem Yu4 {c : Int} (h : 0 ≤ c ∧ c < 32) : 2 ≤ clsW c ∧ clsW c ≤ 256 := by
 unfold clsW; rw [if_pos h]
 have : ∀ n : Nat, n < 32 → 2 ≤ szs.getD n 0 ∧ szs.getD n 0 ≤ 256 := by decide
 exact this c.toNat (by omega)
theorem Vck {c d : Int} (h0 : 0 ≤ c) (h : c < d) (h1 : d < 32) : clsW c < clsW d := by
 unfold clsW; rw [if_pos (by omega), if_pos (by omega)]
 have : ∀ m : Nat, m < 32 → ∀ n : Nat, n < m → szs.getD n 0 < szs.getD m 0 := by decide
 exact this d.toNat (by omega) c.toNat (by omega)
theorem Yw2 {k : Int → K} (hk : T B R (k 256)) : T B R (Yki k) := by
 refine Yaq (Yu0 k) ?_
 skip
 refine Yfb ?_
 have e : clsW 31 = 256 := by decide
 rw [e]
 skip
 exact hk
def cls (c : Int) : Int := if 0 ≤ c ∧ c < 32 then 512 / clsW c else 0
theorem Yn3 {c : Int} {k : Int → K} (hk : T B R (k (cls c))) : T B R (Ygk c k) := by
 refine Yaq (Ysz c k) ?_
 unfold cls at hk
 skip
 refine Ybt ?_
 (repeat' (first | with_reducible refine Yai (fun _ => ?_) (fun _ => ?_) | with_reducible refine Yfh ?_))
 ·rename_i h
  rw [if_pos h] at hk
  refine Yfb ?_
  have hp := Yu4 h
  refine Vh1 (by omega) ?_
  rw [Int.tdiv_eq_ediv_of_nonneg (by omega), w64 (by have := Int.ediv_nonneg (a := 512) (b := clsW c) (by omega) (by omega); omega) (by have := Int.ediv_le_self (a := 512) (clsW c) (by omega); omega)]
  exact hk
 ·rename_i h
  rw [if_neg h] at hk
  exact hk
/-- the least class whose cells have so many words -/
def IsOf (words c : Int) : Prop := 0 ≤ c ∧ c < 32 ∧ words ≤ clsW c ∧ ∀ d, 0 ≤ d → d < c → clsW d < words
theorem Vbb {words : Int} {k : Int × Bool → K} (h0 : words < 1 ∨ 256 < words → T B R (k (0, false))) (h1 : 1 ≤ words → words ≤ 256 → ∀ c, IsOf words c → T B R (k (c, true))) :
  T B R (Ylt words k) := by
 refine Yaq (Yyu words k) ?_
 (repeat' (first | with_reducible refine Yal ?_ | with_reducible refine Yai (fun _ => ?_) (fun _ => ?_)))
 ·exact h0 (.inl (by assumption))
 ·refine Yw2 ?_
  (repeat' (with_reducible refine Yai (fun _ => ?_) (fun _ => ?_)))
  ·exact h0 (.inr (by assumption))
  ·rename_i a b
   have ha : 1 ≤ words := by omega
   have hb : words ≤ 256 := by omega
   refine Ycz (fun _ _ => R) (fun n (s : Int × Int × Unit) => 0 ≤ s.1 ∧ s.1 ≤ s.2.1 ∧ s.2.1 < 32 ∧ words ≤ clsW s.2.1 ∧ (∀ d, 0 ≤ d → d < s.1 → clsW d < words) ∧ n = (s.2.1 - s.1).toNat) 31 rfl ?_ ?_
   ·refine ⟨by simp, by simp, by simp, ?_, fun d h1 h2 => by simp at h2; omega, by simp⟩
    have e : clsW 31 = 256 := by decide
    simp only [e]; exact hb
   ·rintro n ⟨lo, hi, u⟩ c ⟨i1, i2, i3, i4, i5, i6⟩ hc
    simp only at i1 i2 i3 i4 i5 i6
    (repeat' (with_reducible refine Yai (fun _ => ?_) (fun _ => ?_)))
    ·rename_i hlt
     simp only at hlt
     have e : IntKind.wrap .i64 (Int.tdiv (IntKind.wrap .i64 (lo + hi)) 2) = (lo + hi) / 2 := by
      rw [w64 (n := lo + hi) (by omega) (by omega), Int.tdiv_eq_ediv_of_nonneg (by omega), w64 (by omega) (by omega)]
     refine Yfb ?_
     (repeat' (with_reducible refine Yai (fun _ => ?_) (fun _ => ?_)))
     ·rename_i hw
      rw [e] at hw ⊢
      exact hc (((lo + hi) / 2 - lo).toNat) _ (by omega) ⟨i1, by simp only; omega, by simp only; omega, by simp only; omega, i5, rfl⟩
     ·rename_i hw
      rw [e] at hw ⊢
      rw [w64 (n := (lo + hi) / 2 + 1) (by omega) (by omega)]
      refine hc ((hi - ((lo + hi) / 2 + 1)).toNat) _ (by omega) ⟨by simp only; omega, by simp only; omega, i3, i4, fun d h1 h2 => ?_, rfl⟩
      simp only at h2
      by_cases hd : d = (lo + hi) / 2
      ·subst hd; omega
      ·have := Vck h1 (show d < (lo + hi) / 2 by omega) (by omega); omega
    ·rename_i hge
     simp only at hge
     have : lo = hi := by omega
     subst this
     exact h1 ha hb lo ⟨i1, i3, i4, i5⟩
theorem Yw3 {p d : Int} {k : Int × Int → K} (h0 : p < 0 ∨ 63 < p ∨ d < 0 ∨ 16384 < d → T B R (k (0, 5))) (h1 : 0 ≤ p → p ≤ 63 → 0 ≤ d → d ≤ 16384 → T B R (k (1 + p + d, 0))) :
  T B R (Yke p d k) := by
 refine Yaq (Yuy p d k) ?_
 (repeat' (first | with_reducible refine Yal ?_ | with_reducible refine Yai (fun _ => ?_) (fun _ => ?_)))
 all_goals first
  |exact h0 (by omega)
  |(rw [w64 (n := 1 + p) (by omega) (by omega), w64 (by omega) (by omega)]; exact h1 (by omega) (by omega) (by omega) (by omega))
end
theorem wu64n (a : Nat) (h : a < 2 ^ 64) : IntKind.wrap .u64 (a : Int) = a := wu64 (by omega) (by omega)
theorem Yu5 {a b : Nat} (ha : a < 2 ^ 64) (hb : b < 2 ^ 64) : bitI .and .u64 a b = ((a &&& b : Nat) : Int) := by
 show IntKind.wrap .u64 ((BitVec.ofInt 64 a &&& BitVec.ofInt 64 b).toNat : Int) = _
 rw [BitVec.ofInt_natCast, BitVec.ofInt_natCast, BitVec.toNat_and, BitVec.toNat_ofNat, BitVec.toNat_ofNat, Nat.mod_eq_of_lt ha, Nat.mod_eq_of_lt hb]
 exact wu64n _ (Nat.and_lt_two_pow _ hb)
theorem Vcl {a b : Nat} (ha : a < 2 ^ 64) (hb : b < 2 ^ 64) : bitI .or .u64 a b = ((a ||| b : Nat) : Int) := by
 show IntKind.wrap .u64 ((BitVec.ofInt 64 a ||| BitVec.ofInt 64 b).toNat : Int) = _
 rw [BitVec.ofInt_natCast, BitVec.ofInt_natCast, BitVec.toNat_or, BitVec.toNat_ofNat, BitVec.toNat_ofNat, Nat.mod_eq_of_lt ha, Nat.mod_eq_of_lt hb]
 exact wu64n _ (Nat.or_lt_two_pow ha hb)
theorem Vbc {a b i : Nat} (ha : a < 2 ^ i) (hi : i ≤ 64) (hb : b < 2 ^ 64) (hd : 2 ^ i ∣ b) : bitI .andNot .u64 a b = (a : Int) := by
 have ha' : a < 2 ^ 64 := Nat.lt_of_lt_of_le ha (Nat.pow_le_pow_right (by omega) hi)
 show IntKind.wrap .u64 ((BitVec.ofInt 64 a &&& ~~~ BitVec.ofInt 64 b).toNat : Int) = _
 have e : (BitVec.ofInt 64 a &&& ~~~ BitVec.ofInt 64 b) = BitVec.ofNat 64 a := by
  rw [BitVec.ofInt_natCast, BitVec.ofInt_natCast]
  apply BitVec.eq_of_getLsbD_eq
  intro j hj
  simp only [BitVec.getLsbD_and, BitVec.getLsbD_not, BitVec.getLsbD_ofNat, hj, decide_true, Bool.true_and]
  by_cases hij : i ≤ j
  ·rw [Nat.testBit_lt_two_pow (Nat.lt_of_lt_of_le ha (Nat.pow_le_pow_right (by omega) hij))]; rw [Bool.false_and]
  ·obtain ⟨c, rfl⟩ := hd
   rw [Nat.testBit_two_pow_mul]
   simp only [ge_iff_le, hij, decide_false, Bool.false_and, Bool.not_false, Bool.and_true]
 rw [e, BitVec.toNat_ofNat, Nat.mod_eq_of_lt ha']
 exact wu64n _ ha'
theorem Yy3 {a s : Nat} (hs : s ≤ 64) (h : a * 2 ^ s < 2 ^ 64) : shlI .u64 a s = ((a * 2 ^ s : Nat) : Int) := by
 unfold shlI
 have : min ((s : Int)).toNat (IntKind.bits .u64) = s := by show min (Int.toNat (s : Int)) 64 = s; rw [Int.toNat_natCast]; omega
 have e : (a : Int) * 2 ^ s = ((a * 2 ^ s : Nat) : Int) := by rw [Int.natCast_mul, Int.natCast_pow]; rfl
 rw [this, e]
 exact wu64n _ h
theorem Vf8 {a s : Nat} (hs : s ≤ 64) : shrI .u64 a s = ((a / 2 ^ s : Nat) : Int) := by
 unfold shrI
 have : min ((s : Int)).toNat (IntKind.bits .u64) = s := by show min (Int.toNat (s : Int)) 64 = s; rw [Int.toNat_natCast]; omega
 have e : (2 : Int) ^ s = ((2 ^ s : Nat) : Int) := by rw [Int.natCast_pow]; rfl
 rw [this, e, Int.fdiv_eq_ediv_of_nonneg _ (Int.natCast_nonneg _)]
 rfl
section
variable {B : World} {R : SL}
theorem Yri {n : Nat} (h0 : 0 < n) (h1 : n < 64) {k : Int → K} (hk : T B R (k ((2 ^ n - 1 : Nat) : Int))) : T B R (Yix n k) := by
 refine Yaq (Ywz n k) ?_
 (repeat' (with_reducible refine Yai (fun _ => ?_) (fun _ => ?_)))
 ·omega
 ·omega
 ·have ew : IntKind.wrap .u64 (n : Int) = n := wu64 (by omega) (by omega)
  refine Ymc (by rw [ew]; omega) ?_
  rw [ew]
  have h2 : 2 ^ n < 2 ^ 64 := Nat.pow_lt_pow_right (by omega) h1
  have h3 : 1 ≤ 2 ^ n := Nat.one_le_two_pow
  have e : shlI .u64 1 n = ((1 * 2 ^ n : Nat) : Int) := Yy3 (a := 1) (by omega) (by omega)
  rw [e, wu64 (by omega) (by omega), show ((1 * 2 ^ n : Nat) : Int) - 1 = ((2 ^ n - 1 : Nat) : Int) from by omega]
  exact hk
theorem Vbd {x at_ n : Nat} (hx : x < 2 ^ 64) (ha : at_ < 64) (h0 : 0 < n) (h1 : n < 64) {k : Int → K} (hk : T B R (k ((x / 2 ^ at_ % 2 ^ n : Nat) : Int))) : T B R (Yex x at_ n k) := by
 refine Yaq (Yyx x at_ n k) ?_
 (repeat' (first | with_reducible refine Yal ?_ | with_reducible refine Yai (fun _ => ?_) (fun _ => ?_)))
 ·omega
 ·omega
 ·have ew : IntKind.wrap .u64 (at_ : Int) = at_ := wu64 (by omega) (by omega)
  refine Ymc (by rw [ew]; omega) ?_
  refine Yri h0 h1 ?_
  have h2 : 2 ^ n < 2 ^ 64 := Nat.pow_lt_pow_right (by omega) h1
  rw [ew, Vf8 (by omega), Yu5 (Nat.lt_of_le_of_lt (Nat.div_le_self _ _) hx) (by omega), Nat.and_two_pow_sub_one_eq_mod]
  exact hk
theorem Vbe {w at_ n x : Nat} (hw : w < 2 ^ at_) (h0 : 0 < n) (h1 : at_ + n ≤ 63) (hx : x < 2 ^ n) {k : Int → K} (hk : T B R (k ((w + x * 2 ^ at_ : Nat) : Int))) : T B R (Yey w at_ n x k) := by
 refine Yaq (Yyy w at_ n x k) ?_
 (repeat' (first | with_reducible refine Yal ?_ | with_reducible refine Yai (fun _ => ?_) (fun _ => ?_)))
 ·omega
 ·omega
 ·have ew : IntKind.wrap .u64 (at_ : Int) = at_ := wu64 (by omega) (by omega)
  refine Yri h0 (by omega) ?_
  refine Ymc (by rw [ew]; omega) ?_
  refine Ymc (by rw [ew]; omega) ?_
  have h2 : 2 ^ n * 2 ^ at_ ≤ 2 ^ 63 := by rw [← Nat.pow_add]; exact Nat.pow_le_pow_right (by omega) (by omega)
  have h3 : 1 ≤ 2 ^ n := Nat.one_le_two_pow
  have hpos : 0 < 2 ^ at_ := Nat.two_pow_pos _
  have hm : (2 ^ n - 1) * 2 ^ at_ < 2 ^ 64 := by
   have : (2 ^ n - 1) * 2 ^ at_ ≤ 2 ^ n * 2 ^ at_ := Nat.mul_le_mul_right _ (by omega)
   omega
  have hxm : x * 2 ^ at_ < 2 ^ 64 := by
   have : x * 2 ^ at_ ≤ 2 ^ n * 2 ^ at_ := Nat.mul_le_mul_right _ (by omega)
   omega
  rw [ew, Yy3 (by omega) hm, Yy3 (by omega) hxm, Vbc hw (by omega) hm (Nat.dvd_mul_left _ _), Yu5 hxm hm]
  have hw64 : w < 2 ^ 64 := Nat.lt_of_lt_of_le hw (Nat.pow_le_pow_right (by omega) (by omega))
  have e1 : x * 2 ^ at_ &&& (2 ^ n - 1) * 2 ^ at_ = x * 2 ^ at_ := by
   rw [← Nat.shiftLeft_eq, ← Nat.shiftLeft_eq, ← Nat.shiftLeft_and_distrib, Nat.and_two_pow_sub_one_eq_mod, Nat.mod_eq_of_lt hx]
  rw [e1, Vcl hw64 hxm]
  have e2 : w ||| x * 2 ^ at_ = w + x * 2 ^ at_ := by
   rw [Nat.or_comm, Nat.mul_comm, ← Nat.two_pow_add_eq_or_of_lt hw, Nat.add_comm, Nat.mul_comm]
  rw [e2]
  exact hk
theorem Yrj {n s : Int} (hs : 0 < s) (h0 : 0 ≤ n) (h1 : n ≤ 2 ^ 60) {k : Int → K} (hk : T B R (k ((n + s - 1) / s))) : T B R (Ykf n s k) := by
 refine Yaq (Va6 n s k) ?_
 (repeat' (first | with_reducible refine Yal ?_ | with_reducible refine Yai (fun _ => ?_) (fun _ => ?_)))
 ·have e : (n + s - 1) / s = 0 := Int.ediv_eq_zero_of_lt (by omega) (by omega)
  rw [e] at hk; exact hk
 ·omega
 ·refine Vh1 (by omega) ?_
  have hd : 0 ≤ (n - 1) / s := Int.ediv_nonneg (by omega) (by omega)
  have hd2 : (n - 1) / s ≤ n - 1 := Int.ediv_le_self _ (by omega)
  rw [w64 (n := n - 1) (by omega) (by omega), Int.tdiv_eq_ediv_of_nonneg (by omega), w64 (n := (n - 1) / s) (by omega) (by omega), w64 (by omega) (by omega)]
  have e : (n + s - 1) / s = (n - 1) / s + 1 := by
   rw [show n + s - 1 = n - 1 + 1 * s from by omega, Int.add_mul_ediv_right _ _ (by omega)]
  rw [e] at hk; exact hk
end
theorem Vf9 : Kd Tryz.prog 60 5 1 := ⟨by kernel_rfl, by kernel_rfl, by kernel_rfl, by kernel_rfl, by kernel_rfl, by decide +kernel, by decide +kernel⟩
def crcTab : List Int := [0x00000000, 0x1db71064, 0x3b6e20c8, 0x26d930ac, 0x76dc4190, 0x6b6b51f4, 0x4db26158, 0x5005713c, 0xedb88320, 0xf00f9344, 0xd6d6a3e8, 0xcb61b38c, 0x9b64c2b0, 0x86d3d2d4, 0xa00ae278, 0xbdbdf21c]
def tabI (i : Int) : Int := crcTab.getD (bitI .and .u8 i 15).toNat 0
def crcB (sum b : Int) : Int :=
 bitI .xor .u32 (tabI (bitI .xor .u8 (IntKind.wrap .u8 (bitI .xor .u32 (tabI (bitI .xor .u8 (IntKind.wrap .u8 sum) b)) (shrI .u32 sum 4))) (shrI .u8 b 4)))
  (shrI .u32 (bitI .xor .u32 (tabI (bitI .xor .u8 (IntKind.wrap .u8 sum) b)) (shrI .u32 sum 4)) 4)
def crcMore (sum : Int) (l : List Int) : Int := notI .u32 (l.foldl crcB (notI .u32 sum))
def byteI (w : Int) (i : Nat) : Int := IntKind.wrap .u8 (shrI .u64 w ((8 * i : Nat) : Int))
def byteL (w : Int) : List Int := (List.range 8).map (byteI w)
def crcW (l : List Int) : Int := crcMore 0 (l.flatMap byteL)
theorem and15 (i : Int) : 0 ≤ bitI .and .u8 i 15 ∧ bitI .and .u8 i 15 < 16 := by
 have h : (BitVec.ofInt 8 i &&& BitVec.ofInt 8 15).toNat ≤ 15 := by
  rw [BitVec.toNat_and]; exact Nat.and_le_right
 show 0 ≤ IntKind.wrap .u8 ((BitVec.ofInt 8 i &&& BitVec.ofInt 8 15).toNat : Int) ∧ IntKind.wrap .u8 ((BitVec.ofInt 8 i &&& BitVec.ofInt 8 15).toNat : Int) < 16
 have e : IntKind.wrap .u8 ((BitVec.ofInt 8 i &&& BitVec.ofInt 8 15).toNat : Int) = ((BitVec.ofInt 8 i &&& BitVec.ofInt 8 15).toNat : Int) := by
  show ((BitVec.ofInt 8 i &&& BitVec.ofInt 8 15).toNat : Int) % (2 ^ 8 : Int) = _
  omega
 rw [e]; omega
section
variable {B : World} {R : SL}
theorem Yrk {i : Int} {k : Int → K} (hk : T B R (k (tabI i))) : T B R (Yi1 i k) := by
 refine Yaq (Yw1 i k) ?_
 intro w s
 have h := and15 i
 refine ⟨⟨h.1, by omega⟩, tabI i, ?_, hk w s⟩
 have hl : (bitI .and .u8 i 15).toNat < crcTab.length := by show _ < 16; omega
 have e : (#[.int .u32 0, .int .u32 498536548, .int .u32 997073096, .int .u32 651767980, .int .u32 1994146192, .int .u32 1802195444, .int .u32 1303535960, .int .u32 1342533948, .int .u32 3988292384, .int .u32 4027552580, .int .u32 3604390888, .int .u32 3412177804, .int .u32 2607071920, .int .u32 2262029012, .int .u32 2685067896, .int .u32 3183342108] : Array Value) = (crcTab.map fun n => Value.int .u32 n).toArray := by rfl
 rw [e]
 simp only [List.getElem?_toArray, List.getElem?_map, List.getElem?_eq_getElem hl, Option.map_some, tabI, List.getD_eq_getElem?_getD, Option.getD_some]
theorem Vbf {sum : Int} {data : Sl} {l : List Int} (hl : l.length ≤ 2 ^ 40) (hd : Rd R data 1 (l.map fun b => .int .u8 b)) {k : Int → K} (hk : T B R (k (crcMore sum l))) : T B R (Ypb sum data k) := by
 refine Yaq (Yy0 sum data k) ?_
 refine Ya1 hd fun hn => ?_
 simp only [Nat.mul_one, List.length_map] at hn
 skip
 refine Ycz (fun _ _ => R) (fun n (s : Int × Int × Unit) => ∃ i : Nat, i ≤ l.length ∧ s.2.1 = i ∧ s.1 = (l.take i).foldl crcB (notI .u32 sum) ∧ n = l.length - i) l.length rfl ⟨0, by omega, rfl, by simp, by omega⟩ ?_
 rintro n ⟨s1, s2, u⟩ c ⟨i, hi, h1, h2, h3⟩ hc
 simp only at h1 h2
 subst h1 h2 h3
 (repeat' (with_reducible refine Yai (fun _ => ?_) (fun _ => ?_)))
 ·rename_i hlt
  simp only at hlt ⊢
  have hlt' : i < l.length := by omega
  refine Yej hd (by omega) (n := l[i]) (by simp [hlt']) ?_
  refine Yrk ?_
  refine Yrk ?_
  refine hc (l.length - (i + 1)) _ (by omega) ⟨i + 1, by omega, w64 (by omega) (by omega), ?_, rfl⟩
  simp only
  rw [List.take_succ_eq_append_getElem hlt', List.foldl_append]
  rfl
 ·rename_i hge
  simp only at hge ⊢
  have : i = l.length := by omega
  subst this
  simp only [List.take_length]
  exact hk
theorem Yn4 (l : List Int) : (l.flatMap byteL).length = 8 * l.length := by
 induction l with
 |nil => rfl
 |cons a l ih => rw [List.flatMap_cons, List.length_append, ih]; simp [byteL]; omega
theorem Yw4 {x : Sl} {l : List Int} (hl : l.length ≤ 2 ^ 20) (hx : Rd R x 1 (l.map fun b => .int .u64 b)) {k : Sl → K}
  (hk : ∀ s, T B (R * vec 5 1 s ((l.flatMap byteL).map fun b => .int .u8 b)) (k s)) : T B R (Ykl x k) := by
 refine Yaq (Yu2 x k) ?_
 refine Ya1 hx fun hn => ?_
 simp only [Nat.mul_one, List.length_map] at hn
 have h8 : IntKind.wrap .i64 (8 * ((x.n : Nat) : Int)) = ((8 * l.length : Nat) : Int) := by rw [hn, w64 (by omega) (by omega)]; omega
 refine Ysv Vf9 (by omega) (by omega) (by omega) fun b => ?_
 refine Ycz (fun _ s => R * vec 5 1 s.1 (((l.take s.2.1.toNat).flatMap byteL).map fun b => .int .u8 b))
  (fun n (s : Sl × Int × Unit) => ∃ i : Nat, i ≤ l.length ∧ s.2.1 = i ∧ n = l.length - i) l.length rfl ⟨0, by omega, rfl, by omega⟩ ?_
 rintro n ⟨s1, s2, u⟩ c ⟨i, hi, h1, h2⟩ hc
 simp only at h1
 subst h1 h2
 simp only [Int.toNat_natCast]
 (repeat' (with_reducible refine Yai (fun _ => ?_) (fun _ => ?_)))
 ·rename_i hlt
  have hlt' : i < l.length := by omega
  refine Yej hx.init (by omega) (n := l[i]) (by simp [hlt']) ?_
  refine Ycz (fun _ s => R * vec 5 1 s.1 (((l.take i).flatMap byteL ++ (List.range s.2.1.toNat).map (byteI l[i])).map fun b => .int .u8 b))
   (fun n (s : Sl × Int × Unit) => ∃ j : Nat, j ≤ 8 ∧ s.2.1 = j ∧ n = 8 - j) 8 (by simp) ⟨0, by omega, rfl, by omega⟩ ?_
  rintro n ⟨s1, s2, u⟩ c' ⟨j, hj, h1, h2⟩ hc'
  simp only at h1
  subst h1 h2
  simp only [Int.toNat_natCast]
  (repeat' (with_reducible refine Yai (fun _ => ?_) (fun _ => ?_)))
  ·rename_i hj8
   have e1 : IntKind.wrap .i64 (8 * ((j : Nat) : Int)) = ((8 * j : Nat) : Int) := by rw [w64 (by omega) (by omega)]; omega
   have e2 : IntKind.wrap .u64 (IntKind.wrap .i64 (8 * ((j : Nat) : Int))) = ((8 * j : Nat) : Int) := by rw [e1, wu64 (by omega) (by omega)]
   refine Ymc (by omega) ?_
   refine Vhh (new := [.int .u8 (IntKind.wrap .u8 (shrI .u64 l[i] (IntKind.wrap .u64 (IntKind.wrap .i64 (8 * (j : Int))))))]) Vf9 rfl rfl ?_ fun s' => ?_
   ·have := Yn4 (l.take i)
    simp only [List.length_map, List.length_append, List.length_range, List.length_take, Nat.div_one] at this ⊢
    omega
   ·refine T.perm ?_ (hc' (8 - (j + 1)) (s', IntKind.wrap .i64 ((j : Int) + 1), ()) (by omega) ⟨j + 1, by omega, w64 (by omega) (by omega), rfl⟩)
    have e : (IntKind.wrap .i64 ((j : Int) + 1)).toNat = j + 1 := by rw [w64 (by omega) (by omega)]; omega
    simp only [e, List.range_succ, List.map_append, List.map_cons, List.map_nil, List.append_assoc]
    unfold byteI
    rw [e2]
  ·rename_i hj8
   have : j = 8 := by omega
   subst this
   refine T.perm ?_ (hc (l.length - (i + 1)) (s1, IntKind.wrap .i64 (i + 1), ()) (by omega) ⟨i + 1, by omega, w64 (by omega) (by omega), rfl⟩)
   have e : (IntKind.wrap .i64 ((i : Int) + 1)).toNat = i + 1 := by rw [w64 (by omega) (by omega)]; omega
   simp only [e]
   rw [List.take_succ_eq_append_getElem hlt', List.flatMap_append]
   simp [byteL]
 ·rename_i hge
  have : i = l.length := by omega
  subst this
  simp only [List.take_length]
  exact hk s1
theorem Yy4 {x : Sl} {l : List Int} (hl : l.length ≤ 2 ^ 20) (hx : Rd R x 1 (l.map fun b => .int .u64 b)) {k : Int → K}
  (hk : T B R (k (crcW l))) : T B R (Ymw x k) := by
 refine Yaq (Yw0 x k) ?_
 refine Yw4 hl hx fun s => ?_
 refine Yaq (Va9 s _) ?_
 refine Vbf (l := l.flatMap byteL) ?_ (Rd.vec Frm.last) ?_
 ·rw [Yn4]; omega
 ·exact hk.weak
end
theorem wu32' (n : Int) : IntKind.wrap .u32 n = n % 4294967296 := by
 unfold IntKind.wrap
 simp only [IntKind.bits, IntKind.signed, Bool.false_and, Bool.false_eq_true, if_false]
 rfl
theorem Vec (x : Int) : 0 ≤ notI .u32 x ∧ notI .u32 x < 4294967296 := by
 unfold notI bitI
 simp only [wu32']
 omega
theorem Yu6 (l : List Int) : 0 ≤ crcW l ∧ crcW l < 4294967296 := Vec _
def sealI (n place : Int) : Int := n + 4294967296 * crcW [n, IntKind.wrap .u64 place]
theorem Yrl {n p : Int} (h0 : 0 ≤ n) (h1 : n < 4294967296) : 0 ≤ sealI n p ∧ sealI n p < 18446744073709551616 ∧ sealI n p % 4294967296 = n := by
 have := Yu6 [n, IntKind.wrap .u64 p]
 unfold sealI; omega
section
variable {B : World} {R : SL}
theorem Ypd {n p : Int} (h0 : 0 ≤ n) (h1 : n < 4294967296) {k : Int → K} (hk : T B R (k (sealI n p))) : T B R (Yh0 n p k) := by
 refine Yaq (Yyz n p k) ?_
 (repeat ((with_reducible refine Ya7 ?_; intro _)))
 rename_i b
 rw [wu64 h0 (by omega)]
 refine Yy4 (l := [n, IntKind.wrap .u64 p]) (by simp) (Rd.one Has.last rfl (Nat.le_refl _)) ?_
 have hc := Yu6 [n, IntKind.wrap .u64 p]
 obtain ⟨c, hc'⟩ : ∃ c : Nat, crcW [n, IntKind.wrap .u64 p] = c := ⟨_, (Int.toNat_of_nonneg hc.1).symm⟩
 obtain ⟨m, rfl⟩ : ∃ m : Nat, n = m := ⟨_, (Int.toNat_of_nonneg h0).symm⟩
 unfold sealI at hk
 rw [hc'] at hc hk ⊢
 rw [wu64 (n := (c : Int)) (by omega) (by omega)]
 have hlt : c * 2 ^ 32 < 2 ^ 64 := by show c * 4294967296 < 18446744073709551616; omega
 have hm : m < 2 ^ 32 := by show m < 4294967296; omega
 have e1 : shlI .u64 (c : Int) 32 = ((c * 2 ^ 32 : Nat) : Int) := Yy3 (s := 32) (by decide) hlt
 have e2 : c * 2 ^ 32 ||| m = c * 2 ^ 32 + m := by
  rw [Nat.mul_comm, ← Nat.two_pow_add_eq_or_of_lt hm]
 rw [e1, Vcl hlt (by omega), e2]
 have e3 : ((c * 2 ^ 32 + m : Nat) : Int) = (m : Int) + 4294967296 * c := by
  show ((c * 4294967296 + m : Nat) : Int) = _
  omega
 rw [e3]
 exact hk.weak
def openI (w p : Int) : Int × Bool := if sealI (w % 4294967296) p = w then (w % 4294967296, true) else (0, false)
theorem Yt3 {w p : Int} {k : Int × Bool → K} (hk : T B R (k (openI w p))) : T B R (Ylu w p k) := by
 refine Yaq (Yyw w p k) ?_
 unfold openI at hk
 refine Ypd (by rw [wu32']; omega) (by rw [wu32']; omega) ?_
 rw [wu32']
 (repeat' (with_reducible refine Yar (fun _ => ?_) (fun _ => ?_)))
 ·rename_i h; rw [if_neg h] at hk; exact hk
 ·rename_i h; rw [if_pos h] at hk; exact hk
/-! headers of blocks: kind, class, length -/
abbrev Hd := Int × Int × Int
def hRight (h : Hd) : Prop := (h = (0, 0, 0)) ∨ (h.1 = 1 ∧ 0 ≤ h.2.1 ∧ h.2.1 < 32 ∧ h.2.2 = 0) ∨ ((h.1 = 2 ∨ h.1 = 3) ∧ h.2.1 = 0 ∧ 1 ≤ h.2.2 ∧ h.2.2 < 256)
instance (h : Hd) : Decidable (hRight h) := by unfold hRight; infer_instance
theorem Yi3 {h : Hd} {k : Bool → K} (hk : T B R (k (decide (hRight h)))) : T B R (Ybz h k) := by
 refine Yaq (Ykr h k) ?_
 obtain ⟨a, b, c⟩ := h
 (repeat' (first | ((with_reducible apply Yaf); (focus rfl); (focus exact hasA); (focus rfl)) | (with_reducible refine Ya7 ?_; intro _) | with_reducible refine Yai (fun _ => ?_) (fun _ => ?_) | with_reducible refine Ybr (fun _ => ?_) (fun _ => ?_)))
 case ht.refine_2.refine_1.ht =>
  refine Ybt ?_
  (repeat' (first | ((with_reducible apply Yaf); (focus rfl); (focus exact hasA); (focus rfl)) | with_reducible refine Yai (fun _ => ?_) (fun _ => ?_)))
  all_goals
   (refine Yek hk (by intro t h; repeat (first | exact h | refine T.weak ?_)) ?_)
   rw [Bool.eq_iff_iff]
   simp only [hRight, decide_eq_true_eq, beq_iff_eq, Prod.mk.injEq, Bool.false_eq_true] at *
   first | omega | (constructor <;> (intro h'; first | omega | (rcases h' with h' | h' | h' <;> omega))) 
 all_goals
  (refine Yek hk (by intro t h; repeat (first | exact h | refine T.weak ?_)) ?_)
  rw [Bool.eq_iff_iff]
  simp only [hRight, decide_eq_true_eq, Bool.and_eq_true, beq_iff_eq, Prod.mk.injEq, Bool.false_eq_true, and_true] at *
  first | omega | (constructor <;> (intro h'; first | omega | (rcases h' with h' | h' | h' <;> omega))) 
def hNum (h : Hd) : Int := h.1 + h.2.1 * 4 + h.2.2 * 256
def benc (b : Int) (h : Hd) : Int := if hRight h then sealI (hNum h) (256 + b) else 0
theorem Yt4 {h : Hd} (r : hRight h) : 0 ≤ h.1 ∧ h.1 < 4 ∧ 0 ≤ h.2.1 ∧ h.2.1 < 64 ∧ 0 ≤ h.2.2 ∧ h.2.2 < 65536 := by
 obtain ⟨a, b, c⟩ := h
 simp only [hRight, Prod.mk.injEq] at *
 omega
theorem Yh2 {w at_ n x r : Int} (h : 0 ≤ w ∧ 0 ≤ x ∧ 0 ≤ at_ ∧ 0 ≤ n) (hw : w < 2 ^ at_.toNat) (h0 : 0 < n) (h1 : at_ + n ≤ 63) (hx : x < 2 ^ n.toNat) (hr : r = w + x * 2 ^ at_.toNat) {k : Int → K} (hk : T B R (k r)) : T B R (Yey w at_ n x k) := by
 obtain ⟨hw0, hx0, ha0, hn0⟩ := h
 obtain ⟨w, rfl⟩ := Int.eq_ofNat_of_zero_le hw0
 obtain ⟨x, rfl⟩ := Int.eq_ofNat_of_zero_le hx0
 obtain ⟨a, rfl⟩ := Int.eq_ofNat_of_zero_le ha0
 obtain ⟨n, rfl⟩ := Int.eq_ofNat_of_zero_le hn0
 simp only [Int.toNat_natCast] at *
 refine Vbe (by exact_mod_cast hw) (by omega) (by omega) (by exact_mod_cast hx) ?_
 rw [hr] at hk
 have e : ((w + x * 2 ^ a : Nat) : Int) = (w : Int) + x * 2 ^ a := by rw [Int.natCast_add, Int.natCast_mul, Int.natCast_pow]; rfl
 rw [e]; exact hk
theorem Yh3 {x at_ n r : Int} (h : 0 ≤ x ∧ 0 ≤ at_ ∧ 0 < n) (hx : x < 18446744073709551616) (ha : at_ < 64) (h1 : n < 64) (hr : r = x / 2 ^ at_.toNat % 2 ^ n.toNat) {k : Int → K} (hk : T B R (k r)) : T B R (Yex x at_ n k) := by
 obtain ⟨hx0, ha0, hn0⟩ := h
 obtain ⟨x, rfl⟩ := Int.eq_ofNat_of_zero_le hx0
 obtain ⟨a, rfl⟩ := Int.eq_ofNat_of_zero_le ha0
 obtain ⟨n, rfl⟩ := Int.eq_ofNat_of_zero_le (Int.le_of_lt hn0)
 simp only [Int.toNat_natCast] at *
 refine Vbd (by omega) (by omega) (by omega) (by omega) ?_
 rw [hr] at hk
 have e : ((x / 2 ^ a % 2 ^ n : Nat) : Int) = (x : Int) / 2 ^ a % 2 ^ n := by rw [Int.natCast_emod, Int.natCast_ediv, Int.natCast_pow, Int.natCast_pow]; rfl
 rw [e]; exact hk
theorem Yhq {b : Int} {h : Hd} (hb : 0 ≤ b) (hb2 : b ≤ 2 ^ 40) {k : Int → K} (hk : T B R (k (benc b h))) : T B R (Yel b h k) := by
 refine Yaq (Yrg b h k) ?_
 (repeat (first | ((with_reducible apply Yaf); (focus rfl); (focus exact hasA); (focus rfl)) | (with_reducible refine Ya7 ?_; intro _)))
 refine Yi3 ?_
 unfold benc at hk
 (repeat' (first | ((with_reducible apply Yaf); (focus rfl); (focus exact hasA); (focus rfl)) | with_reducible refine Yai (fun _ => ?_) (fun _ => ?_) | with_reducible refine Yfh ?_))
 ·rename_i hr
  rw [if_pos hr] at hk
  have hg := Yt4 hr
  (dsimp only [Yp4, Zay0, Zay1, Zay2, Zay3, Zay4, Zay5, Zay6, Zay7])
  simp only at hg
  rw [wu64 (by omega) (by omega)]
  refine Yh2 (r := h.1) (by omega) (by decide) (by omega) (by omega) (by show h.1 < 4; omega) (by show h.1 = 0 + h.1 * 1; omega) ?_
  (repeat (((with_reducible apply Yaf); (focus rfl); (focus exact hasA); (focus rfl))))
  rw [wu64 (by omega) (by omega)]
  refine Yh2 (r := h.1 + h.2.1 * 4) (by omega) (by show h.1 < 4; omega) (by omega) (by omega) (by show h.2.1 < 64; omega) rfl ?_
  (repeat (((with_reducible apply Yaf); (focus rfl); (focus exact hasA); (focus rfl))))
  rw [wu64 (by omega) (by omega)]
  refine Yh2 (r := hNum h) (by omega) (by show h.1 + h.2.1 * 4 < 256; omega) (by omega) (by omega) (by show h.2.2 < 65536; omega) rfl ?_
  have hn : 0 ≤ hNum h ∧ hNum h < 4294967296 := by unfold hNum; omega
  rw [wu32', Int.emod_eq_of_lt hn.1 hn.2, w64 (by omega) (by omega)]
  refine Ypd hn.1 hn.2 ?_
  exact hk.weak
 ·rename_i hr
  rw [if_neg hr] at hk
  exact hk.weak
def bnum (x : Int) : Hd := (x % 4, x / 4 % 64, x / 256 % 65536)
def bdec (b w : Int) : Hd × Int := if sealI (w % 4294967296) (256 + b) = w then (if benc b (bnum (w % 4294967296)) = w then (bnum (w % 4294967296), 0) else ((0, 0, 0), 26)) else ((0, 0, 0), 25)
theorem Ys3 {b w : Int} (hb : 0 ≤ b) (hb2 : b ≤ 2 ^ 40) {k : Hd × Int → K} (hk : T B R (k (bdec b w))) : T B R (Yhm b w k) := by
 refine Yaq (Yrf b w k) ?_
 (repeat ((with_reducible refine Ya7 ?_; intro _)))
 (dsimp only [Yp3, Zas0, Zas1, Zas2, Zas3, Zas4, Zas5, Zas6, Zas7, Zas8, Zas9, Zas10, Zas11])
 rw [w64 (by omega) (by omega)]
 refine Yt3 ?_
 unfold bdec at hk
 unfold openI
 split
 ·rename_i ho
  rw [if_pos ho] at hk
  skip
  have hm : 0 ≤ w % 4294967296 ∧ w % 4294967296 < 4294967296 := by omega
  generalize w % 4294967296 = x at *
  rw [wu64 (by omega) (by omega)]
  refine Yh3 (r := x % 4) (by omega) (by omega) (by omega) (by omega) (by show x % 4 = x / 1 % 4; rw [Int.ediv_one]) ?_
  refine Yh3 (r := x / 4 % 64) (by omega) (by omega) (by omega) (by omega) rfl ?_
  refine Yh3 (r := x / 256 % 65536) (by omega) (by omega) (by omega) (by omega) rfl ?_
  rw [w64 (by omega) (by omega), w64 (by omega) (by omega), w64 (by omega) (by omega)]
  (repeat (first | ((with_reducible apply Yaf); (focus rfl); (focus exact hasA); (focus rfl)) | (with_reducible refine Ya7 ?_; intro _) | ((with_reducible apply Ybc); (focus rfl); (focus exact updA); (focus simp); simp only [List.set, Nat.zero_add, Nat.reduceAdd])))
  refine Yhq hb hb2 ?_
  (repeat' (first | ((with_reducible apply Yaf); (focus rfl); (focus exact hasA); (focus rfl)) | ((with_reducible apply Ybc); (focus rfl); (focus exact updA); (focus simp); simp only [List.set, Nat.zero_add, Nat.reduceAdd]) | with_reducible refine Yar (fun _ => ?_) (fun _ => ?_)))
  ·rename_i hne
   (refine Yek hk (by intro t h; repeat (first | exact h | refine T.weak ?_)) ?_)
   exact if_neg hne
  ·rename_i he
   (refine Yek hk (by intro t h; repeat (first | exact h | refine T.weak ?_)) ?_)
   exact if_pos he
 ·rename_i ho
  rw [if_neg ho] at hk
  (repeat' (first | with_reducible refine Yau ?_ | ((with_reducible apply Yaf); (focus rfl); (focus exact hasA); (focus rfl)) | ((with_reducible apply Ybc); (focus rfl); (focus exact updA); (focus simp); simp only [List.set, Nat.zero_add, Nat.reduceAdd]) | with_reducible refine Yfh ?_))
  (refine Yek hk (by intro t h; repeat (first | exact h | refine T.weak ?_)) ?_)
  rfl
end
theorem Vcm {b : Int} {h : Hd} (r : hRight h) : bdec b (benc b h) = (h, 0) := by
 have hg := Yt4 r
 obtain ⟨a, c, d⟩ := h
 simp only at hg
 have hn : 0 ≤ hNum (a, c, d) ∧ hNum (a, c, d) < 4294967296 := by unfold hNum; simp only; omega
 have e : bnum (hNum (a, c, d)) = (a, c, d) := by
  unfold bnum hNum; simp only [Prod.mk.injEq]; omega
 have hb : benc b (a, c, d) = sealI (hNum (a, c, d)) (256 + b) := by unfold benc; rw [if_pos r]
 unfold bdec
 rw [hb, (Yrl hn.1 hn.2).2.2, if_pos rfl, e, hb, if_pos rfl]
/-- the least class for so many words -/
def ofC (w : Int) : Int := (((List.range 32).find? fun (c : Nat) => decide (w ≤ clsW (c : Int))).getD 0 : Nat)
def kOf (w : Int) : Int × Bool := if 1 ≤ w ∧ w ≤ 256 then (ofC w, true) else (0, false)
theorem Vhi {w c : Int} (h : IsOf w c) : ofC w = c := by
 obtain ⟨h0, h1, h2, h3⟩ := h
 obtain ⟨n, rfl⟩ := Int.eq_ofNat_of_zero_le h0
 have : (List.range 32).find? (fun (c : Nat) => decide (w ≤ clsW (c : Int))) = some n := by
  rw [List.find?_range_eq_some]
  refine ⟨by simpa using h2, by simp; omega, fun j hj => ?_⟩
  have := h3 j (by omega) (by omega)
  simp; omega
 unfold ofC; rw [this]; rfl
section
variable {B : World} {R : SL}
theorem Vbg {w : Int} {k : Int × Bool → K} (hk : T B R (k (kOf w))) : T B R (Ylt w k) := by
 unfold kOf at hk
 refine Vbb (fun h => ?_) (fun h1 h2 c hc => ?_)
 ·rw [if_neg (by omega)] at hk; exact hk
 ·rw [if_pos (by omega), Vhi hc] at hk; exact hk
abbrev Ob := Int × Int
def oRight (o : Ob) : Prop := 0 ≤ o.1 ∧ o.1 ≤ 63 ∧ 0 ≤ o.2 ∧ o.2 ≤ 16384
instance (o : Ob) : Decidable (oRight o) := by unfold oRight; infer_instance
def oSize (o : Ob) : Int := if oRight o then 1 + o.1 + o.2 else 0
theorem Yem (o : Ob) : 0 ≤ oSize o ∧ oSize o ≤ 16448 := by
 unfold oSize; split
 ·rename_i h; unfold oRight at h; omega
 ·omega
theorem Ydw {o : Ob} {k : Int → K} (hk : T B R (k (oSize o))) : T B R (Yav o k) := by
 refine Yaq (Yl3 o k) ?_
 (repeat (first | ((with_reducible apply Yaf); (focus rfl); (focus exact hasA); (focus rfl)) | (with_reducible refine Ya7 ?_; intro _)))
 refine Yw3 (fun h => ?_) (fun h1 h2 h3 h4 => ?_)
 ·(repeat' (with_reducible refine Yar (fun _ => ?_) (fun _ => ?_)))
  ·(refine Yek hk (by intro t h; repeat (first | exact h | refine T.weak ?_)) ?_)
   exact if_neg (by unfold oRight; omega)
  ·simp only at *; omega
 ·(repeat' (with_reducible refine Yar (fun _ => ?_) (fun _ => ?_)))
  ·simp only at *; omega
  ·(refine Yek hk (by intro t h; repeat (first | exact h | refine T.weak ?_)) ?_)
   exact if_pos (by unfold oRight; omega)
theorem Yfc {o : Ob} {k : Int × Bool → K} (hk : T B R (k (kOf (oSize o)))) : T B R (Ybj o k) := by
 refine Yaq (Ykn o k) ?_
 (repeat (first | ((with_reducible apply Yaf); (focus rfl); (focus exact hasA); (focus rfl)) | (with_reducible refine Ya7 ?_; intro _)))
 refine Ydw ?_
 refine Vbg ?_
 skip
 (refine Yek hk (by intro t h; repeat (first | exact h | refine T.weak ?_)) ?_)
 rfl
def oBlocks (o : Ob) : Int := if 1 ≤ oSize o ∧ oSize o ≤ 256 then 0 else (oSize o + 511) / 512
theorem Yme {o : Ob} {k : Int → K} (hk : T B R (k (oBlocks o))) : T B R (Ycn o k) := by
 refine Yaq (Yju o k) ?_
 have hr := Yem o
 (repeat (first | ((with_reducible apply Yaf); (focus rfl); (focus exact hasA); (focus rfl)) | (with_reducible refine Ya7 ?_; intro _)))
 refine Yfc ?_
 unfold kOf
 split
 ·rename_i h
  (repeat' (with_reducible refine Yal ?_))
  (refine Yek hk (by intro t h; repeat (first | exact h | refine T.weak ?_)) ?_)
  unfold oBlocks; rw [if_pos h]
 ·rename_i h
  (repeat' (first | with_reducible refine Yau ?_ | ((with_reducible apply Yaf); (focus rfl); (focus exact hasA); (focus rfl))))
  refine Ydw ?_
  refine Yrj (by omega) (by show 0 ≤ oSize o; omega) (by show oSize o ≤ _; omega) ?_
  (refine Yek hk (by intro t h; repeat (first | exact h | refine T.weak ?_)) ?_)
  unfold oBlocks; rw [if_neg h]
  show _ = (oSize o + 512 - 1) / 512
  congr 1; omega
def oNum (o : Ob) : Int := 165 + o.1 * 256 + o.2 * 16384
def oenc (a : Int) (o : Ob) : Int := if oSize o = 0 then 0 else sealI (oNum o) a
theorem Ymf {a : Int} {o : Ob} {k : Int → K} (hk : T B R (k (oenc a o))) : T B R (Ycs o a k) := by
 refine Yaq (Yjx o a k) ?_
 (repeat (first | ((with_reducible apply Yaf); (focus rfl); (focus exact hasA); (focus rfl)) | (with_reducible refine Ya7 ?_; intro _)))
 refine Ydw ?_
 (repeat' (first | ((with_reducible apply Yaf); (focus rfl); (focus exact hasA); (focus rfl)) | with_reducible refine Ybr (fun _ => ?_) (fun _ => ?_)))
 ·rename_i h
  (refine Yek hk (by intro t h; repeat (first | exact h | refine T.weak ?_)) ?_)
  unfold oenc; exact if_pos h
 ·rename_i h
  have h' : oSize o ≠ 0 := h
  have hr : oRight o := by
   by_cases hr : oRight o
   ·exact hr
   ·unfold oSize at h'; rw [if_neg hr] at h'; exact absurd rfl h'
  unfold oRight at hr
  (dsimp only [Yg2, Zaq0, Zaq1, Zaq2, Zaq3, Zaq4, Zaq5, Zaq6])
  rw [wu64 (by omega) (by omega)]
  refine Yh2 (r := 165 + o.1 * 256) (by omega) (by decide) (by omega) (by omega) (by show o.1 < 64; omega) rfl ?_
  (repeat (((with_reducible apply Yaf); (focus rfl); (focus exact hasA); (focus rfl))))
  rw [wu64 (by omega) (by omega)]
  refine Yh2 (r := oNum o) (by omega) (by show 165 + o.1 * 256 < 16384; omega) (by omega) (by omega) (by show o.2 < 32768; omega) rfl ?_
  have hn : 0 ≤ oNum o ∧ oNum o < 4294967296 := by unfold oNum; omega
  rw [wu32', Int.emod_eq_of_lt hn.1 hn.2]
  refine Ypd hn.1 hn.2 ?_
  (refine Yek hk (by intro t h; repeat (first | exact h | refine T.weak ?_)) ?_)
  unfold oenc; exact if_neg h'
def onum (x : Int) : Ob := (x / 256 % 64, x / 16384 % 32768)
def odec (a w : Int) : Ob × Int := if sealI (w % 4294967296) a = w then (if oenc a (onum (w % 4294967296)) = w then (onum (w % 4294967296), 0) else ((0, 0), 26)) else ((0, 0), 25)
theorem Ys4 {a w : Int} {k : Ob × Int → K} (hk : T B R (k (odec a w))) : T B R (Yhl a w k) := by
 refine Yaq (Yrd a w k) ?_
 (repeat ((with_reducible refine Ya7 ?_; intro _)))
 (dsimp only [Yp2, Zai0, Zai1, Zai2, Zai3, Zai4, Zai5, Zai6, Zai7, Zai8, Zai9, Zai10, Zai11])
 refine Yt3 ?_
 unfold odec at hk
 unfold openI
 split
 ·rename_i ho
  rw [if_pos ho] at hk
  skip
  have hm : 0 ≤ w % 4294967296 ∧ w % 4294967296 < 4294967296 := by omega
  generalize w % 4294967296 = x at *
  rw [wu64 (by omega) (by omega)]
  refine Yh3 (r := x / 256 % 64) (by omega) (by omega) (by omega) (by omega) rfl ?_
  refine Yh3 (r := x / 16384 % 32768) (by omega) (by omega) (by omega) (by omega) rfl ?_
  rw [w64 (by omega) (by omega), w64 (by omega) (by omega)]
  (repeat (first | ((with_reducible apply Yaf); (focus rfl); (focus exact hasA); (focus rfl)) | (with_reducible refine Ya7 ?_; intro _) | ((with_reducible apply Ybc); (focus rfl); (focus exact updA); (focus simp); simp only [List.set, Nat.zero_add, Nat.reduceAdd])))
  refine Ymf ?_
  (repeat' (first | ((with_reducible apply Yaf); (focus rfl); (focus exact hasA); (focus rfl)) | ((with_reducible apply Ybc); (focus rfl); (focus exact updA); (focus simp); simp only [List.set, Nat.zero_add, Nat.reduceAdd]) | with_reducible refine Yar (fun _ => ?_) (fun _ => ?_)))
  ·rename_i hne
   (refine Yek hk (by intro t h; repeat (first | exact h | refine T.weak ?_)) ?_)
   exact if_neg hne
  ·rename_i he
   (refine Yek hk (by intro t h; repeat (first | exact h | refine T.weak ?_)) ?_)
   exact if_pos he
 ·rename_i ho
  rw [if_neg ho] at hk
  (repeat' (first | with_reducible refine Yau ?_ | ((with_reducible apply Yaf); (focus rfl); (focus exact hasA); (focus rfl)) | ((with_reducible apply Ybc); (focus rfl); (focus exact updA); (focus simp); simp only [List.set, Nat.zero_add, Nat.reduceAdd]) | with_reducible refine Yfh ?_))
  (refine Yek hk (by intro t h; repeat (first | exact h | refine T.weak ?_)) ?_)
  rfl
theorem Vcn {a : Int} {o : Ob} (r : oRight o) : odec a (oenc a o) = (o, 0) := by
 have r' := r
 unfold oRight at r'
 obtain ⟨p, d⟩ := o
 simp only at r'
 have hs : oSize (p, d) ≠ 0 := by unfold oSize; rw [if_pos r]; simp only; omega
 have hn : 0 ≤ oNum (p, d) ∧ oNum (p, d) < 4294967296 := by unfold oNum; simp only; omega
 have e : onum (oNum (p, d)) = (p, d) := by unfold onum oNum; simp only [Prod.mk.injEq]; omega
 have hb : oenc a (p, d) = sealI (oNum (p, d)) a := by unfold oenc; exact if_neg hs
 unfold odec
 rw [hb, (Yrl hn.1 hn.2).2.2, if_pos rfl, e, hb, if_pos rfl]
def cellAt (g k : Int) (c : Int × Int) : Int := if ¬ (0 ≤ k ∧ k < 32) ∨ c.1 < 1 ∨ c.1 ≥ g ∨ c.2 < 0 ∨ c.2 ≥ cls k then -1 else c.1 * 512 + c.2 * clsW k
theorem Vga {k : Int} (h : 0 ≤ k ∧ k < 32) : 2 ≤ cls k ∧ cls k ≤ 256 ∧ cls k * clsW k ≤ 512 := by
 unfold cls clsW; rw [if_pos h, if_pos h]
 have : ∀ n : Nat, n < 32 → 2 ≤ 512 / szs.getD n 0 ∧ 512 / szs.getD n 0 ≤ 256 ∧ 512 / szs.getD n 0 * szs.getD n 0 ≤ 512 := by decide
 exact this k.toNat (by omega)
theorem Yks {g c : Int} {x : Int × Int} (h1 : g ≤ 2 ^ 40) {k : Int → K} (hk : T B R (k (cellAt g c x))) : T B R (Ye6 g c x k) := by
 refine Yaq (Yqi g c x k) ?_
 unfold cellAt at hk
 (repeat (first | with_reducible refine Yak ?_ | (with_reducible refine Ya7 ?_; intro _)))
 refine Ybt ?_
 (repeat' (first | with_reducible refine Yal ?_ | ((with_reducible apply Yaf); (focus rfl); (focus exact hasA); (focus rfl)) | with_reducible refine Yai (fun _ => ?_) (fun _ => ?_) | with_reducible refine Yfh ?_))
 all_goals try ((refine Yek hk (by intro t h; repeat (first | exact h | refine T.weak ?_)) ?_); exact if_pos (by omega))
 refine Yn3 ?_
 (repeat' (first | with_reducible refine Yak ?_ | with_reducible refine Ybe ?_ | ((with_reducible apply Yaf); (focus rfl); (focus exact hasA); (focus rfl)) | ((with_reducible apply Ycm); (focus rfl); (focus exact hasA); (focus rfl)) | with_reducible refine Yai (fun _ => ?_) (fun _ => ?_)))
 ·(refine Yek hk (by intro t h; repeat (first | exact h | refine T.weak ?_)) ?_); exact if_pos (by omega)
 ·have hr := Vga (k := c) (by omega)
  have hp := Yu4 (c := c) (by omega)
  refine Yhd h1 ?_
  (repeat (first | with_reducible refine Ybe ?_ | ((with_reducible apply Ycm); (focus rfl); (focus exact hasA); (focus rfl))))
  refine Yfb ?_
  (repeat (first | with_reducible refine Ybe ?_ | ((with_reducible apply Ycm); (focus rfl); (focus exact hasA); (focus rfl))))
  have hm : x.2 * clsW c ≤ cls c * clsW c := Int.mul_le_mul_of_nonneg_right (by omega) (by omega)
  have hm0 : 0 ≤ x.2 * clsW c := Int.mul_nonneg (by omega) (by omega)
  have hf : first g x.1 = x.1 * 512 := by unfold first; rw [if_neg (by omega)]
  rw [hf, w64 (n := x.2 * clsW c) (by omega) (by omega), w64 (by omega) (by omega)]
  (refine Yek hk (by intro t h; repeat (first | exact h | refine T.weak ?_)) ?_)
  exact if_neg (by omega)
def cellOf (g k a : Int) : (Int × Int) × Bool :=
 if ¬ (0 ≤ k ∧ k < 32) ∨ ¬ 1 ≤ blockOf g a then ((0, 0), false) else ((blockOf g a, a % 512 / clsW k), decide (cellAt g k (blockOf g a, a % 512 / clsW k) = a))
theorem Vbh {g c a : Int} (h0 : 0 ≤ g) (h1 : g ≤ 2 ^ 40) {k : (Int × Int) × Bool → K} (hk : T B R (k (cellOf g c a))) : T B R (Yo6 g c a k) := by
 refine Yaq (Yyt g c a k) ?_
 unfold cellOf at hk
 (repeat ((with_reducible refine Ya7 ?_; intro _)))
 (dsimp only [Yz7, Zaj0, Zaj1, Zaj2, Zaj3, Zaj4, Zaj5, Zaj6])
 refine Ybt ?_
 (repeat' (first | with_reducible refine Yal ?_ | ((with_reducible apply Yaf); (focus rfl); (focus exact hasA); (focus rfl)) | ((with_reducible apply Ybc); (focus rfl); (focus exact updA); (focus simp); simp only [List.set, Nat.zero_add, Nat.reduceAdd]) | with_reducible refine Yai (fun _ => ?_) (fun _ => ?_) | with_reducible refine Yfh ?_))
 all_goals try ((refine Yek hk (by intro t h; repeat (first | exact h | refine T.weak ?_)) ?_); exact if_pos (by omega))
 refine Yy2 h0 h1 ?_
 (repeat' (first | ((with_reducible apply Yaf); (focus rfl); (focus exact hasA); (focus rfl)) | ((with_reducible apply Ybc); (focus rfl); (focus exact updA); (focus simp); simp only [List.set, Nat.zero_add, Nat.reduceAdd]) | with_reducible refine Yai (fun _ => ?_) (fun _ => ?_) | with_reducible refine Yfh ?_))
 ·rename_i hd
  refine Yfp h0 h1 ?_
  refine Yfb ?_
  have hp := Yu4 (c := c) (by assumption)
  refine Vh1 (by omega) ?_
  (repeat (first | with_reducible refine Yak ?_ | ((with_reducible apply Yaf); (focus rfl); (focus exact hasA); (focus rfl)) | (with_reducible refine Ya7 ?_; intro _) | ((with_reducible apply Ybc); (focus rfl); (focus exact updA); (focus simp); simp only [List.set, Nat.zero_add, Nat.reduceAdd])))
  have ha : 0 ≤ a := by unfold blockOf at hd; split at hd <;> omega
  have e1 : Int.tmod a 512 = a % 512 := Int.tmod_eq_emod_of_nonneg ha
  have e2 : Int.tdiv (a % 512) (clsW c) = a % 512 / clsW c := Int.tdiv_eq_ediv_of_nonneg (by omega)
  have e3 : 0 ≤ a % 512 / clsW c ∧ a % 512 / clsW c ≤ a % 512 := ⟨Int.ediv_nonneg (by omega) (by omega), Int.ediv_le_self _ (by omega)⟩
  have e4 : IntKind.wrap .i64 (Int.tdiv (Int.tmod a 512) (clsW c)) = a % 512 / clsW c := by rw [e1, e2, w64 (by omega) (by omega)]
  rw [e4]
  refine Yks h1 ?_
  (repeat (first | with_reducible refine Ybe ?_ | ((with_reducible apply Yaf); (focus rfl); (focus exact hasA); (focus rfl)) | ((with_reducible apply Ybc); (focus rfl); (focus exact updA); (focus simp); simp only [List.set, Nat.zero_add, Nat.reduceAdd]) | ((with_reducible apply Ycm); (focus rfl); (focus exact hasA); (focus rfl))))
  (refine Yek hk (by intro t h; repeat (first | exact h | refine T.weak ?_)) ?_)
  rw [if_neg (by omega)]
  rfl
 ·(refine Yek hk (by intro t h; repeat (first | exact h | refine T.weak ?_)) ?_); exact if_pos (by omega)
end
section
set_option maxRecDepth 100000
abbrev Zbn0 (k : (Sl → K)) (x2 : Sl) : K :=
 k x2
abbrev Zbn1 (s : Sl) (k : (Sl → K)) : K :=
 alK (.cells #[] 3) fun b =>
 semT Tryz.prog (Builtin.append_ #[27, 27] 27 #[.slice (some ⟨b, 0, none⟩) 0 0, s.v]) (.one (.sc (.slice))) fun x7 =>
 Zbn0 k x7
abbrev Zbn2 (k : (Sl → K)) (x2_1 : Sl) : K :=
 k x2_1
abbrev Zbn3 (s : Sl) (k : (Sl → K)) (x4 : Bool) : K :=
 brK x4
 (Zbn2 k ⟨none, 0, 0⟩)
 (Zbn1 s k)
abbrev Ykt (s : Sl) : M Sl := fun k =>
 Zbn3 s k (Option.isNone s.p)
theorem Yh4 (s : Sl) (k : Sl → K) (w : World) (h_ : Ykt s k w) : Ybg s k w :=
 Yae (P := Tryz.prog) Tryz.func146 rfl (by kernel_rfl)
 (Qs [] [0] (fun z_ => Zbn3 s k (Option.isNone s.p))
 Qz
 (fun _ => Qs [] [0] (fun z_ => Zbn1 s k)
 (Qs [(4, .bool)] [0] (fun z_ => Zbn3 s k z_.1)
 Qz
 (fun (x4, _) => Qc (x4) (Zbn2 k ⟨none, 0, 0⟩) (Zbn1 s k) (Qs [(2, .slice)] [] (fun z_ => Zbn2 k z_.1)
 Qz
 (fun (x2_1, _) => Qr)) Qk))
 (fun _ => Qs [(2, .slice)] [] (fun z_ => Zbn0 k z_.1)
 Qz
 (fun (x2, _) => Qr)))) h_
abbrev Zbo0 (k : (Bool → K)) (x4 : Bool) : K :=
 k x4
abbrev Zbo1 (s : Sl) (v : Int) (k : (Bool → K)) : K :=
 Ydg s v fun x7 =>
 Zbo0 k (decide (x7 ≥ 0))
abbrev Yh5 (s : Sl) (v : Int) : M Bool := fun k =>
 Zbo1 s v k
theorem Yg3 (s : Sl) (v : Int) (k : Bool → K) (w : World) (h_ : Yh5 s v k w) : Ybm s v k w :=
 Yae (P := Tryz.prog) Tryz.func199 rfl (by kernel_rfl)
 (Qs [] [0, 1] (fun z_ => Zbo1 s v k)
 Qz
 (fun _ => Qs [(4, .bool)] [] (fun z_ => Zbo0 k z_.1)
 Qz
 (fun (x4, _) => Qr))) h_
abbrev Zbp0 (k : (Sl → K)) (x4 : Sl) : K :=
 k x4
abbrev Zbp1 (s : Sl) (k : (Sl → K)) (i_1 : Int) : K :=
 loB (some (.int .i64 i_1)) s.n s.c fun h =>
 Zbp0 k ⟨(cutP s.p 0 s.c 1), (h - 0), (s.c - 0)⟩
abbrev Zbp2 (s : Sl) (k : (Sl → K)) (i_1 : Int) : K :=
 loB (some (.int .i64 i_1)) 0 s.n fun l =>
 semT Tryz.prog (Builtin.clear_ #[27] 0 #[.slice (cutP s.p l s.c 1) (s.n - l) (s.c - l)]) (.tup []) fun r =>
 Zbp1 s k i_1
abbrev Zbp3 (j_1 : Int) (c : ((Int × Int × Unit) → K)) (i_3 : Int) : K :=
 c (i_3, (IntKind.wrap .i64 (j_1 + 1)), ())
abbrev Zbp4 (s : Sl) (i_2 : Int) (j_1 : Int) (c : ((Int × Int × Unit) → K)) (v : Int) : K :=
 ixS s.p s.n i_2 1 fun x33 =>
 stK (x33.add 0) (.int .i64 v) <|
 Zbp3 j_1 c (IntKind.wrap .i64 (i_2 + 1))
abbrev Zbp5 (s : Sl) (i_2 : Int) (j_1 : Int) (c : ((Int × Int × Unit) → K)) (v : Int) (x29 : Bool) : K :=
 brK x29
 (Zbp4 s i_2 j_1 c v)
 (Zbp3 j_1 c i_2)
abbrev Zbp6 (s : Sl) (del : Fv) (i_2 : Int) (j_1 : Int) (c : ((Int × Int × Unit) → K)) (v : Int) : K :=
 dyn Tryz.prog (del.v) #[.int .i64 v] (.one (.sc (.bool))) fun x28 =>
 Zbp5 s i_2 j_1 c v (!x28)
abbrev Zbp7 (s : Sl) (del : Fv) (i_2 : Int) (j_1 : Int) (c : ((Int × Int × Unit) → K)) : K :=
 ixS s.p s.n j_1 1 fun x24 =>
 ldI .i64 x24 fun x25 =>
 Zbp6 s del i_2 j_1 c x25
abbrev Zbp8 (s : Sl) (del : Fv) (k : (Sl → K)) (i_2 : Int) (j_1 : Int) (c : ((Int × Int × Unit) → K)) (x19 : Bool) : K :=
 brK x19
 (Zbp7 s del i_2 j_1 c)
 (Zbp2 s k i_2)
abbrev Zbp9 (s : Sl) (del : Fv) (k : (Sl → K)) (i_2 : Int) (j_1 : Int) (c : ((Int × Int × Unit) → K)) : K :=
 Zbp8 s del k i_2 j_1 c (decide (j_1 < ((s.n : Nat) : Int)))
abbrev Zbp10 (s : Sl) (del : Fv) (k : (Sl → K)) (i : Int) (j : Int) : K :=
 lp (fun (z_ : (Int × Int × Unit)) c_ => Zbp9 s del k z_.1 z_.2.1 c_) (i, j, ())
abbrev Zbp11 (k : (Sl → K)) (x4_1 : Sl) : K :=
 k x4_1
abbrev Zbp12 (s : Sl) (del : Fv) (k : (Sl → K)) (i : Int) (x12 : Bool) : K :=
 brK x12
 (Zbp11 k s)
 (Zbp10 s del k i (IntKind.wrap .i64 (i + 1)))
abbrev Zbp13 (s : Sl) (del : Fv) (k : (Sl → K)) (i : Int) : K :=
 Zbp12 s del k i (i == (-1))
abbrev Zbp14 (s : Sl) (del : Fv) (k : (Sl → K)) : K :=
 Yca s del fun x10 =>
 Zbp13 s del k x10
abbrev Yd6 (s : Sl) (del : Fv) : M Sl := fun k =>
 Zbp14 s del k
theorem Yge (s : Sl) (del : Fv) (k : Sl → K) (w : World) (h_ : Yd6 s del k w) : Ybd s del k w :=
 Yae (P := Tryz.prog) Tryz.func211 rfl (by kernel_rfl)
 (Qs [] [0, 1] (fun z_ => Zbp14 s del k)
 Qz
 (fun _ => Qs [(5, .int .i64)] [0, 1] (fun z_ => Zbp13 s del k z_.1)
 Qz
 (fun (i, _) => Qs [] [0, 1, 5] (fun z_ => Zbp10 s del k i (IntKind.wrap .i64 (i + 1)))
 (Qs [(12, .bool)] [0, 1, 5] (fun z_ => Zbp12 s del k i z_.1)
 Qz
 (fun (x12, _) => Qc (x12) (Zbp11 k s) (Zbp10 s del k i (IntKind.wrap .i64 (i + 1))) (Qs [(4, .slice)] [] (fun z_ => Zbp11 k z_.1)
 Qz
 (fun (x4_1, _) => Qr)) Qk))
 (fun _ => Qs [(5, .int .i64)] [0] (fun z_ => Zbp2 s k z_.1)
 (Qs [(6, .int .i64)] [0, 1, 5] (fun z_ => Zbp10 s del k i z_.1)
 Qz
 (fun (j, _) => Qb (Ql [(5, .int .i64), (6, .int .i64)] [0, 1] (fun (z_ : (Int × Int × Unit)) c_ => Zbp9 s del k z_.1 z_.2.1 c_) (i, j, ())
 (fun (i_2, j_1, _) c => Qs [] [0, 1, 5, 6] (fun z_ => Zbp7 s del i_2 j_1 c)
 (Qs [(19, .bool)] [0, 1, 5, 6] (fun z_ => Zbp8 s del k i_2 j_1 c z_.1)
 Qz
 (fun (x19, _) => Qc (x19) (Zbp7 s del i_2 j_1 c) (Zbp2 s k i_2) Qk Qx))
 (fun _ => Qs [(5, .int .i64)] [0, 1, 6] (fun z_ => Zbp3 j_1 c z_.1)
 (Qb (Qs [(7, .int .i64)] [0, 1, 5, 6] (fun z_ => Zbp6 s del i_2 j_1 c z_.1)
 Qz
 (fun (v, _) => Qs [(29, .bool)] [0, 1, 5, 6, 7] (fun z_ => Zbp5 s i_2 j_1 c v z_.1)
 Qz
 (fun (x29, _) => Qc (x29) (Zbp4 s i_2 j_1 c v) (Zbp3 j_1 c i_2) (Qs [] [0, 1, 5, 6] (fun z_ => Zbp3 j_1 c (IntKind.wrap .i64 (i_2 + 1)))
 Qz
 (fun _ => Qz)) Qk))))
 (fun (i_3, _) => Qz))))))
 (fun (i_1, _) => Qs [] [0, 5] (fun z_ => Zbp1 s k i_1)
 Qz
 (fun _ => Qs [(4, .slice)] [] (fun z_ => Zbp0 k z_.1)
 Qz
 (fun (x4, _) => Qr))))))) h_
abbrev Zbq0 (k : (Sl → K)) (x2 : Sl) : K :=
 k x2
abbrev Zbq1 (s : Sl) (k : (Sl → K)) : K :=
 alK (.cells #[] 109) fun b =>
 semT Tryz.prog (Builtin.append_ #[162, 162] 162 #[.slice (some ⟨b, 0, none⟩) 0 0, s.v]) (.one (.sc (.slice))) fun x7 =>
 Zbq0 k x7
abbrev Zbq2 (k : (Sl → K)) (x2_1 : Sl) : K :=
 k x2_1
abbrev Zbq3 (s : Sl) (k : (Sl → K)) (x4 : Bool) : K :=
 brK x4
 (Zbq2 k ⟨none, 0, 0⟩)
 (Zbq1 s k)
abbrev Yg4 (s : Sl) : M Sl := fun k =>
 Zbq3 s k (Option.isNone s.p)
theorem Yfx (s : Sl) (k : Sl → K) (w : World) (h_ : Yg4 s k w) : Yab s k w :=
 Yae (P := Tryz.prog) Tryz.func217 rfl (by kernel_rfl)
 (Qs [] [0] (fun z_ => Zbq3 s k (Option.isNone s.p))
 Qz
 (fun _ => Qs [] [0] (fun z_ => Zbq1 s k)
 (Qs [(4, .bool)] [0] (fun z_ => Zbq3 s k z_.1)
 Qz
 (fun (x4, _) => Qc (x4) (Zbq2 k ⟨none, 0, 0⟩) (Zbq1 s k) (Qs [(2, .slice)] [] (fun z_ => Zbq2 k z_.1)
 Qz
 (fun (x2_1, _) => Qr)) Qk))
 (fun _ => Qs [(2, .slice)] [] (fun z_ => Zbq0 k z_.1)
 Qz
 (fun (x2, _) => Qr)))) h_
abbrev Zbr0 (k : (Int → K)) (x4 : Int) : K :=
 k x4
abbrev Zbr1 (k : (Int → K)) (x4_1 : Int) : K :=
 k x4_1
abbrev Zbr2 (k : (Int → K)) (x8_1 : Int) (c : ((Int × Unit) → K)) (i : Int) (x16 : Bool) : K :=
 brK x16
 (Zbr1 k i)
 (c ((IntKind.wrap .i64 (x8_1 + 1)), ()))
abbrev Zbr3 (s : Sl) (v : Int) (k : (Int → K)) (x8_1 : Int) (c : ((Int × Unit) → K)) (i : Int) : K :=
 ixS s.p s.n i 1 fun x14 =>
 ldI .i64 x14 fun x15 =>
 Zbr2 k x8_1 c i (v == x15)
abbrev Zbr4 (s : Sl) (v : Int) (k : (Int → K)) (x8_1 : Int) (c : ((Int × Unit) → K)) (x9 : Bool) : K :=
 brK x9
 (Zbr3 s v k x8_1 c x8_1)
 (Zbr0 k (-1))
abbrev Zbr5 (s : Sl) (v : Int) (k : (Int → K)) (x7 : Int) (x8_1 : Int) (c : ((Int × Unit) → K)) : K :=
 Zbr4 s v k x8_1 c (decide (x8_1 < x7))
abbrev Zbr6 (s : Sl) (v : Int) (k : (Int → K)) (x7 : Int) (x8 : Int) : K :=
 lp (fun (z_ : (Int × Unit)) c_ => Zbr5 s v k x7 z_.1 c_) (x8, ())
abbrev Yku (s : Sl) (v : Int) : M Int := fun k =>
 Zbr6 s v k ((s.n : Nat) : Int) 0
theorem Yh6 (s : Sl) (v : Int) (k : Int → K) (w : World) (h_ : Yku s v k w) : Ydg s v k w :=
 Yae (P := Tryz.prog) Tryz.func225 rfl (by kernel_rfl)
 (Qs [] [0, 1] (fun z_ => Zbr6 s v k ((s.n : Nat) : Int) 0)
 Qz
 (fun _ => Qs [] [] (fun z_ => Zbr0 k (-1))
 (Qs [(7, .int .i64), (8, .int .i64)] [0, 1] (fun z_ => Zbr6 s v k z_.1 z_.2.1)
 Qz
 (fun (x7, x8, _) => Qb (Ql [(8, .int .i64)] [0, 1, 7] (fun (z_ : (Int × Unit)) c_ => Zbr5 s v k x7 z_.1 c_) (x8, ())
 (fun (x8_1, _) c => Qs [(9, .bool)] [0, 1, 7, 8] (fun z_ => Zbr4 s v k x8_1 c z_.1)
 Qz
 (fun (x9, _) => Qs [] [0, 1, 7, 8] (fun z_ => Zbr3 s v k x8_1 c x8_1)
 (Qc (x9) (Zbr3 s v k x8_1 c x8_1) (Zbr0 k (-1)) Qk Qx)
 (fun _ => Qs [] [0, 1, 7, 8] (fun z_ => c ((IntKind.wrap .i64 (x8_1 + 1)), ()))
 (Qb (Qs [(5, .int .i64)] [0, 1, 7, 8] (fun z_ => Zbr3 s v k x8_1 c z_.1)
 Qz
 (fun (i, _) => Qs [(16, .bool)] [0, 1, 5, 7, 8] (fun z_ => Zbr2 k x8_1 c i z_.1)
 Qz
 (fun (x16, _) => Qc (x16) (Zbr1 k i) (c ((IntKind.wrap .i64 (x8_1 + 1)), ())) (Qs [(4, .int .i64)] [] (fun z_ => Zbr1 k z_.1)
 Qz
 (fun (x4_1, _) => Qr)) Qk))))
 (fun _ => Qz)))))))
 (fun _ => Qs [(4, .int .i64)] [] (fun z_ => Zbr0 k z_.1)
 Qz
 (fun (x4, _) => Qr)))) h_
abbrev Zbs0 (k : (Int → K)) (x4 : Int) : K :=
 k x4
abbrev Zbs1 (k : (Int → K)) (x4_1 : Int) : K :=
 k x4_1
abbrev Zbs2 (k : (Int → K)) (x8_1 : Int) (c : ((Int × Unit) → K)) (i : Int) (x16 : Bool) : K :=
 brK x16
 (Zbs1 k i)
 (c ((IntKind.wrap .i64 (x8_1 + 1)), ()))
abbrev Zbs3 (s : Sl) (f : Fv) (k : (Int → K)) (x8_1 : Int) (c : ((Int × Unit) → K)) (i : Int) : K :=
 ixS s.p s.n i 1 fun x14 =>
 ldI .i64 x14 fun x15 =>
 dyn Tryz.prog (f.v) #[.int .i64 x15] (.one (.sc (.bool))) fun x16_1 =>
 Zbs2 k x8_1 c i x16_1
abbrev Zbs4 (s : Sl) (f : Fv) (k : (Int → K)) (x8_1 : Int) (c : ((Int × Unit) → K)) (x9 : Bool) : K :=
 brK x9
 (Zbs3 s f k x8_1 c x8_1)
 (Zbs0 k (-1))
abbrev Zbs5 (s : Sl) (f : Fv) (k : (Int → K)) (x7 : Int) (x8_1 : Int) (c : ((Int × Unit) → K)) : K :=
 Zbs4 s f k x8_1 c (decide (x8_1 < x7))
abbrev Zbs6 (s : Sl) (f : Fv) (k : (Int → K)) (x7 : Int) (x8 : Int) : K :=
 lp (fun (z_ : (Int × Unit)) c_ => Zbs5 s f k x7 z_.1 c_) (x8, ())
abbrev Yen (s : Sl) (f : Fv) : M Int := fun k =>
 Zbs6 s f k ((s.n : Nat) : Int) 0
theorem Ygm (s : Sl) (f : Fv) (k : Int → K) (w : World) (h_ : Yen s f k w) : Yca s f k w :=
 Yae (P := Tryz.prog) Tryz.func230 rfl (by kernel_rfl)
 (Qs [] [0, 1] (fun z_ => Zbs6 s f k ((s.n : Nat) : Int) 0)
 Qz
 (fun _ => Qs [] [] (fun z_ => Zbs0 k (-1))
 (Qs [(7, .int .i64), (8, .int .i64)] [0, 1] (fun z_ => Zbs6 s f k z_.1 z_.2.1)
 Qz
 (fun (x7, x8, _) => Qb (Ql [(8, .int .i64)] [0, 1, 7] (fun (z_ : (Int × Unit)) c_ => Zbs5 s f k x7 z_.1 c_) (x8, ())
 (fun (x8_1, _) c => Qs [(9, .bool)] [0, 1, 7, 8] (fun z_ => Zbs4 s f k x8_1 c z_.1)
 Qz
 (fun (x9, _) => Qs [] [0, 1, 7, 8] (fun z_ => Zbs3 s f k x8_1 c x8_1)
 (Qc (x9) (Zbs3 s f k x8_1 c x8_1) (Zbs0 k (-1)) Qk Qx)
 (fun _ => Qs [] [0, 1, 7, 8] (fun z_ => c ((IntKind.wrap .i64 (x8_1 + 1)), ()))
 (Qb (Qs [(5, .int .i64)] [0, 1, 7, 8] (fun z_ => Zbs3 s f k x8_1 c z_.1)
 Qz
 (fun (i, _) => Qs [(16, .bool)] [0, 1, 5, 7, 8] (fun z_ => Zbs2 k x8_1 c i z_.1)
 Qz
 (fun (x16, _) => Qc (x16) (Zbs1 k i) (c ((IntKind.wrap .i64 (x8_1 + 1)), ())) (Qs [(4, .int .i64)] [] (fun z_ => Zbs1 k z_.1)
 Qz
 (fun (x4_1, _) => Qr)) Qk))))
 (fun _ => Qz)))))))
 (fun _ => Qs [(4, .int .i64)] [] (fun z_ => Zbs0 k z_.1)
 Qz
 (fun (x4, _) => Qr)))) h_
abbrev Zbt0 (k : (Bool → K)) (x4 : Bool) : K :=
 k x4
abbrev Zbt1 (k : (Bool → K)) (x4_1 : Bool) : K :=
 k x4_1
abbrev Zbt2 (k : (Bool → K)) (x13_1 : Int) (c : ((Int × Unit) → K)) (x24 : Bool) : K :=
 brK x24
 (Zbt1 k false)
 (c ((IntKind.wrap .i64 (x13_1 + 1)), ()))
abbrev Zbt3 (s1 : Sl) (s2 : Sl) (k : (Bool → K)) (x13_1 : Int) (c : ((Int × Unit) → K)) (i : Int) : K :=
 tick fun _ =>
 ixS s1.p s1.n i 1 fun x18 =>
 ldI .u64 x18 fun x19 =>
 ixS s2.p s2.n i 1 fun x22 =>
 ldI .u64 x22 fun x23 =>
 Zbt2 k x13_1 c (x19 != x23)
abbrev Zbt4 (s1 : Sl) (s2 : Sl) (k : (Bool → K)) (x13_1 : Int) (c : ((Int × Unit) → K)) (x14 : Bool) : K :=
 brK x14
 (Zbt3 s1 s2 k x13_1 c x13_1)
 (Zbt0 k true)
abbrev Zbt5 (s1 : Sl) (s2 : Sl) (k : (Bool → K)) (x12 : Int) (x13_1 : Int) (c : ((Int × Unit) → K)) : K :=
 Zbt4 s1 s2 k x13_1 c (decide (x13_1 < x12))
abbrev Zbt6 (s1 : Sl) (s2 : Sl) (k : (Bool → K)) (x12 : Int) (x13 : Int) : K :=
 lp (fun (z_ : (Int × Unit)) c_ => Zbt5 s1 s2 k x12 z_.1 c_) (x13, ())
abbrev Zbt7 (k : (Bool → K)) (x4_2 : Bool) : K :=
 k x4_2
abbrev Zbt8 (s1 : Sl) (s2 : Sl) (k : (Bool → K)) (x10 : Bool) : K :=
 brK x10
 (Zbt7 k false)
 (Zbt6 s1 s2 k ((s1.n : Nat) : Int) 0)
abbrev Yg5 (s1 : Sl) (s2 : Sl) : M Bool := fun k =>
 Zbt8 s1 s2 k (((s1.n : Nat) : Int) != ((s2.n : Nat) : Int))
theorem Yfy (s1 : Sl) (s2 : Sl) (k : Bool → K) (w : World) (h_ : Yg5 s1 s2 k w) : Ybx s1 s2 k w :=
 Yae (P := Tryz.prog) Tryz.func234 rfl (by kernel_rfl)
 (Qs [] [0, 1] (fun z_ => Zbt8 s1 s2 k (((s1.n : Nat) : Int) != ((s2.n : Nat) : Int)))
 Qz
 (fun _ => Qs [] [0, 1] (fun z_ => Zbt6 s1 s2 k ((s1.n : Nat) : Int) 0)
 (Qs [(10, .bool)] [0, 1] (fun z_ => Zbt8 s1 s2 k z_.1)
 Qz
 (fun (x10, _) => Qc (x10) (Zbt7 k false) (Zbt6 s1 s2 k ((s1.n : Nat) : Int) 0) (Qs [(4, .bool)] [] (fun z_ => Zbt7 k z_.1)
 Qz
 (fun (x4_2, _) => Qr)) Qk))
 (fun _ => Qs [] [] (fun z_ => Zbt0 k true)
 (Qs [(12, .int .i64), (13, .int .i64)] [0, 1] (fun z_ => Zbt6 s1 s2 k z_.1 z_.2.1)
 Qz
 (fun (x12, x13, _) => Qb (Ql [(13, .int .i64)] [0, 1, 12] (fun (z_ : (Int × Unit)) c_ => Zbt5 s1 s2 k x12 z_.1 c_) (x13, ())
 (fun (x13_1, _) c => Qs [(14, .bool)] [0, 1, 12, 13] (fun z_ => Zbt4 s1 s2 k x13_1 c z_.1)
 Qz
 (fun (x14, _) => Qs [] [0, 1, 12, 13] (fun z_ => Zbt3 s1 s2 k x13_1 c x13_1)
 (Qc (x14) (Zbt3 s1 s2 k x13_1 c x13_1) (Zbt0 k true) Qk Qx)
 (fun _ => Qs [] [0, 1, 12, 13] (fun z_ => c ((IntKind.wrap .i64 (x13_1 + 1)), ()))
 (Qb (Qs [(5, .int .i64)] [0, 1, 12, 13] (fun z_ => Zbt3 s1 s2 k x13_1 c z_.1)
 Qz
 (fun (i, _) => Qs [(24, .bool)] [0, 1, 12, 13] (fun z_ => Zbt2 k x13_1 c z_.1)
 (RefK.draw [] [0, 0, 3, 7, 0, 0, 48, 112, 255] [0, 1, 2, 3, 4, 5, 6, 7, 8] [0, 1, 2, 3, 4, 5, 6, 7, 8] (by kernel_rfl) (by kernel_rfl))
 (fun (x24, _) => Qc (x24) (Zbt1 k false) (c ((IntKind.wrap .i64 (x13_1 + 1)), ())) (Qs [(4, .bool)] [] (fun z_ => Zbt1 k z_.1)
 Qz
 (fun (x4_1, _) => Qr)) Qk))))
 (fun _ => Qz)))))))
 (fun _ => Qs [(4, .bool)] [] (fun z_ => Zbt0 k z_.1)
 Qz
 (fun (x4, _) => Qr))))) h_
end
def ints (l : List Int) : List Value := l.map (.int .i64)
def wds (l : List Int) : List Value := l.map (.int .u64)
def bls (l : List Bool) : List Value := l.map .bool
theorem Yp6 : Kd Tryz.prog 162 109 1 := ⟨by kernel_rfl, by kernel_rfl, by kernel_rfl, by kernel_rfl, by kernel_rfl, by decide +kernel, by decide +kernel⟩
theorem Yeo : Kd Tryz.prog 27 3 1 := ⟨by kernel_rfl, by kernel_rfl, by kernel_rfl, by kernel_rfl, by kernel_rfl, by decide +kernel, by decide +kernel⟩
theorem Yy5 : Kd Tryz.prog 101 4 1 := ⟨by kernel_rfl, by kernel_rfl, by kernel_rfl, by kernel_rfl, by kernel_rfl, by decide +kernel, by decide +kernel⟩
theorem Yag (l : List Int) : (ints l).length = l.length := List.length_map _
theorem Yby (l : List Int) : (wds l).length = l.length := List.length_map _
theorem Ype (l : List Bool) : (bls l).length = l.length := List.length_map _
theorem Yct (l : List Int) : (ints l).all scal = true := by simp [ints, List.all_eq_true, scal]
theorem Ylv (l : List Int) : (wds l).all scal = true := by simp [wds, List.all_eq_true, scal]
theorem Ydn {l : List Int} {i : Nat} (h : i < l.length) : (ints l)[i]? = some (.int .i64 l[i]) := by simp [ints, h]
theorem Yt5 {l : List Int} {i : Nat} (h : i < l.length) : (wds l)[i]? = some (.int .u64 l[i]) := by simp [wds, h]
theorem Vfr {l : List Bool} {i : Nat} (h : i < l.length) : (bls l)[i]? = some (.bool l[i]) := by simp [bls, h]
theorem Yz8 (l : List Int) (i : Nat) (n : Int) : (ints l).set i (.int .i64 n) = ints (l.set i n) := by simp [ints, List.map_set]
theorem Vco (l : List Int) (i : Nat) (n : Int) : (wds l).set i (.int .u64 n) = wds (l.set i n) := by simp [wds, List.map_set]
theorem Yu7 (l : List Bool) (i : Nat) (n : Bool) : (bls l).set i (.bool n) = bls (l.set i n) := by simp [bls, List.map_set]
theorem Yu8 (n : Nat) : repZ (zerosP Tryz.prog 109) n = wds (List.replicate n 0) := by
 have : zerosP Tryz.prog 109 = [.int .u64 0] := by kernel_rfl
 rw [this]; simp [repZ, wds]
theorem Ved (n : Nat) : repZ (zerosP Tryz.prog 4) n = bls (List.replicate n false) := by
 have : zerosP Tryz.prog 4 = [.bool false] := by kernel_rfl
 rw [this]; simp [repZ, bls]
section
variable {B : World} {R : SL}
theorem Yy6 {s : Sl} {l : List Int} (hl : l.length ≤ 2 ^ 39) (h : Rd R s 1 (wds l)) {k : Sl → K} (hk : ∀ s', T B (R * vec 109 1 s' (wds l)) (k s')) : T B R (Yab s k) := by
 refine Yaq (Yfx s k) ?_
 refine Ya1 h fun hn => ?_
 rw [Yby, Nat.mul_one] at hn
 refine Vhg h fun hp => ?_
 refine Vb2 (fun e => ?_) (fun e => ?_)
 ·have hl0 : wds l = [] := hp (by simpa using e)
  rw [hl0] at hk
  exact Ydh rfl rfl (hk ⟨none, 0, 0⟩)
 ·(repeat ((with_reducible refine Ya7 ?_; intro _)))
  rename_i b
  refine Ydh (E := 109) (sz := 1) (s := ⟨some ⟨b, 0, none⟩, 0, 0⟩) rfl rfl ?_
  refine Ybs (s := ⟨some ⟨b, 0, none⟩, 0, 0⟩) Yp6 h.init (Ylv l) (by simp; omega) fun s' => ?_
  exact Yux (hk s')
theorem Yy7 {s : Sl} {l : List Int} {v : Int} (hl : l.length ≤ 2 ^ 40) (h : Rd R s 1 (ints l)) {k : Int → K} (h0 : v ∉ l → T B R (k (-1))) (h1 : ∀ i : Nat, i < l.length → v ∈ l → T B R (k i)) : T B R (Ydg s v k) := by
 refine Yaq (Yh6 s v k) ?_
 refine Ya1 h fun hn => ?_
 rw [Yag, Nat.mul_one] at hn
 refine Ycz (fun _ _ => R) (fun n (s : Int × Unit) => ∃ i : Nat, i ≤ l.length ∧ s.1 = i ∧ n = l.length - i ∧ v ∉ l.take i) l.length rfl ⟨0, by omega, rfl, by omega, by simp⟩ ?_
 rintro n ⟨s1, u⟩ c ⟨i, hi, e1, e2, hv⟩ hc
 simp only at e1
 subst e1 e2
 (repeat' (with_reducible refine Yai (fun _ => ?_) (fun _ => ?_)))
 ·rename_i hlt
  have hlt' : i < l.length := by omega
  refine Yej h (by omega) (n := l[i]) (by rw [Int.toNat_natCast]; exact Ydn hlt') ?_
  (repeat' (with_reducible refine Ybr (fun _ => ?_) (fun _ => ?_)))
  ·rename_i he
   exact h1 i hlt' (by rw [he]; exact List.getElem_mem hlt')
  ·rename_i he
   refine hc (l.length - (i + 1)) _ (by omega) ⟨i + 1, by omega, w64 (by omega) (by omega), rfl, ?_⟩
   rw [List.take_succ_eq_append_getElem hlt']
   simp only [List.mem_append, List.mem_singleton, not_or]
   exact ⟨hv, he⟩
 ·rename_i hge
  have : i = l.length := by omega
  subst this
  rw [List.take_length] at hv
  exact h0 hv
theorem Ymg {s : Sl} {l : List Int} {v : Int} (hl : l.length ≤ 2 ^ 40) (h : Rd R s 1 (ints l)) {k : Bool → K} (hk : T B R (k (decide (v ∈ l)))) : T B R (Ybm s v k) := by
 refine Yaq (Yg3 s v k) ?_
 refine Yy7 hl h (fun hv => ?_) (fun i hi hv => ?_)
 ·(refine Yek hk (by intro t h; repeat (first | exact h | refine T.weak ?_)) ?_); simp [hv]
 ·(refine Yek hk (by intro t h; repeat (first | exact h | refine T.weak ?_)) ?_); simp [hv]
theorem Yy8 {s1 s2 : Sl} {l1 l2 : List Int} (hl : l1.length ≤ 2 ^ 40) (h1 : Rd R s1 1 (wds l1)) (h2 : Rd R s2 1 (wds l2)) {k : Bool → K} (hk : T B R (k (decide (l1 = l2)))) : T B R (Ybx s1 s2 k) := by
 refine Yaq (Yfy s1 s2 k) ?_
 refine Ya1 h1 fun hn1 => ?_
 refine Ya1 h2 fun hn2 => ?_
 rw [Yby, Nat.mul_one] at hn1 hn2
 (repeat' (with_reducible refine Yar (fun _ => ?_) (fun _ => ?_)))
 ·rename_i hne
  (refine Yek hk (by intro t h; repeat (first | exact h | refine T.weak ?_)) ?_)
  simp only [decide_eq_false_iff_not]
  intro e; subst e; omega
 ·rename_i heq
  have hll : l1.length = l2.length := by omega
  refine Ycz (fun _ _ => R) (fun n (s : Int × Unit) => ∃ i : Nat, i ≤ l1.length ∧ s.1 = i ∧ n = l1.length - i ∧ l1.take i = l2.take i) l1.length rfl ⟨0, by omega, rfl, by omega, by simp⟩ ?_
  rintro n ⟨s1', u⟩ c ⟨i, hi, e1, e2, hv⟩ hc
  simp only at e1
  subst e1 e2
  (repeat' (first | with_reducible refine Yak ?_ | with_reducible refine Yai (fun _ => ?_) (fun _ => ?_)))
  ·rename_i hlt
   have hlt1 : i < l1.length := by omega
   have hlt2 : i < l2.length := by omega
   refine Yej h1 (by omega) (n := l1[i]) (by rw [Int.toNat_natCast]; exact Yt5 hlt1) ?_
   refine Yej h2 (by omega) (n := l2[i]) (by rw [Int.toNat_natCast]; exact Yt5 hlt2) ?_
   (repeat' (with_reducible refine Yar (fun _ => ?_) (fun _ => ?_)))
   ·rename_i he
    (refine Yek hk (by intro t h; repeat (first | exact h | refine T.weak ?_)) ?_)
    simp only [decide_eq_false_iff_not]
    intro e; subst e; exact he rfl
   ·rename_i he
    refine hc (l1.length - (i + 1)) _ (by omega) ⟨i + 1, by omega, w64 (by omega) (by omega), rfl, ?_⟩
    rw [List.take_succ_eq_append_getElem hlt1, List.take_succ_eq_append_getElem hlt2, hv, he]
  ·rename_i hge
   have : i = l1.length := by omega
   (refine Yek hk (by intro t h; repeat (first | exact h | refine T.weak ?_)) ?_)
   simp only [decide_eq_true_eq]
   rw [List.take_of_length_le (by omega), List.take_of_length_le (by omega)] at hv
   exact hv
end
section
set_option maxRecDepth 100000
abbrev Zbu0 (k : (Int → K)) (x4 : Int) : K :=
 k x4
abbrev Zbu1 (d : OA) (at_1 : Int) (k : (Int → K)) : K :=
 nn d fun x17 =>
 ldS (x17.add 1) fun x19 =>
 ixS x19.p x19.n at_1 1 fun x21 =>
 ldI .u64 x21 fun x22 =>
 Zbu0 k x22
abbrev Zbu2 (k : (Int → K)) (x4_1 : Int) : K :=
 k x4_1
abbrev Zbu3 (d : OA) (at_1 : Int) (k : (Int → K)) (x15 : Bool) : K :=
 brK x15
 (Zbu2 k 0)
 (Zbu1 d at_1 k)
abbrev Zbu4 (d : OA) (at_1 : Int) (k : (Int → K)) : K :=
 brK (decide (at_1 < 0))
 (Zbu3 d at_1 k true)
 (nn d fun x10 =>
 ldS (x10.add 1) fun x12 =>
 Zbu3 d at_1 k (decide (at_1 ≥ ((x12.n : Nat) : Int))))
abbrev Ys5 (d : OA) (at_1 : Int) : M Int := fun k =>
 Zbu4 d at_1 k
theorem Ypf (d : OA) (at_1 : Int) (k : Int → K) (w : World) (h_ : Ys5 d at_1 k w) : Ybw d at_1 k w :=
 Yae (P := Tryz.prog) Tryz.func53 rfl (by kernel_rfl)
 (Qs [] [0, 1] (fun z_ => Zbu4 d at_1 k)
 Qz
 (fun _ => Qs [] [0, 1] (fun z_ => Zbu1 d at_1 k)
 (Qs [(15, .bool)] [0, 1] (fun z_ => Zbu3 d at_1 k z_.1)
 (Qp [2])
 (fun (x15, _) => Qc (x15) (Zbu2 k 0) (Zbu1 d at_1 k) (Qs [(4, .int .u64)] [] (fun z_ => Zbu2 k z_.1)
 Qz
 (fun (x4_1, _) => Qr)) Qk))
 (fun _ => Qs [(4, .int .u64)] [] (fun z_ => Zbu0 k z_.1)
 Qz
 (fun (x4, _) => Qr)))) h_
abbrev Zbv0 (k : (Int → K)) (x6 : Int) : K :=
 k x6
abbrev Zbv1 (d : OA) (at_1 : Int) (k : (Int → K)) : K :=
 nn d fun x31 =>
 ldS (x31.add 3) fun x33 =>
 ixS x33.p x33.n (IntKind.wrap .i64 (Int.tdiv at_1 8)) 1 fun x36 =>
 stK (x36.add 0) (.bool true) <|
 Zbv0 k 0
abbrev Zbv2 (d : OA) (at_1 : Int) (w_1 : Int) (k : (Int → K)) : K :=
 nn d fun x24 =>
 ldS (x24.add 1) fun x26 =>
 ixS x26.p x26.n at_1 1 fun x29 =>
 stK (x29.add 0) (.int .u64 w_1) <|
 Zbv1 d at_1 k
abbrev Zbv3 (k : (Int → K)) (x6_1 : Int) : K :=
 k x6_1
abbrev Zbv4 (k : (Int → K)) (x6_2 : Int) : K :=
 k x6_2
abbrev Zbv5 (d : OA) (at_1 : Int) (w_1 : Int) (k : (Int → K)) (x19 : Bool) : K :=
 brK x19
 (Zbv4 k 3)
 (Zbv2 d at_1 w_1 k)
abbrev Zbv6 (d : OA) (at_1 : Int) (w_1 : Int) (k : (Int → K)) : K :=
 Yc5 d fun x21 =>
 Zbv5 d at_1 w_1 k (!x21)
abbrev Zbv7 (d : OA) (at_1 : Int) (w_1 : Int) (k : (Int → K)) (x7 : Bool) : K :=
 brK x7
 (Zbv3 k 2)
 (Zbv6 d at_1 w_1 k)
abbrev Zbv8 (d : OA) (at_1 : Int) (w_1 : Int) (k : (Int → K)) : K :=
 brK (decide (at_1 < 0))
 (Zbv7 d at_1 w_1 k true)
 (nn d fun x13 =>
 ldS (x13.add 1) fun x15 =>
 Zbv7 d at_1 w_1 k (decide (at_1 ≥ ((x15.n : Nat) : Int))))
abbrev Yqj (d : OA) (at_1 : Int) (w_1 : Int) : M Int := fun k =>
 Zbv8 d at_1 w_1 k
theorem Ym1 (d : OA) (at_1 : Int) (w_1 : Int) (k : Int → K) (w : World) (h_ : Yqj d at_1 w_1 k w) : Ya5 d at_1 w_1 k w :=
 Yae (P := Tryz.prog) Tryz.func54 rfl (by kernel_rfl)
 (Qs [] [0, 1, 2] (fun z_ => Zbv8 d at_1 w_1 k)
 Qz
 (fun _ => Qs [] [0, 1, 2] (fun z_ => Zbv2 d at_1 w_1 k)
 (Qb (Qs [(7, .bool)] [0, 1, 2] (fun z_ => Zbv7 d at_1 w_1 k z_.1)
 (Qp [2])
 (fun (x7, _) => Qc (x7) (Zbv3 k 2) (Zbv6 d at_1 w_1 k) (Qs [(6, .int .i64)] [] (fun z_ => Zbv3 k z_.1)
 Qz
 (fun (x6_1, _) => Qr)) (Qs [(19, .bool)] [0, 1, 2] (fun z_ => Zbv5 d at_1 w_1 k z_.1)
 Qz
 (fun (x19, _) => Qc (x19) (Zbv4 k 3) (Zbv2 d at_1 w_1 k) (Qs [(6, .int .i64)] [] (fun z_ => Zbv4 k z_.1)
 Qz
 (fun (x6_2, _) => Qr)) Qk)))))
 (fun _ => Qs [] [0, 1] (fun z_ => Zbv1 d at_1 k)
 Qz
 (fun _ => Qs [] [] (fun z_ => Zbv0 k 0)
 Qz
 (fun _ => Qs [(6, .int .i64)] [] (fun z_ => Zbv0 k z_.1)
 Qz
 (fun (x6, _) => Qr)))))) h_
abbrev Zbw0 (k : (Int → K)) (x2 : Int) : K :=
 k x2
abbrev Zbw1 (d : OA) (k : (Int → K)) : K :=
 nn d fun x4 =>
 ldS (x4.add 1) fun x6 =>
 Zbw0 k ((x6.n : Nat) : Int)
abbrev Ys6 (d : OA) : M Int := fun k =>
 Zbw1 d k
theorem Ypg (d : OA) (k : Int → K) (w : World) (h_ : Ys6 d k w) : Yat d k w :=
 Yae (P := Tryz.prog) Tryz.func112 rfl (by kernel_rfl)
 (Qs [] [0] (fun z_ => Zbw1 d k)
 Qz
 (fun _ => Qs [(2, .int .i64)] [] (fun z_ => Zbw0 k z_.1)
 Qz
 (fun (x2, _) => Qr))) h_
abbrev Zbx0 (k : (Bool → K)) (x2 : Bool) : K :=
 k x2
abbrev Zbx1 (d : OA) (k : (Bool → K)) : K :=
 nn d fun x31 =>
 ldI .i64 (x31.add 5) fun x33 =>
 nn d fun x35 =>
 stK (Addr.add (x35.add 5) 0) (.int .i64 (IntKind.wrap .i64 (x33 + 1))) <|
 Zbx0 k true
abbrev Zbx2 (d : OA) (k : (Bool → K)) : K :=
 nn d fun x24 =>
 ldI .i64 (x24.add 6) fun x26 =>
 nn d fun x28 =>
 stK (Addr.add (x28.add 6) 0) (.int .i64 (IntKind.wrap .i64 (x26 - 1))) <|
 Zbx1 d k
abbrev Zbx3 (k : (Bool → K)) (x2_1 : Bool) : K :=
 k x2_1
abbrev Zbx4 (d : OA) (k : (Bool → K)) : K :=
 nn d fun x21 =>
 stK (Addr.add (x21.add 8) 0) (.bool true) <|
 Zbx3 k false
abbrev Zbx5 (d : OA) (k : (Bool → K)) (x19 : Bool) : K :=
 brK x19
 (Zbx4 d k)
 (Zbx2 d k)
abbrev Zbx6 (d : OA) (k : (Bool → K)) : K :=
 nn d fun x4 =>
 ldB (x4.add 8) fun x6 =>
 brK x6
 (Zbx5 d k true)
 (nn d fun x9 =>
 ldB (x9.add 7) fun x11 =>
 brK x11
 (nn d fun x14 =>
 ldI .i64 (x14.add 6) fun x16 =>
 Zbx5 d k (x16 == 0))
 (Zbx5 d k false))
abbrev Yrm (d : OA) : M Bool := fun k =>
 Zbx6 d k
theorem Yn5 (d : OA) (k : Bool → K) (w : World) (h_ : Yrm d k w) : Yc5 d k w :=
 Yae (P := Tryz.prog) Tryz.func115 rfl (by kernel_rfl)
 (Qs [] [0] (fun z_ => Zbx6 d k)
 Qz
 (fun _ => Qs [] [0] (fun z_ => Zbx2 d k)
 (Qs [(19, .bool)] [0] (fun z_ => Zbx5 d k z_.1)
 (Qp [4, 9])
 (fun (x19, _) => Qc (x19) (Zbx4 d k) (Zbx2 d k) (Qs [] [] (fun z_ => Zbx3 k false)
 Qz
 (fun _ => Qs [(2, .bool)] [] (fun z_ => Zbx3 k z_.1)
 Qz
 (fun (x2_1, _) => Qr))) Qk))
 (fun _ => Qs [] [0] (fun z_ => Zbx1 d k)
 Qz
 (fun _ => Qs [] [] (fun z_ => Zbx0 k true)
 Qz
 (fun _ => Qs [(2, .bool)] [] (fun z_ => Zbx0 k z_.1)
 Qz
 (fun (x2, _) => Qr)))))) h_
abbrev Zby0 (k : (OA → K)) (x2 : OA) : K :=
 k x2
abbrev Zby1 (k : (OA → K)) (n : Int) : K :=
 mkS Tryz.prog 109 (IntKind.wrap .i64 (n * 8)) (IntKind.wrap .i64 (n * 8)) fun b =>
 Yo8 ⟨(some ⟨b, 0, none⟩), (Int.toNat (IntKind.wrap .i64 (n * 8))), (Int.toNat (IntKind.wrap .i64 (n * 8)))⟩ fun x9 =>
 Zby0 k x9
abbrev Zby2 (words : Int) (k : (OA → K)) : K :=
 Ykf words 8 fun x5 =>
 Zby1 k x5
abbrev Vcp (words : Int) : M OA := fun k =>
 Zby2 words k
theorem Vbi (words : Int) (k : OA → K) (w : World) (h_ : Vcp words k w) : Yrc words k w :=
 Yae (P := Tryz.prog) Tryz.func120 rfl (by kernel_rfl)
 (Qs [] [0] (fun z_ => Zby2 words k)
 Qz
 (fun _ => Qs [(3, .int .i64)] [] (fun z_ => Zby1 k z_.1)
 Qz
 (fun (n, _) => Qs [(2, .ptr)] [] (fun z_ => Zby0 k z_.1)
 Qz
 (fun (x2, _) => Qr)))) h_
abbrev Zbz0 (k : (Int → K)) (x6 : Int) : K :=
 k x6
abbrev Zbz1 (d : OA) (k : (Int → K)) : K :=
 Ye9 d fun x49 =>
 Zbz0 k x49
abbrev Zbz2 (k : (Int → K)) (x6_1 : Int) : K :=
 k x6_1
abbrev Zbz3 (k : (Int → K)) (line_1 : Int) (c : ((Int × Unit) → K)) (e : Int) (x46 : Bool) : K :=
 brK x46
 (Zbz2 k e)
 (c ((IntKind.wrap .i64 (line_1 + 1)), ()))
abbrev Zbz4 (k : (Int → K)) (line_1 : Int) (c : ((Int × Unit) → K)) (e : Int) : K :=
 Zbz3 k line_1 c e (e != 0)
abbrev Zbz5 (d : OA) (k : (Int → K)) (line_1 : Int) (c : ((Int × Unit) → K)) : K :=
 Ye8 d line_1 fun x44 =>
 Zbz4 k line_1 c x44
abbrev Zbz6 (d : OA) (k : (Int → K)) (line_1 : Int) (c : ((Int × Unit) → K)) (x39 : Bool) : K :=
 brK x39
 (Zbz5 d k line_1 c)
 (Zbz1 d k)
abbrev Zbz7 (d : OA) (at_1 : Int) (words : Int) (k : (Int → K)) (line_1 : Int) (c : ((Int × Unit) → K)) : K :=
 Zbz6 d k line_1 c (decide (line_1 ≤ (IntKind.wrap .i64 (Int.tdiv (IntKind.wrap .i64 ((IntKind.wrap .i64 (at_1 + words)) - 1)) 8))))
abbrev Zbz8 (d : OA) (at_1 : Int) (words : Int) (k : (Int → K)) (line : Int) : K :=
 lp (fun (z_ : (Int × Unit)) c_ => Zbz7 d at_1 words k z_.1 c_) (line, ())
abbrev Zbz9 (d : OA) (at_1 : Int) (words : Int) (k : (Int → K)) (x30 : Bool) : K :=
 brK x30
 (Zbz8 d at_1 words k (IntKind.wrap .i64 (Int.tdiv at_1 8)))
 (Zbz1 d k)
abbrev Zbz10 (k : (Int → K)) (x6_2 : Int) : K :=
 k x6_2
abbrev Zbz11 (d : OA) (at_1 : Int) (words : Int) (k : (Int → K)) (x28 : Bool) : K :=
 brK x28
 (Zbz10 k 2)
 (Zbz9 d at_1 words k (decide (words > 0)))
abbrev Zbz12 (d : OA) (at_1 : Int) (words : Int) (k : (Int → K)) : K :=
 brK (decide (at_1 < 0))
 (Zbz11 d at_1 words k true)
 (brK (decide (words < 0))
 (Zbz11 d at_1 words k true)
 (Yat d fun x18 =>
 brK (decide (at_1 > x18))
 (Zbz11 d at_1 words k true)
 (Yat d fun x24 =>
 Zbz11 d at_1 words k (decide (words > (IntKind.wrap .i64 (x24 - at_1)))))))
abbrev Yhe (d : OA) (at_1 : Int) (words : Int) : M Int := fun k =>
 Zbz12 d at_1 words k
theorem Ykv (d : OA) (at_1 : Int) (words : Int) (k : Int → K) (w : World) (h_ : Yhe d at_1 words k w) : Ycx d at_1 words k w :=
 Yae (P := Tryz.prog) Tryz.func178 rfl (by kernel_rfl)
 (Qs [] [0, 1, 2] (fun z_ => Zbz12 d at_1 words k)
 Qz
 (fun _ => Qs [] [0, 1, 2] (fun z_ => Zbz9 d at_1 words k (decide (words > 0)))
 (Qs [(28, .bool)] [0, 1, 2] (fun z_ => Zbz11 d at_1 words k z_.1)
 (Qp [2, 6, 12])
 (fun (x28, _) => Qc (x28) (Zbz10 k 2) (Zbz9 d at_1 words k (decide (words > 0))) (Qs [(6, .int .i64)] [] (fun z_ => Zbz10 k z_.1)
 Qz
 (fun (x6_2, _) => Qr)) Qk))
 (fun _ => Qs [] [0] (fun z_ => Zbz1 d k)
 (Qs [(30, .bool)] [0, 1, 2] (fun z_ => Zbz9 d at_1 words k z_.1)
 Qz
 (fun (x30, _) => Qc (x30) (Zbz8 d at_1 words k (IntKind.wrap .i64 (Int.tdiv at_1 8))) (Zbz1 d k) (Qs [(7, .int .i64)] [0, 1, 2] (fun z_ => Zbz8 d at_1 words k z_.1)
 Qz
 (fun (line, _) => Qb (Ql [(7, .int .i64)] [0, 1, 2] (fun (z_ : (Int × Unit)) c_ => Zbz7 d at_1 words k z_.1 c_) (line, ())
 (fun (line_1, _) c => Qs [] [0, 1, 2, 7] (fun z_ => Zbz5 d k line_1 c)
 (Qs [(39, .bool)] [0, 1, 2, 7] (fun z_ => Zbz6 d k line_1 c z_.1)
 Qz
 (fun (x39, _) => Qc (x39) (Zbz5 d k line_1 c) (Zbz1 d k) Qk Qx))
 (fun _ => Qs [] [0, 1, 2, 7] (fun z_ => c ((IntKind.wrap .i64 (line_1 + 1)), ()))
 (Qb (Qs [(8, .int .i64)] [0, 1, 2, 7] (fun z_ => Zbz4 k line_1 c z_.1)
 Qz
 (fun (e, _) => Qs [(46, .bool)] [0, 1, 2, 7, 8] (fun z_ => Zbz3 k line_1 c e z_.1)
 Qz
 (fun (x46, _) => Qc (x46) (Zbz2 k e) (c ((IntKind.wrap .i64 (line_1 + 1)), ())) (Qs [(6, .int .i64)] [] (fun z_ => Zbz2 k z_.1)
 Qz
 (fun (x6_1, _) => Qr)) Qk))))
 (fun _ => Qz)))))) Qk))
 (fun _ => Qs [(6, .int .i64)] [] (fun z_ => Zbz0 k z_.1)
 Qz
 (fun (x6, _) => Qr))))) h_
abbrev Zca0 (k : (Int → K)) (x4 : Int) : K :=
 k x4
abbrev Zca1 (d : OA) (line : Int) (k : (Int → K)) : K :=
 tick fun _ =>
 nn d fun x36 =>
 ldS (x36.add 2) fun x38 =>
 nn d fun x43 =>
 ldS (x43.add 1) fun x45 =>
 Ybb d x38 line fun x40 =>
 chk [.cell (x43.add 1) (x45.v)] fun _ =>
 Ybb d x45 line fun x47 =>
 semT Tryz.prog (Builtin.copy_ #[162, 162] 3 #[x40.v, x47.v]) (.one (.sc (.int .i64))) fun x48 =>
 Zca0 k 0
abbrev Zca2 (d : OA) (line : Int) (k : (Int → K)) : K :=
 nn d fun x29 =>
 ldS (x29.add 4) fun x31 =>
 ixS x31.p x31.n line 1 fun x33 =>
 stK (x33.add 0) (.bool true) <|
 Zca1 d line k
abbrev Zca3 (d : OA) (line : Int) (k : (Int → K)) (x27 : Bool) : K :=
 brK x27
 (Zca2 d line k)
 (Zca0 k 0)
abbrev Zca4 (d : OA) (line : Int) (k : (Int → K)) : K :=
 nn d fun x22 =>
 ldS (x22.add 3) fun x24 =>
 ixS x24.p x24.n line 1 fun x26 =>
 ldB x26 fun x27_1 =>
 Zca3 d line k x27_1
abbrev Zca5 (k : (Int → K)) (x4_1 : Int) : K :=
 k x4_1
abbrev Zca6 (k : (Int → K)) (x4_2 : Int) : K :=
 k x4_2
abbrev Zca7 (d : OA) (line : Int) (k : (Int → K)) (x17 : Bool) : K :=
 brK x17
 (Zca6 k 3)
 (Zca4 d line k)
abbrev Zca8 (d : OA) (line : Int) (k : (Int → K)) : K :=
 Yc5 d fun x19 =>
 Zca7 d line k (!x19)
abbrev Zca9 (d : OA) (line : Int) (k : (Int → K)) (x5 : Bool) : K :=
 brK x5
 (Zca5 k 2)
 (Zca8 d line k)
abbrev Zca10 (d : OA) (line : Int) (k : (Int → K)) : K :=
 brK (decide (line < 0))
 (Zca9 d line k true)
 (nn d fun x11 =>
 ldS (x11.add 3) fun x13 =>
 Zca9 d line k (decide (line ≥ ((x13.n : Nat) : Int))))
abbrev Yqk (d : OA) (line : Int) : M Int := fun k =>
 Zca10 d line k
theorem Ym2 (d : OA) (line : Int) (k : Int → K) (w : World) (h_ : Yqk d line k w) : Ye8 d line k w :=
 Yae (P := Tryz.prog) Tryz.func218 rfl (by kernel_rfl)
 (Qs [] [0, 1] (fun z_ => Zca10 d line k)
 Qz
 (fun _ => Qs [] [0, 1] (fun z_ => Zca4 d line k)
 (Qb (Qs [(5, .bool)] [0, 1] (fun z_ => Zca9 d line k z_.1)
 (Qp [2])
 (fun (x5, _) => Qc (x5) (Zca5 k 2) (Zca8 d line k) (Qs [(4, .int .i64)] [] (fun z_ => Zca5 k z_.1)
 Qz
 (fun (x4_1, _) => Qr)) (Qs [(17, .bool)] [0, 1] (fun z_ => Zca7 d line k z_.1)
 Qz
 (fun (x17, _) => Qc (x17) (Zca6 k 3) (Zca4 d line k) (Qs [(4, .int .i64)] [] (fun z_ => Zca6 k z_.1)
 Qz
 (fun (x4_2, _) => Qr)) Qk)))))
 (fun _ => Qs [] [] (fun z_ => Zca0 k 0)
 (Qs [(27, .bool)] [0, 1] (fun z_ => Zca3 d line k z_.1)
 Qz
 (fun (x27, _) => Qc (x27) (Zca2 d line k) (Zca0 k 0) (Qs [] [0, 1] (fun z_ => Zca1 d line k)
 Qz
 (fun _ => RefK.draw [] [0, 0, 2, 6, 14, 0, 63, 0, 0, 256, 768, 1792, 0, 8191, 16383] [0, 1, 2, 3, 4, 5, 7, 8, 9, 10, 11, 12, 6, 13, 14] [0, 1, 2, 3, 4, 5, 6, 7, 8, 9, 10, 11, 12, 13, 14] (by kernel_rfl) (by kernel_rfl))) Qk))
 (fun _ => Qs [(4, .int .i64)] [] (fun z_ => Zca0 k z_.1)
 Qz
 (fun (x4, _) => Qr))))) h_
abbrev Zcb0 (k : (Int → K)) (x2 : Int) : K :=
 k x2
abbrev Zcb1 (d : OA) (x13_1 : Int) (c : ((Int × Unit) → K)) (line : Int) : K :=
 tick fun _ =>
 nn d fun x41 =>
 ldS (x41.add 3) fun x43 =>
 nn d fun x47 =>
 ldS (x47.add 0) fun x49 =>
 nn d fun x54 =>
 ldS (x54.add 1) fun x56 =>
 Ybb d x49 line fun x51 =>
 chk [.cell (x54.add 1) (x56.v), .cell (x41.add 3) (x43.v)] fun _ =>
 Ybb d x56 line fun x58 =>
 chk [.cell (x41.add 3) (x43.v)] fun _ =>
 Ybx x51 x58 fun x59 =>
 chk [.cell (x41.add 3) (x43.v)] fun _ =>
 ixS x43.p x43.n line 1 fun x61 =>
 stK (x61.add 0) (.bool (!x59)) <|
 c ((IntKind.wrap .i64 (x13_1 + 1)), ())
abbrev Zcb2 (d : OA) (x13_1 : Int) (c : ((Int × Unit) → K)) (line : Int) : K :=
 nn d fun x35 =>
 ldS (x35.add 4) fun x37 =>
 ixS x37.p x37.n line 1 fun x39 =>
 stK (x39.add 0) (.bool false) <|
 Zcb1 d x13_1 c line
abbrev Zcb3 (d : OA) (x13_1 : Int) (c : ((Int × Unit) → K)) (line : Int) : K :=
 tick fun _ =>
 nn d fun x21 =>
 ldS (x21.add 0) fun x23 =>
 nn d fun x28 =>
 ldS (x28.add 2) fun x30 =>
 Ybb d x23 line fun x25 =>
 chk [.cell (x28.add 2) (x30.v)] fun _ =>
 Ybb d x30 line fun x32 =>
 semT Tryz.prog (Builtin.copy_ #[162, 162] 3 #[x25.v, x32.v]) (.one (.sc (.int .i64))) fun x33 =>
 Zcb2 d x13_1 c line
abbrev Zcb4 (d : OA) (x13_1 : Int) (c : ((Int × Unit) → K)) (line : Int) (x18 : Bool) : K :=
 brK x18
 (Zcb3 d x13_1 c line)
 (c ((IntKind.wrap .i64 (x13_1 + 1)), ()))
abbrev Zcb5 (d : OA) (x13_1 : Int) (c : ((Int × Unit) → K)) (line : Int) (is : Bool) : K :=
 Zcb4 d x13_1 c line is
abbrev Zcb6 (d : OA) (x11 : Sl) (x13_1 : Int) (c : ((Int × Unit) → K)) : K :=
 ixS x11.p x11.n x13_1 1 fun x16 =>
 ldB x16 fun x17 =>
 Zcb5 d x13_1 c x13_1 x17
abbrev Zcb7 (d : OA) (k : (Int → K)) (x11 : Sl) (x13_1 : Int) (c : ((Int × Unit) → K)) (x14 : Bool) : K :=
 brK x14
 (Zcb6 d x11 x13_1 c)
 (Zcb0 k 0)
abbrev Zcb8 (d : OA) (k : (Int → K)) (x11 : Sl) (x12 : Int) (x13_1 : Int) (c : ((Int × Unit) → K)) : K :=
 Zcb7 d k x11 x13_1 c (decide (x13_1 < x12))
abbrev Zcb9 (d : OA) (k : (Int → K)) (x11 : Sl) (x12 : Int) (x13 : Int) : K :=
 lp (fun (z_ : (Int × Unit)) c_ => Zcb8 d k x11 x12 z_.1 c_) (x13, ())
abbrev Zcb10 (d : OA) (k : (Int → K)) : K :=
 nn d fun x9 =>
 ldS (x9.add 4) fun x11_1 =>
 Zcb9 d k x11_1 ((x11_1.n : Nat) : Int) 0
abbrev Zcb11 (k : (Int → K)) (x2_1 : Int) : K :=
 k x2_1
abbrev Zcb12 (d : OA) (k : (Int → K)) (x7 : Bool) : K :=
 brK x7
 (Zcb11 k 3)
 (Zcb10 d k)
abbrev Zcb13 (d : OA) (k : (Int → K)) : K :=
 Yc5 d fun x6 =>
 Zcb12 d k (!x6)
abbrev Yql (d : OA) : M Int := fun k =>
 Zcb13 d k
theorem Ym3 (d : OA) (k : Int → K) (w : World) (h_ : Yql d k w) : Ye9 d k w :=
 Yae (P := Tryz.prog) Tryz.func219 rfl (by kernel_rfl)
 (Qs [] [0] (fun z_ => Zcb13 d k)
 Qz
 (fun _ => Qs [] [0] (fun z_ => Zcb10 d k)
 (Qs [(7, .bool)] [0] (fun z_ => Zcb12 d k z_.1)
 Qz
 (fun (x7, _) => Qc (x7) (Zcb11 k 3) (Zcb10 d k) (Qs [(2, .int .i64)] [] (fun z_ => Zcb11 k z_.1)
 Qz
 (fun (x2_1, _) => Qr)) Qk))
 (fun _ => Qs [] [] (fun z_ => Zcb0 k 0)
 (Qs [(11, .slice), (12, .int .i64), (13, .int .i64)] [0] (fun z_ => Zcb9 d k z_.1 z_.2.1 z_.2.2.1)
 Qz
 (fun (x11, x12, x13, _) => Qb (Ql [(13, .int .i64)] [0, 11, 12] (fun (z_ : (Int × Unit)) c_ => Zcb8 d k x11 x12 z_.1 c_) (x13, ())
 (fun (x13_1, _) c => Qs [(14, .bool)] [0, 11, 12, 13] (fun z_ => Zcb7 d k x11 x13_1 c z_.1)
 Qz
 (fun (x14, _) => Qs [] [0, 11, 12, 13] (fun z_ => Zcb6 d x11 x13_1 c)
 (Qc (x14) (Zcb6 d x11 x13_1 c) (Zcb0 k 0) Qk Qx)
 (fun _ => Qs [] [0, 11, 12, 13] (fun z_ => c ((IntKind.wrap .i64 (x13_1 + 1)), ()))
 (Qb (Qs [(3, .int .i64), (4, .bool)] [0, 11, 12, 13] (fun z_ => Zcb5 d x13_1 c z_.1 z_.2.1)
 Qz
 (fun (line, is, _) => Qs [(18, .bool)] [0, 3, 11, 12, 13] (fun z_ => Zcb4 d x13_1 c line z_.1)
 Qz
 (fun (x18, _) => Qc (x18) (Zcb3 d x13_1 c line) (c ((IntKind.wrap .i64 (x13_1 + 1)), ())) (Qs [] [0, 3, 11, 12, 13] (fun z_ => Zcb2 d x13_1 c line)
 (RefK.draw [] [0, 0, 2, 6, 14, 0, 63, 0, 0, 256, 768, 1792, 0, 8191, 16383] [0, 1, 2, 3, 4, 5, 7, 8, 9, 10, 11, 12, 6, 13, 14] [0, 1, 2, 3, 4, 5, 6, 7, 8, 9, 10, 11, 12, 13, 14] (by kernel_rfl) (by kernel_rfl))
 (fun _ => Qs [] [0, 3, 11, 12, 13] (fun z_ => Zcb1 d x13_1 c line)
 Qz
 (fun _ => RefK.draw [] [0, 1, 3, 7, 0, 0, 0, 64, 192, 448, 0, 2016, 0, 0, 8192, 24576, 57344, 0, 262112, 524256, 1048544, 2097151, 4194303] [0, 1, 2, 3, 4, 5, 6, 7, 8, 9, 10, 12, 13, 14, 15, 16, 17, 11, 18, 19, 20, 21, 22] [0, 1, 2, 3, 4, 5, 6, 7, 8, 9, 10, 11, 12, 13, 14, 15, 16, 17, 18, 19, 20, 21, 22] (by kernel_rfl) (by kernel_rfl)))) Qk))))
 (fun _ => Qz)))))))
 (fun _ => Qs [(2, .int .i64)] [] (fun z_ => Zcb0 k z_.1)
 Qz
 (fun (x2, _) => Qr))))) h_
abbrev Zcc0 (k : (Sl → K)) (x6 : Sl) : K :=
 k x6
abbrev Zcc1 (words : Sl) (line : Int) (k : (Sl → K)) : K :=
 loB (some (.int .i64 (IntKind.wrap .i64 ((IntKind.wrap .i64 (line + 1)) * 8)))) words.n words.c fun h =>
 loB (some (.int .i64 (IntKind.wrap .i64 (line * 8)))) 0 h fun l =>
 Zcc0 k ⟨(cutP words.p l words.c 1), (h - l), (words.c - l)⟩
abbrev Ykw (d : OA) (words : Sl) (line : Int) : M Sl := fun k =>
 Zcc1 words line k
theorem Yn6 (d : OA) (words : Sl) (line : Int) (k : Sl → K) (w : World) (h_ : Ykw d words line k w) : Ybb d words line k w :=
 Yae (P := Tryz.prog) Tryz.func233 rfl (by kernel_rfl)
 (Qs [] [1, 2] (fun z_ => Zcc1 words line k)
 Qz
 (fun _ => Qs [(6, .slice)] [] (fun z_ => Zcc0 k z_.1)
 Qz
 (fun (x6, _) => Qr))) h_
end
variable {D : List Deferred}
inductive Tr where
 |nil
 |step (i : Nat) (t : Tr)
 |alt (i : Nat) (t r : Tr)
 |no
section
variable (P : Program) (ops : Array Oper) (B : Nat → Nat → Bool)
def EVT (Q : Act → World → Prop) : Tr → Pend → Act → World → Prop
 |.nil, _, a, w => Q a w
 |.step i t, p, a, w => st1 P ops B p i (EVT Q t) a w
 |.alt i t r, p, a, w => st1 P ops B p i (EVT Q t) a w ∧ EVT Q r p a w
 |.no, _, _, _ => True
end
mutual
def okTr (ops : Array Oper) (B : Nat → Nat → Bool) : Tr → List Nat → Bool
 |.nil, rem => rem.isEmpty
 |.step i t, rem => rem.contains i && (rem.all fun j => j == i || B j i || indep ops i j) && okTr ops B t (rem.erase i)
 |.alt i t r, rem => rem.contains i && okTr ops B t (rem.erase i) && okAl ops B r rem [i]
 |.no, _ => false
def okAl (ops : Array Oper) (B : Nat → Nat → Bool) : Tr → List Nat → List Nat → Bool
 |.alt i t r, rem, seen => rem.contains i && okTr ops B t (rem.erase i) && okAl ops B r rem (i :: seen)
 |.no, rem, seen => rem.all fun j => seen.contains j || rem.any fun k => B j k
 |.nil, _, _ => false
 |.step _ _, _, _ => false
end
section
variable {P : Program} {ops : Array Oper} {B : Nat → Nat → Bool}
theorem EVT.anti {Q : Act → World → Prop} : ∀ {t : Tr} {p p' : Pend} {a : Act} {w : World}, (∀ x ∈ p', x ∈ p) → EVT P ops B Q t p a w → EVT P ops B Q t p' a w
 |.nil, _, _, _, _, _, h => h
 |.step i t, _, _, _, _, hp, h => st1.anti hp (fun _ _ _ _ hp h => EVT.anti hp h) h
 |.alt i t r, _, _, _, _, hp, h => ⟨st1.anti hp (fun _ _ _ _ hp h => EVT.anti hp h) h.1, EVT.anti hp h.2⟩
 |.no, _, _, _, _, _, _ => trivial
theorem EVT.front {Q : Act → World → Prop} {i : Nat} : ∀ (t : Tr) (rem : List Nat), rem.Nodup → i ∈ rem → (∀ j ∈ rem, B i j = false) →
  (okTr ops B t rem = true → ∃ t', okTr ops B t' (rem.erase i) = true ∧ ∀ p a w, EVT P ops B Q t p a w → st1 P ops B p i (EVT P ops B Q t') a w) ∧
  (∀ seen, okAl ops B t rem seen = true → i ∉ seen → ∃ t', okTr ops B t' (rem.erase i) = true ∧ ∀ p a w, EVT P ops B Q t p a w → st1 P ops B p i (EVT P ops B Q t') a w) := by
 intro t
 induction t with
 |nil =>
  intro rem hn hi hm
  refine ⟨fun h => ?_, fun seen h => by simp [okAl] at h⟩
  simp only [okTr, List.isEmpty_iff] at h; subst h; cases hi
 |no =>
  intro rem hn hi hm
  refine ⟨fun h => by simp [okTr] at h, fun seen h hs => ?_⟩
  simp only [okAl, List.all_eq_true, Bool.or_eq_true, List.any_eq_true] at h
  rcases h i hi with h1 | ⟨k, hk, hb⟩
  ·exact absurd (by simpa using h1) hs
  ·rw [hm k hk] at hb; cases hb
 |step j t ih =>
  intro rem hn hi hm
  refine ⟨fun h => ?_, fun seen h => by simp [okAl] at h⟩
  simp only [okTr, Bool.and_eq_true, List.all_eq_true, Bool.or_eq_true, beq_iff_eq] at h
  obtain ⟨⟨h1, h2⟩, h3⟩ := h
  by_cases hji : j = i
  ·subst hji; exact ⟨t, h3, fun p a w h => h⟩
  ·obtain ⟨t', h4, h5⟩ := (ih (rem.erase j) (hn.erase j) ((List.mem_erase_of_ne (Ne.symm hji)).2 hi) (fun k hk => hm k (List.mem_of_mem_erase hk))).1 h3
   have hjr : j ∈ rem := by simpa using h1
   have hBij := hm j hjr
   have hind : indep ops j i = true := by
    rcases h2 i hi with (h | h) | h
    ·exact absurd h.symm hji
    ·rw [hBij] at h; cases h
    ·exact h
   refine ⟨.step j t', ?_, fun p a w h => ?_⟩
   ·simp only [okTr, Bool.and_eq_true, List.all_eq_true, Bool.or_eq_true, beq_iff_eq]
    refine ⟨⟨by simpa using (List.mem_erase_of_ne hji).2 hjr, fun k hk => h2 k (List.mem_of_mem_erase hk)⟩, ?_⟩
    rw [List.erase_comm]; exact h4
   ·have hh : st1 P ops B p j (fun p a w => st1 P ops B p i (EVT P ops B Q t') a w) a w := st1.anti (fun _ h => h) (fun p1 p2 a1 w1 hp h => st1.anti hp (fun _ _ _ _ hp h => EVT.anti hp h) (h5 _ _ _ h)) h
    exact st1.swap hind hBij (fun _ _ _ _ hp h => EVT.anti hp h) hh
 |alt j t r iht ihr =>
  intro rem hn hi hm
  have key : ∀ seen, (rem.contains j && okTr ops B t (rem.erase j) && okAl ops B r rem seen) = true → (i ≠ j → i ∉ seen) → ∃ t', okTr ops B t' (rem.erase i) = true ∧ ∀ p a w, EVT P ops B Q (.alt j t r) p a w → st1 P ops B p i (EVT P ops B Q t') a w := by
   intro seen h hs
   simp only [Bool.and_eq_true] at h
   by_cases hji : j = i
   ·subst hji; exact ⟨t, h.1.2, fun p a w h => h.1⟩
   ·obtain ⟨t', h1, h2⟩ := (ihr rem hn hi hm).2 seen h.2 (hs (Ne.symm hji))
    exact ⟨t', h1, fun p a w h => h2 _ _ _ h.2⟩
  refine ⟨fun h => ?_, fun seen h hs => ?_⟩
  ·exact key [j] (by simpa only [okTr] using h) (fun h => by simpa using h)
  ·exact key (j :: seen) (by simpa only [okAl] using h) (fun h => by simp [h, hs])

theorem EVT.wpAny {ro : Option Nat} {fm : Nat} {md : Region.Mode} {Q : Exit → Act → World → Prop} {T : List Nat} (hmd : ∀ e, Region.binds .any e = true → Region.binds md e = true)
  (he : edgesOk ops B = true) (hT : topoOk md ops T [] = true) (hTn : ∀ i, i < ops.size → i ∈ T) (hTs : ∀ i ∈ T, i < ops.size) :
  ∀ (fuel : Nat) (rem : List Nat) (t : Tr) (listed : Array Bool) (p : Pend) (a : Act) (w : World), rem.length = fuel → rem.Nodup → okTr ops B t rem = true → EVT P ops B (Q .normal) t p a w →
   listed.size = ops.size → (∀ i, i < ops.size → (i ∈ rem ↔ listed.getD i false = false)) → (∀ i ∈ rem, i < ops.size) →
   (∀ i j, i < ops.size → listed.getD i false = true → B i j = true → j < ops.size → listed.getD j false = true) →
   wpAnyIn (wd ro) fm P md ops Q fuel listed a w := by
 intro fuel
 induction fuel with
 |zero =>
  intro rem t listed p a w hl hn hok h hsz hC hrs hd
  obtain rfl : rem = [] := List.eq_nil_of_length_eq_zero hl
  refine ⟨?_, ?_⟩
  ·apply List.eq_nil_iff_forall_not_mem.2
   intro i hi
   obtain ⟨h0, o, ho, _⟩ := mem_ready.1 hi
   have hlt : i < ops.size := (Array.getElem?_eq_some_iff.1 ho).1
   have := (hC i hlt).2 (by simpa [hsz, hlt] using h0)
   cases this
  ·cases t with
   |nil => exact h
   |step => simp [okTr] at hok
   |alt => simp [okTr] at hok
   |no => simp [okTr] at hok
 |succ fuel ih =>
  intro rem t listed p a w hl hn hok h hsz hC hrs hd
  refine ⟨fun hr => ?_, fun i hi => ?_⟩
  ·have hall := Yq8 hT listed (fun _ h => by cases h) (fun j hj => by rw [hsz]; exact hTs j hj) hr
   cases rem with
   |nil => simp at hl
   |cons j C =>
    have hj := hrs j List.mem_cons_self
    have h1 := (hC j hj).1 List.mem_cons_self
    rw [hall j (hTn j hj)] at h1
    cases h1
  ·obtain ⟨h0, o, ho, hall⟩ := mem_ready.1 hi
   have hlt : i < ops.size := (Array.getElem?_eq_some_iff.1 ho).1
   have hif : listed.getD i false = false := by simpa [hsz, hlt] using h0
   have hiC : i ∈ rem := (hC i hlt).2 hif
   have hbefore : ∀ j, B i j = true → j < ops.size → listed.getD j false = true := by
    intro j hb hj
    unfold edgesOk at he
    simp only [List.all_eq_true, List.mem_range] at he
    have h1 := he i hlt
    simp only [ho, Bool.and_eq_true, List.all_eq_true, List.mem_range] at h1
    have h2 := h1.2 j hj
    simp only [hb, Bool.not_true, Bool.false_or] at h2
    obtain ⟨e, hem, h3⟩ := Array.any_eq_true'.1 h2
    simp only [Bool.and_eq_true, Bool.or_eq_true, beq_iff_eq] at h3
    have hon := hall e hem (hmd e h3.1)
    have honlt : e.on < ops.size := by
     rw [← hsz]
     rcases Nat.lt_or_ge e.on listed.size with h' | h'
     ·exact h'
     ·simp [Array.getElem?_eq_none h'] at hon
    rcases h3.2 with rfl | h4
    ·exact hon
    ·exact hd e.on j honlt hon h4 hj
   have hfree : ∀ j ∈ rem, B i j = false := by
    intro j hj
    cases hb : B i j with
    |false => rfl
    |true => have := (hC j (hrs j hj)).1 hj; rw [hbefore j hb (hrs j hj)] at this; cases this
   obtain ⟨t', hok', hf⟩ := (EVT.front (P := P) (Q := Q .normal) t rem hn hiC hfree).1 hok
   refine wpOpIn_mono ?_ (st1.wpOp (hf _ _ _ h))
   rintro a' w' ⟨p', h'⟩
   refine ih (rem.erase i) t' _ p' a' w' ?_ (hn.erase i) hok' h' ?_ ?_ ?_ ?_
   ·rw [List.length_erase_of_mem hiC]; omega
   ·simpa using hsz
   ·intro k hk
    by_cases hik : i = k
    ·subst hik
     have hnot : i ∉ rem.erase i := fun h => (hn.mem_erase_iff.1 h).1 rfl
     simp [hnot, hsz, hk]
    ·rw [getD_set_ne false hik, ← hC k hk]
     exact List.mem_erase_of_ne (Ne.symm hik)
   ·exact fun k hk => hrs k (List.mem_of_mem_erase hk)
   ·intro k j hk hkl hb hj
    by_cases hik : i = k
    ·subst hik; exact getD_set_true (hbefore j hb hj)
    ·rw [getD_set_ne false hik] at hkl
     exact getD_set_true (hd k j hk hkl hb hj)

def regionOkM (ops : Array Oper) (B : Nat → Nat → Bool) (t : Tr) (gc : List Nat) : Bool :=
 okTr ops B t (List.range ops.size) && allIn ops.size gc && edgesOk ops B && topoOk .any ops gc [] && topoOk .text ops (List.range ops.size) [] && topoOk .gc ops gc []
theorem Yw5 {ro : Option Nat} {fm : Nat} {Q : Exit → Act → World → Prop} {id : Nat} {t : Tr} {gc : List Nat} {a : Act} {w : World} (hok : regionOkM ops B t gc = true) (h : EVT P ops B (Q .normal) t [] a { w with drawn := w.drawn + 1 }) : (Code.region id ops true).wpIn (wd ro) fm P Q a w := by
 unfold regionOkM at hok
 simp only [Bool.and_eq_true] at hok
 obtain ⟨⟨⟨⟨⟨h1, h2⟩, h3⟩, h5⟩, h6⟩, h7⟩ := hok
 obtain ⟨g1, g2, g3, g4⟩ := Yo2 h2
 have main : ∀ (md : Region.Mode) (T : List Nat), (∀ e, Region.binds .any e = true → Region.binds md e = true) → topoOk md ops T [] = true → (∀ i, i < ops.size → i ∈ T) → (∀ i ∈ T, i < ops.size) →
   wpAnyIn (wd ro) fm P md ops Q ops.size (Array.replicate ops.size false) a { w with drawn := w.drawn + 1 } := fun md T hmd hT hT1 hT2 =>
  EVT.wpAny hmd h3 hT hT1 hT2 ops.size (List.range ops.size) t _ [] a _ (by simp) List.nodup_range h1 h (by simp)
   (fun i hi => by simp [hi]) (fun i hi => List.mem_range.1 hi) (fun i j hi hl => by simp [hi] at hl)
 refine wpIn_region_draw fun t => ?_
 unfold Region.schedule
 split
 ·exact wpAnyIn_sound ops.size t _ a _ (main .any gc (fun _ h => h) h5 g2 g4)
 ·split
  ·exact wpAnyIn_sound ops.size _ _ a _ (main .text (List.range ops.size) (fun e h => by revert h; unfold Region.binds; cases e.ground <;> simp) h6 (fun i hi => List.mem_range.2 hi) (fun i hi => List.mem_range.1 hi))
  ·exact wpAnyIn_sound ops.size _ _ a _ (main .gc gc (fun e h => by revert h; unfold Region.binds; cases e.ground <;> simp) h7 g2 g4)
end
def stepE (P : Program) (n : Nat) (ops : Array Oper) (B : Nat → Nat → Bool) (sp : List Nat) (i : Nat) (pd : List (Nat × List Ft)) (E : Env) (K' : List (Nat × List Ft) → Env → K) : K :=
 onSome ops[i]? fun o => gd (okOper n E o) (onSome (wantE E ops o) fun wa => match wa with
  |false => K' pd (E.put o.dst undef)
  |true => match clsOf o with
   |.pure => pureK P o E.rho fun v => splitK (sp.contains i) v fun v => K' pd (E.put o.dst v)
   |.read => readK P o E.rho fun fs v => K' ((i, fs) :: pd) (E.put o.dst v)
   |.alloc => allocK P o E.rho fun v => K' pd (E.put o.dst v)
   |.eff => effK P o E.rho fun v => chk (pends B i pd) fun _ => K' pd (E.put o.dst v))
def andK (a b : K) : K := fun w => a w ∧ b w
def rgnT (P : Program) (n : Nat) (ops : Array Oper) (B : Nat → Nat → Bool) (sp : List Nat) : Tr → List (Nat × List Ft) → Env → (Env → K) → K
 |.nil, _, E, k => k E
 |.step i t, pd, E, k => stepE P n ops B sp i pd E fun pd E => rgnT P n ops B sp t pd E k
 |.alt i t r, pd, E, k => andK (stepE P n ops B sp i pd E fun pd E => rgnT P n ops B sp t pd E k) (rgnT P n ops B sp r pd E k)
 |.no, _, _, _ => fun _ => True
section
variable {P : Program} {n : Nat} {ops : Array Oper} {B : Nat → Nat → Bool} {sp : List Nat}
theorem Yw6 {a0 : Act} {K' : List (Nat × List Ft) → Env → K} {KK : Pend → Act → World → Prop} {i : Nat} {pd : List (Nat × List Ft)} {E : Env} {p : Pend} {a : Act} {w : World}
  (ih : ∀ (pd : List (Nat × List Ft)) (E : Env) (p : Pend) (a : Act) (w : World), K' pd E w → Agree D n E a → Fr (dstsL ops.toList) a0 a → PdOk P p pd → KK p a w)
  (h : stepE P n ops B sp i pd E K' w) (ha : Agree D n E a) (hfr : Fr (dstsL ops.toList) a0 a) (hp : PdOk P p pd) : st1 P ops B p i KK a w := by
 unfold stepE at h
 obtain ⟨o, ho, h⟩ := optK h
 obtain ⟨hok, h⟩ := Yb2 h
 obtain ⟨wa, hwa, h⟩ := optK h
 have hw := ha.want hwa
 have hd := okOper.dst hok
 have hfp : ∀ v, Fr (dstsL ops.toList) a0 (a.put o.dst v) := fun v => hfr.put fun d hd => Yws (by simpa using Array.mem_of_getElem? ho) hd
 refine ⟨o, ho, ?_⟩
 cases wa with
 |false => exact .inl ⟨hw, ih _ _ _ _ _ h (ha.put hd) (hfp _) hp⟩
 |true =>
  refine .inr ⟨hw, ?_⟩
  cases hc : clsOf o with
  |pure =>
   simp only [hc] at h
   have he := ha.exec hok (notsel (by rw [hc]; simp))
   obtain ⟨v, hv, h⟩ := Ywm hc h
   exact .inl ⟨rfl, v, by rw [he]; exact hv, ih _ _ _ _ _ (Yrb h) (ha.put hd) (hfp _) hp⟩
  |read =>
   simp only [hc] at h
   have he := ha.exec hok (notsel (by rw [hc]; simp))
   obtain ⟨v, fs, h, hf, hr⟩ := Ywp h
   refine .inr (.inl ⟨rfl, v, ?_, ih _ _ _ _ _ h (ha.put hd) (hfp _) ?_⟩)
   ·rw [he]; exact fun w' hx => hr w' fun f hm => Ft.holds_ext hx (hf f hm)
   ·intro x hx
    rcases List.mem_cons.1 hx with rfl | hx
    ·exact ⟨fs, List.mem_cons_self, by simp only; rw [he]; exact hr⟩
    ·obtain ⟨gs, hm, hg⟩ := hp x hx
     exact ⟨gs, List.mem_cons_of_mem _ hm, hg⟩
  |alloc =>
   simp only [hc] at h
   have he := ha.exec hok (notsel (by rw [hc]; simp))
   obtain ⟨f, ob, hr, h⟩ := Ytz h
   exact .inr (.inr (.inl ⟨rfl, f, ob, by rw [he]; exact hr, ih _ _ _ _ _ h (ha.put hd) (hfp _) hp⟩))
  |eff =>
   simp only [hc] at h
   have he : execOp a.eval o = execOp E.rho o := by
    by_cases hs : ∀ cs b, o.op ≠ .select cs b
    ·exact ha.exec hok hs
    ·exfalso
     have : ∃ cs b, o.op = .select cs b := Classical.byContradiction fun hn => hs fun cs b e => hn ⟨cs, b, e⟩
     obtain ⟨cs, b, e⟩ := this
     unfold effK at h
     simp only [e] at h
     exact h.elim
   refine .inr (.inr (.inr ⟨rfl, ?_⟩))
   rw [he]
   refine (Yz2 (fun f => rfl) h).mono fun v w' h' => ?_
   obtain ⟨h1, h2⟩ := Yus h'
   refine ⟨fun x hx hb => ?_, ih _ _ _ _ _ h2 (ha.put hd) (hfp _) hp⟩
   obtain ⟨fs, hm, hg⟩ := hp x hx
   exact fun w'' hx' => hg w'' fun f hf => Ft.holds_ext hx' (h1 f (Ywr hm hb f hf))

theorem Vee {Q : Act → World → Prop} {k : Env → K} {a0 : Act} (hk : ∀ E' a' w', Agree D n E' a' → Fr (dstsL ops.toList) a0 a' → k E' w' → Q a' w') :
  ∀ (t : Tr) (pd : List (Nat × List Ft)) (E : Env) (p : Pend) (a : Act) (w : World), rgnT P n ops B sp t pd E k w → Agree D n E a → Fr (dstsL ops.toList) a0 a → PdOk P p pd → EVT P ops B Q t p a w := by
 intro t
 induction t with
 |nil => intro pd E p a w h ha hfr _; exact hk _ _ _ ha hfr h
 |step i t ih => intro pd E p a w h ha hfr hp; exact Yw6 ih h ha hfr hp
 |alt i t r iht ihr => intro pd E p a w h ha hfr hp; exact ⟨Yw6 iht h.1 ha hfr hp, ihr _ _ _ _ _ h.2 ha hfr hp⟩
 |no => intros; trivial
theorem Ys7 {ro : Option Nat} {fm : Nat} {Q : Exit → Act → World → Prop} {k : Env → K} {id : Nat} {t : Tr} {gc : List Nat} {E : Env} {a : Act} {w : World} (ha : Agree D n E a)
  (hk : ∀ E' a' w', Agree D n E' a' → Fr (dstsL ops.toList) a a' → k E' w' → Q .normal a' w') (hok : regionOkM ops B t gc = true) (h : rgnT P n ops B sp t [] E k { w with drawn := w.drawn + 1 }) : (Code.region id ops true).wpIn (wd ro) fm P Q a w :=
 Yw5 hok (Vee hk _ _ _ _ _ _ h ha (Fr.refl _ _) fun _ hx => (List.not_mem_nil hx).elim)
theorem RefK.drawM (sp bits : List Nat) (tr : Tr) (gc : List Nat) {id : Nat} {ops : Array Oper} {E : Env} {t : K} {Q : Exit → Env → K} (hok : regionOkM ops (bB bits) tr gc = true)
  (h : t = tick fun _ => rgnT P n ops (bB bits) sp tr [] E (Q .normal)) : RefK P n (.region id ops true) E t Q :=
 fun _ _ _ _ _ _ ha ht hq => Ys7 ha (fun _ _ _ ha' hf hk => hq _ _ _ _ ha' hf hk) hok (by subst h; exact ht)
end
section
set_option maxRecDepth 100000
abbrev Zcd0 (k : (OA → K)) (x2 : Addr) : K :=
 k (some x2)
abbrev Zcd1 (words : Sl) (k : (OA → K)) (n : Int) : K :=
 tick fun _ =>
 andK
 (Yab words fun x9 =>
 andK
 (mkS Tryz.prog 109 ((words.n : Nat) : Int) ((words.n : Nat) : Int) fun b =>
 andK
 (mkS Tryz.prog 4 n n fun b_1 =>
 mkS Tryz.prog 4 n n fun b_2 =>
 alK (.cells #[words.v, x9.v, .slice (some ⟨b, 0, none⟩) (Int.toNat ((words.n : Nat) : Int)) (Int.toNat ((words.n : Nat) : Int)), .slice (some ⟨b_1, 0, none⟩) (Int.toNat n) (Int.toNat n), .slice (some ⟨b_2, 0, none⟩) (Int.toNat n) (Int.toNat n), .int .i64 0, .int .i64 0, .bool false, .bool false] 165) fun b_3 =>
 Zcd0 k ⟨b_3, 0, none⟩)
 (andK
 (mkS Tryz.prog 4 n n fun b_4 =>
 mkS Tryz.prog 4 n n fun b_5 =>
 alK (.cells #[words.v, x9.v, .slice (some ⟨b, 0, none⟩) (Int.toNat ((words.n : Nat) : Int)) (Int.toNat ((words.n : Nat) : Int)), .slice (some ⟨b_5, 0, none⟩) (Int.toNat n) (Int.toNat n), .slice (some ⟨b_4, 0, none⟩) (Int.toNat n) (Int.toNat n), .int .i64 0, .int .i64 0, .bool false, .bool false] 165) fun b_6 =>
 Zcd0 k ⟨b_6, 0, none⟩)
 ((fun _ => True))))
 (andK
 (mkS Tryz.prog 4 n n fun b_7 =>
 andK
 (mkS Tryz.prog 109 ((words.n : Nat) : Int) ((words.n : Nat) : Int) fun b_8 =>
 mkS Tryz.prog 4 n n fun b_9 =>
 alK (.cells #[words.v, x9.v, .slice (some ⟨b_8, 0, none⟩) (Int.toNat ((words.n : Nat) : Int)) (Int.toNat ((words.n : Nat) : Int)), .slice (some ⟨b_7, 0, none⟩) (Int.toNat n) (Int.toNat n), .slice (some ⟨b_9, 0, none⟩) (Int.toNat n) (Int.toNat n), .int .i64 0, .int .i64 0, .bool false, .bool false] 165) fun b_10 =>
 Zcd0 k ⟨b_10, 0, none⟩)
 (andK
 (mkS Tryz.prog 4 n n fun b_11 =>
 mkS Tryz.prog 109 ((words.n : Nat) : Int) ((words.n : Nat) : Int) fun b_12 =>
 alK (.cells #[words.v, x9.v, .slice (some ⟨b_12, 0, none⟩) (Int.toNat ((words.n : Nat) : Int)) (Int.toNat ((words.n : Nat) : Int)), .slice (some ⟨b_7, 0, none⟩) (Int.toNat n) (Int.toNat n), .slice (some ⟨b_11, 0, none⟩) (Int.toNat n) (Int.toNat n), .int .i64 0, .int .i64 0, .bool false, .bool false] 165) fun b_13 =>
 Zcd0 k ⟨b_13, 0, none⟩)
 ((fun _ => True))))
 (andK
 (mkS Tryz.prog 4 n n fun b_14 =>
 andK
 (mkS Tryz.prog 109 ((words.n : Nat) : Int) ((words.n : Nat) : Int) fun b_15 =>
 mkS Tryz.prog 4 n n fun b_16 =>
 alK (.cells #[words.v, x9.v, .slice (some ⟨b_15, 0, none⟩) (Int.toNat ((words.n : Nat) : Int)) (Int.toNat ((words.n : Nat) : Int)), .slice (some ⟨b_16, 0, none⟩) (Int.toNat n) (Int.toNat n), .slice (some ⟨b_14, 0, none⟩) (Int.toNat n) (Int.toNat n), .int .i64 0, .int .i64 0, .bool false, .bool false] 165) fun b_17 =>
 Zcd0 k ⟨b_17, 0, none⟩)
 (andK
 (mkS Tryz.prog 4 n n fun b_18 =>
 mkS Tryz.prog 109 ((words.n : Nat) : Int) ((words.n : Nat) : Int) fun b_19 =>
 alK (.cells #[words.v, x9.v, .slice (some ⟨b_19, 0, none⟩) (Int.toNat ((words.n : Nat) : Int)) (Int.toNat ((words.n : Nat) : Int)), .slice (some ⟨b_18, 0, none⟩) (Int.toNat n) (Int.toNat n), .slice (some ⟨b_14, 0, none⟩) (Int.toNat n) (Int.toNat n), .int .i64 0, .int .i64 0, .bool false, .bool false] 165) fun b_20 =>
 Zcd0 k ⟨b_20, 0, none⟩)
 ((fun _ => True))))
 ((fun _ => True)))))
 (andK
 (mkS Tryz.prog 109 ((words.n : Nat) : Int) ((words.n : Nat) : Int) fun b_21 =>
 andK
 (Yab words fun x9_1 =>
 andK
 (mkS Tryz.prog 4 n n fun b_22 =>
 mkS Tryz.prog 4 n n fun b_23 =>
 alK (.cells #[words.v, x9_1.v, .slice (some ⟨b_21, 0, none⟩) (Int.toNat ((words.n : Nat) : Int)) (Int.toNat ((words.n : Nat) : Int)), .slice (some ⟨b_22, 0, none⟩) (Int.toNat n) (Int.toNat n), .slice (some ⟨b_23, 0, none⟩) (Int.toNat n) (Int.toNat n), .int .i64 0, .int .i64 0, .bool false, .bool false] 165) fun b_24 =>
 Zcd0 k ⟨b_24, 0, none⟩)
 (andK
 (mkS Tryz.prog 4 n n fun b_25 =>
 mkS Tryz.prog 4 n n fun b_26 =>
 alK (.cells #[words.v, x9_1.v, .slice (some ⟨b_21, 0, none⟩) (Int.toNat ((words.n : Nat) : Int)) (Int.toNat ((words.n : Nat) : Int)), .slice (some ⟨b_26, 0, none⟩) (Int.toNat n) (Int.toNat n), .slice (some ⟨b_25, 0, none⟩) (Int.toNat n) (Int.toNat n), .int .i64 0, .int .i64 0, .bool false, .bool false] 165) fun b_27 =>
 Zcd0 k ⟨b_27, 0, none⟩)
 ((fun _ => True))))
 (andK
 (mkS Tryz.prog 4 n n fun b_28 =>
 andK
 (Yab words fun x9_2 =>
 mkS Tryz.prog 4 n n fun b_29 =>
 alK (.cells #[words.v, x9_2.v, .slice (some ⟨b_21, 0, none⟩) (Int.toNat ((words.n : Nat) : Int)) (Int.toNat ((words.n : Nat) : Int)), .slice (some ⟨b_28, 0, none⟩) (Int.toNat n) (Int.toNat n), .slice (some ⟨b_29, 0, none⟩) (Int.toNat n) (Int.toNat n), .int .i64 0, .int .i64 0, .bool false, .bool false] 165) fun b_30 =>
 Zcd0 k ⟨b_30, 0, none⟩)
 (andK
 (mkS Tryz.prog 4 n n fun b_31 =>
 Yab words fun x9_3 =>
 alK (.cells #[words.v, x9_3.v, .slice (some ⟨b_21, 0, none⟩) (Int.toNat ((words.n : Nat) : Int)) (Int.toNat ((words.n : Nat) : Int)), .slice (some ⟨b_28, 0, none⟩) (Int.toNat n) (Int.toNat n), .slice (some ⟨b_31, 0, none⟩) (Int.toNat n) (Int.toNat n), .int .i64 0, .int .i64 0, .bool false, .bool false] 165) fun b_32 =>
 Zcd0 k ⟨b_32, 0, none⟩)
 ((fun _ => True))))
 (andK
 (mkS Tryz.prog 4 n n fun b_33 =>
 andK
 (Yab words fun x9_4 =>
 mkS Tryz.prog 4 n n fun b_34 =>
 alK (.cells #[words.v, x9_4.v, .slice (some ⟨b_21, 0, none⟩) (Int.toNat ((words.n : Nat) : Int)) (Int.toNat ((words.n : Nat) : Int)), .slice (some ⟨b_34, 0, none⟩) (Int.toNat n) (Int.toNat n), .slice (some ⟨b_33, 0, none⟩) (Int.toNat n) (Int.toNat n), .int .i64 0, .int .i64 0, .bool false, .bool false] 165) fun b_35 =>
 Zcd0 k ⟨b_35, 0, none⟩)
 (andK
 (mkS Tryz.prog 4 n n fun b_36 =>
 Yab words fun x9_5 =>
 alK (.cells #[words.v, x9_5.v, .slice (some ⟨b_21, 0, none⟩) (Int.toNat ((words.n : Nat) : Int)) (Int.toNat ((words.n : Nat) : Int)), .slice (some ⟨b_36, 0, none⟩) (Int.toNat n) (Int.toNat n), .slice (some ⟨b_33, 0, none⟩) (Int.toNat n) (Int.toNat n), .int .i64 0, .int .i64 0, .bool false, .bool false] 165) fun b_37 =>
 Zcd0 k ⟨b_37, 0, none⟩)
 ((fun _ => True))))
 ((fun _ => True)))))
 (andK
 (mkS Tryz.prog 4 n n fun b_38 =>
 andK
 (Yab words fun x9_6 =>
 andK
 (mkS Tryz.prog 109 ((words.n : Nat) : Int) ((words.n : Nat) : Int) fun b_39 =>
 mkS Tryz.prog 4 n n fun b_40 =>
 alK (.cells #[words.v, x9_6.v, .slice (some ⟨b_39, 0, none⟩) (Int.toNat ((words.n : Nat) : Int)) (Int.toNat ((words.n : Nat) : Int)), .slice (some ⟨b_38, 0, none⟩) (Int.toNat n) (Int.toNat n), .slice (some ⟨b_40, 0, none⟩) (Int.toNat n) (Int.toNat n), .int .i64 0, .int .i64 0, .bool false, .bool false] 165) fun b_41 =>
 Zcd0 k ⟨b_41, 0, none⟩)
 (andK
 (mkS Tryz.prog 4 n n fun b_42 =>
 mkS Tryz.prog 109 ((words.n : Nat) : Int) ((words.n : Nat) : Int) fun b_43 =>
 alK (.cells #[words.v, x9_6.v, .slice (some ⟨b_43, 0, none⟩) (Int.toNat ((words.n : Nat) : Int)) (Int.toNat ((words.n : Nat) : Int)), .slice (some ⟨b_38, 0, none⟩) (Int.toNat n) (Int.toNat n), .slice (some ⟨b_42, 0, none⟩) (Int.toNat n) (Int.toNat n), .int .i64 0, .int .i64 0, .bool false, .bool false] 165) fun b_44 =>
 Zcd0 k ⟨b_44, 0, none⟩)
 ((fun _ => True))))
 (andK
 (mkS Tryz.prog 109 ((words.n : Nat) : Int) ((words.n : Nat) : Int) fun b_45 =>
 andK
 (Yab words fun x9_7 =>
 mkS Tryz.prog 4 n n fun b_46 =>
 alK (.cells #[words.v, x9_7.v, .slice (some ⟨b_45, 0, none⟩) (Int.toNat ((words.n : Nat) : Int)) (Int.toNat ((words.n : Nat) : Int)), .slice (some ⟨b_38, 0, none⟩) (Int.toNat n) (Int.toNat n), .slice (some ⟨b_46, 0, none⟩) (Int.toNat n) (Int.toNat n), .int .i64 0, .int .i64 0, .bool false, .bool false] 165) fun b_47 =>
 Zcd0 k ⟨b_47, 0, none⟩)
 (andK
 (mkS Tryz.prog 4 n n fun b_48 =>
 Yab words fun x9_8 =>
 alK (.cells #[words.v, x9_8.v, .slice (some ⟨b_45, 0, none⟩) (Int.toNat ((words.n : Nat) : Int)) (Int.toNat ((words.n : Nat) : Int)), .slice (some ⟨b_38, 0, none⟩) (Int.toNat n) (Int.toNat n), .slice (some ⟨b_48, 0, none⟩) (Int.toNat n) (Int.toNat n), .int .i64 0, .int .i64 0, .bool false, .bool false] 165) fun b_49 =>
 Zcd0 k ⟨b_49, 0, none⟩)
 ((fun _ => True))))
 (andK
 (mkS Tryz.prog 4 n n fun b_50 =>
 andK
 (Yab words fun x9_9 =>
 mkS Tryz.prog 109 ((words.n : Nat) : Int) ((words.n : Nat) : Int) fun b_51 =>
 alK (.cells #[words.v, x9_9.v, .slice (some ⟨b_51, 0, none⟩) (Int.toNat ((words.n : Nat) : Int)) (Int.toNat ((words.n : Nat) : Int)), .slice (some ⟨b_38, 0, none⟩) (Int.toNat n) (Int.toNat n), .slice (some ⟨b_50, 0, none⟩) (Int.toNat n) (Int.toNat n), .int .i64 0, .int .i64 0, .bool false, .bool false] 165) fun b_52 =>
 Zcd0 k ⟨b_52, 0, none⟩)
 (andK
 (mkS Tryz.prog 109 ((words.n : Nat) : Int) ((words.n : Nat) : Int) fun b_53 =>
 Yab words fun x9_10 =>
 alK (.cells #[words.v, x9_10.v, .slice (some ⟨b_53, 0, none⟩) (Int.toNat ((words.n : Nat) : Int)) (Int.toNat ((words.n : Nat) : Int)), .slice (some ⟨b_38, 0, none⟩) (Int.toNat n) (Int.toNat n), .slice (some ⟨b_50, 0, none⟩) (Int.toNat n) (Int.toNat n), .int .i64 0, .int .i64 0, .bool false, .bool false] 165) fun b_54 =>
 Zcd0 k ⟨b_54, 0, none⟩)
 ((fun _ => True))))
 ((fun _ => True)))))
 (andK
 (mkS Tryz.prog 4 n n fun b_55 =>
 andK
 (Yab words fun x9_11 =>
 andK
 (mkS Tryz.prog 109 ((words.n : Nat) : Int) ((words.n : Nat) : Int) fun b_56 =>
 mkS Tryz.prog 4 n n fun b_57 =>
 alK (.cells #[words.v, x9_11.v, .slice (some ⟨b_56, 0, none⟩) (Int.toNat ((words.n : Nat) : Int)) (Int.toNat ((words.n : Nat) : Int)), .slice (some ⟨b_57, 0, none⟩) (Int.toNat n) (Int.toNat n), .slice (some ⟨b_55, 0, none⟩) (Int.toNat n) (Int.toNat n), .int .i64 0, .int .i64 0, .bool false, .bool false] 165) fun b_58 =>
 Zcd0 k ⟨b_58, 0, none⟩)
 (andK
 (mkS Tryz.prog 4 n n fun b_59 =>
 mkS Tryz.prog 109 ((words.n : Nat) : Int) ((words.n : Nat) : Int) fun b_60 =>
 alK (.cells #[words.v, x9_11.v, .slice (some ⟨b_60, 0, none⟩) (Int.toNat ((words.n : Nat) : Int)) (Int.toNat ((words.n : Nat) : Int)), .slice (some ⟨b_59, 0, none⟩) (Int.toNat n) (Int.toNat n), .slice (some ⟨b_55, 0, none⟩) (Int.toNat n) (Int.toNat n), .int .i64 0, .int .i64 0, .bool false, .bool false] 165) fun b_61 =>
 Zcd0 k ⟨b_61, 0, none⟩)
 ((fun _ => True))))
 (andK
 (mkS Tryz.prog 109 ((words.n : Nat) : Int) ((words.n : Nat) : Int) fun b_62 =>
 andK
 (Yab words fun x9_12 =>
 mkS Tryz.prog 4 n n fun b_63 =>
 alK (.cells #[words.v, x9_12.v, .slice (some ⟨b_62, 0, none⟩) (Int.toNat ((words.n : Nat) : Int)) (Int.toNat ((words.n : Nat) : Int)), .slice (some ⟨b_63, 0, none⟩) (Int.toNat n) (Int.toNat n), .slice (some ⟨b_55, 0, none⟩) (Int.toNat n) (Int.toNat n), .int .i64 0, .int .i64 0, .bool false, .bool false] 165) fun b_64 =>
 Zcd0 k ⟨b_64, 0, none⟩)
 (andK
 (mkS Tryz.prog 4 n n fun b_65 =>
 Yab words fun x9_13 =>
 alK (.cells #[words.v, x9_13.v, .slice (some ⟨b_62, 0, none⟩) (Int.toNat ((words.n : Nat) : Int)) (Int.toNat ((words.n : Nat) : Int)), .slice (some ⟨b_65, 0, none⟩) (Int.toNat n) (Int.toNat n), .slice (some ⟨b_55, 0, none⟩) (Int.toNat n) (Int.toNat n), .int .i64 0, .int .i64 0, .bool false, .bool false] 165) fun b_66 =>
 Zcd0 k ⟨b_66, 0, none⟩)
 ((fun _ => True))))
 (andK
 (mkS Tryz.prog 4 n n fun b_67 =>
 andK
 (Yab words fun x9_14 =>
 mkS Tryz.prog 109 ((words.n : Nat) : Int) ((words.n : Nat) : Int) fun b_68 =>
 alK (.cells #[words.v, x9_14.v, .slice (some ⟨b_68, 0, none⟩) (Int.toNat ((words.n : Nat) : Int)) (Int.toNat ((words.n : Nat) : Int)), .slice (some ⟨b_67, 0, none⟩) (Int.toNat n) (Int.toNat n), .slice (some ⟨b_55, 0, none⟩) (Int.toNat n) (Int.toNat n), .int .i64 0, .int .i64 0, .bool false, .bool false] 165) fun b_69 =>
 Zcd0 k ⟨b_69, 0, none⟩)
 (andK
 (mkS Tryz.prog 109 ((words.n : Nat) : Int) ((words.n : Nat) : Int) fun b_70 =>
 Yab words fun x9_15 =>
 alK (.cells #[words.v, x9_15.v, .slice (some ⟨b_70, 0, none⟩) (Int.toNat ((words.n : Nat) : Int)) (Int.toNat ((words.n : Nat) : Int)), .slice (some ⟨b_67, 0, none⟩) (Int.toNat n) (Int.toNat n), .slice (some ⟨b_55, 0, none⟩) (Int.toNat n) (Int.toNat n), .int .i64 0, .int .i64 0, .bool false, .bool false] 165) fun b_71 =>
 Zcd0 k ⟨b_71, 0, none⟩)
 ((fun _ => True))))
 ((fun _ => True)))))
 ((fun _ => True)))))
abbrev Yz9 (words : Sl) : M OA := fun k =>
 Zcd1 words k (IntKind.wrap .i64 (Int.tdiv ((words.n : Nat) : Int) 8))
theorem Yy9 (words : Sl) (k : OA → K) (w : World) (h_ : Yz9 words k w) : Yo8 words k w :=
 Yae (P := Tryz.prog) Tryz.func176 rfl (by kernel_rfl)
 (Qs [] [0] (fun z_ => Zcd1 words k (IntKind.wrap .i64 (Int.tdiv ((words.n : Nat) : Int) 8)))
 Qz
 (fun _ => Qs [(3, .int .i64)] [0] (fun z_ => Zcd1 words k z_.1)
 Qz
 (fun (n, _) => Qs [(2, .addr)] [] (fun z_ => Zcd0 k z_.1)
 (RefK.drawM [] [0, 0, 2, 0, 8, 24, 0, 64, 0, 256, 1023, 2047, 4095] (.step 0 (.step 1 (.step 3 (.step 4 (.step 6 (.step 8 (.alt 2 (.alt 5 (.alt 7 (.step 9 (.step 10 (.step 11 (.step 12 .nil)))) (.alt 9 (.step 7 (.step 10 (.step 11 (.step 12 .nil)))) .no)) (.alt 7 (.alt 5 (.step 9 (.step 10 (.step 11 (.step 12 .nil)))) (.alt 9 (.step 5 (.step 10 (.step 11 (.step 12 .nil)))) .no)) (.alt 9 (.alt 5 (.step 7 (.step 10 (.step 11 (.step 12 .nil)))) (.alt 7 (.step 5 (.step 10 (.step 11 (.step 12 .nil)))) .no)) .no))) (.alt 5 (.alt 2 (.alt 7 (.step 9 (.step 10 (.step 11 (.step 12 .nil)))) (.alt 9 (.step 7 (.step 10 (.step 11 (.step 12 .nil)))) .no)) (.alt 7 (.alt 2 (.step 9 (.step 10 (.step 11 (.step 12 .nil)))) (.alt 9 (.step 2 (.step 10 (.step 11 (.step 12 .nil)))) .no)) (.alt 9 (.alt 2 (.step 7 (.step 10 (.step 11 (.step 12 .nil)))) (.alt 7 (.step 2 (.step 10 (.step 11 (.step 12 .nil)))) .no)) .no))) (.alt 7 (.alt 2 (.alt 5 (.step 9 (.step 10 (.step 11 (.step 12 .nil)))) (.alt 9 (.step 5 (.step 10 (.step 11 (.step 12 .nil)))) .no)) (.alt 5 (.alt 2 (.step 9 (.step 10 (.step 11 (.step 12 .nil)))) (.alt 9 (.step 2 (.step 10 (.step 11 (.step 12 .nil)))) .no)) (.alt 9 (.alt 2 (.step 5 (.step 10 (.step 11 (.step 12 .nil)))) (.alt 5 (.step 2 (.step 10 (.step 11 (.step 12 .nil)))) .no)) .no))) (.alt 9 (.alt 2 (.alt 5 (.step 7 (.step 10 (.step 11 (.step 12 .nil)))) (.alt 7 (.step 5 (.step 10 (.step 11 (.step 12 .nil)))) .no)) (.alt 5 (.alt 2 (.step 7 (.step 10 (.step 11 (.step 12 .nil)))) (.alt 7 (.step 2 (.step 10 (.step 11 (.step 12 .nil)))) .no)) (.alt 7 (.alt 2 (.step 5 (.step 10 (.step 11 (.step 12 .nil)))) (.alt 5 (.step 2 (.step 10 (.step 11 (.step 12 .nil)))) .no)) .no))) .no)))))))))) [0, 1, 2, 3, 4, 5, 6, 7, 8, 9, 10, 11, 12] (by kernel_rfl) (by kernel_rfl))
 (fun (x2, _) => Qr)))) h_
end
structure Dv where
 lasting : List Int
 cache : List Int
 flushed : List Int
 dirty : List Bool
 pending : List Bool
 steps : Int
 fuse : Int
 armed : Bool
 dead : Bool
structure Dv.Ok (v : Dv) (n : Nat) : Prop where
 big : n ≤ 2 ^ 32
 l1 : v.lasting.length = 8 * n
 l2 : v.cache.length = 8 * n
 l3 : v.flushed.length = 8 * n
 l4 : v.dirty.length = n
 l5 : v.pending.length = n
abbrev Q5 := Sl × Sl × Sl × Sl × Sl
def devC (v : Dv) (q : Q5) : Obj := .cells [q.1.v, q.2.1.v, q.2.2.1.v, q.2.2.2.1.v, q.2.2.2.2.v, .int .i64 v.steps, .int .i64 v.fuse, .bool v.armed, .bool v.dead].toArray 165
def DevQ (d : Nat) (v : Dv) (q : Q5) : SL :=
 vec 109 1 q.1 (wds v.lasting) * vec 109 1 q.2.1 (wds v.cache) * vec 109 1 q.2.2.1 (wds v.flushed) * vec 4 1 q.2.2.2.1 (bls v.dirty) * vec 4 1 q.2.2.2.2 (bls v.pending) * pt d (devC v q)
def Dev (d : Nat) (v : Dv) : SL := ex (DevQ d v)
def da (d : Nat) : Option Addr := some ⟨d, 0, none⟩
section
variable {B : World} {R : SL} {t : K}
theorem Ygn {d : Nat} {v : Dv} (h : ∀ q, T B (R * vec 109 1 q.1 (wds v.lasting) * vec 109 1 q.2.1 (wds v.cache) * vec 109 1 q.2.2.1 (wds v.flushed) * vec 4 1 q.2.2.2.1 (bls v.dirty) * vec 4 1 q.2.2.2.2 (bls v.pending) * pt d (devC v q)) t) : T B (R * Dev d v) t := by
 refine Ywt fun q => T.perm ?_ (h q)
 unfold DevQ; simp only [Yad]
theorem Ycb {d : Nat} {v : Dv} (q : Q5) (h : T B (R * Dev d v) t) : T B (R * vec 109 1 q.1 (wds v.lasting) * vec 109 1 q.2.1 (wds v.cache) * vec 109 1 q.2.2.1 (wds v.flushed) * vec 4 1 q.2.2.2.1 (bls v.dirty) * vec 4 1 q.2.2.2.2 (bls v.pending) * pt d (devC v q)) t := by
 refine T.perm ?_ (Yjt q h)
 unfold DevQ; simp only [Yad]
def getI (l : List Int) (a : Int) : Int := if a < 0 then 0 else l.getD a.toNat 0
theorem Vcq {d : Nat} {v : Dv} {k : Int → K} (hk : T B (R * Dev d v) (k v.cache.length)) : T B (R * Dev d v) (Yat (da d) k) := by
 refine Yaq (Ypg _ k) ?_
 unfold da
 refine Ygn fun q => ?_
 unfold devC
 (repeat (first | with_reducible refine Yam ?_ | ((with_reducible apply Yaz); (focus rfl); (focus exact hasA); (focus rfl))))
 refine Yc0 (E := 109) (sz := 1) (s := q.2.1) (vs := wds v.cache) (.init (.init (.init (.init .last)))) fun hn => ?_
 rw [Yby, Nat.mul_one] at hn
 rw [hn]
 exact Ycb q hk
theorem Vcr {d : Nat} {v : Dv} {a : Int} {k : Int → K} (hk : T B (R * Dev d v) (k (getI v.cache a))) : T B (R * Dev d v) (Ybw (da d) a k) := by
 refine Yaq (Ypf _ a k) ?_
 unfold da getI at *
 (repeat' (first | with_reducible refine Yam ?_ | with_reducible refine Yal ?_ | with_reducible refine Yai (fun _ => ?_) (fun _ => ?_)))
 ·rename_i h
  rw [if_pos h] at hk; exact hk
 ·rename_i h
  rw [if_neg h] at hk
  refine Ygn fun q => ?_
  unfold devC
  (repeat (((with_reducible apply Yaz); (focus rfl); (focus exact hasA); (focus rfl))))
  refine Yc0 (E := 109) (sz := 1) (s := q.2.1) (vs := wds v.cache) (.init (.init (.init (.init .last)))) fun hn => ?_
  rw [Yby, Nat.mul_one] at hn
  (repeat' (first | with_reducible refine Yam ?_ | ((with_reducible apply Yaz); (focus rfl); (focus exact hasA); (focus rfl)) | with_reducible refine Yai (fun _ => ?_) (fun _ => ?_)))
  ·rename_i h2
   rw [List.getD_eq_getElem?_getD, List.getElem?_eq_none (by omega)] at hk
   exact Ycb q hk
  ·rename_i h2
   have hlt : a.toNat < v.cache.length := by omega
   refine Yej (Rd.vec (E := 109) (s := q.2.1) (vs := wds v.cache) (.init (.init (.init (.init .last))))) (by omega) (Yt5 hlt) ?_
   rw [List.getD_eq_getElem?_getD, List.getElem?_eq_getElem hlt] at hk
   exact Ycb q hk
def Dv.stops (v : Dv) : Bool := v.dead || (v.armed && v.fuse == 0)
def Dv.stepV (v : Dv) : Dv := if v.stops then { v with dead := true } else { v with fuse := IntKind.wrap .i64 (v.fuse - 1), steps := IntKind.wrap .i64 (v.steps + 1) }
theorem Yph {d : Nat} {v : Dv} {k : Bool → K} (hk : T B (R * Dev d v.stepV) (k (!v.stops))) : T B (R * Dev d v) (Yc5 (da d) k) := by
 refine Yaq (Yn5 _ k) ?_
 unfold da
 refine Ygn fun q => ?_
 unfold devC
 obtain ⟨l1, l2, l3, l4, l5, st, fu, ar, de⟩ := v
 cases de <;> cases ar <;> simp only [Dv.stops, Dv.stepV, Bool.false_or, Bool.true_or, Bool.false_and, Bool.true_and, if_true, Bool.not_true, Bool.not_false, Bool.false_eq_true, if_false] at hk
 ·(repeat' (first | with_reducible refine Yam ?_ | with_reducible refine Yau ?_ | ((with_reducible apply Yaf); (focus rfl); (focus exact hasA); (focus rfl)) | ((with_reducible apply Ynv); (focus rfl); (focus exact hasA); (focus rfl)) | ((with_reducible apply Ybc); (focus rfl); (focus exact updA); (focus simp); simp only [List.set, Nat.zero_add, Nat.reduceAdd])))
  exact Ycb (v := ⟨l1, l2, l3, l4, l5, IntKind.wrap .i64 (st + 1), IntKind.wrap .i64 (fu - 1), false, false⟩) q hk
 ·(repeat' (first | with_reducible refine Yam ?_ | with_reducible refine Yal ?_ | with_reducible refine Yau ?_ | ((with_reducible apply Yaf); (focus rfl); (focus exact hasA); (focus rfl)) | ((with_reducible apply Ynv); (focus rfl); (focus exact hasA); (focus rfl)) | ((with_reducible apply Ybc); (focus rfl); (focus exact updA); (focus simp); simp only [List.set, Nat.zero_add, Nat.reduceAdd]) | with_reducible refine Ybr (fun _ => ?_) (fun _ => ?_)))
  ·rename_i h0
   simp only at h0
   subst h0
   exact Ycb (v := ⟨l1, l2, l3, l4, l5, st, 0, true, true⟩) q hk
  ·rename_i h0
   simp only [ne_eq] at h0
   have : (fu == 0) = false := by simpa using h0
   rw [this] at hk
   exact Ycb (v := ⟨l1, l2, l3, l4, l5, IntKind.wrap .i64 (st + 1), IntKind.wrap .i64 (fu - 1), true, false⟩) q hk
 ·(repeat' (first | with_reducible refine Yam ?_ | with_reducible refine Yal ?_ | ((with_reducible apply Ynv); (focus rfl); (focus exact hasA); (focus rfl)) | ((with_reducible apply Ybc); (focus rfl); (focus exact updA); (focus simp); simp only [List.set, Nat.zero_add, Nat.reduceAdd])))
  exact Ycb (v := ⟨l1, l2, l3, l4, l5, st, fu, false, true⟩) q hk
 ·(repeat' (first | with_reducible refine Yam ?_ | with_reducible refine Yal ?_ | ((with_reducible apply Ynv); (focus rfl); (focus exact hasA); (focus rfl)) | ((with_reducible apply Ybc); (focus rfl); (focus exact updA); (focus simp); simp only [List.set, Nat.zero_add, Nat.reduceAdd])))
  exact Ycb (v := ⟨l1, l2, l3, l4, l5, st, fu, true, true⟩) q hk
def Dv.storeV (v : Dv) (a w : Int) : Int × Dv :=
 if a < 0 ∨ a ≥ v.cache.length then (2, v) else if v.stops then (3, v.stepV) else (0, { v.stepV with cache := v.cache.set a.toNat w, dirty := v.dirty.set (a / 8).toNat true })
theorem Ylw (v : Dv) : v.stepV.cache = v.cache ∧ v.stepV.dirty = v.dirty ∧ v.stepV.lasting = v.lasting ∧ v.stepV.flushed = v.flushed ∧ v.stepV.pending = v.pending := by
 unfold Dv.stepV; split <;> exact ⟨rfl, rfl, rfl, rfl, rfl⟩
theorem Yza {d n : Nat} {v : Dv} {a w : Int} (ok : v.Ok n) {k : Int → K} (hk : T B (R * Dev d (v.storeV a w).2) (k (v.storeV a w).1)) : T B (R * Dev d v) (Ya5 (da d) a w k) := by
 refine Yaq (Ym1 _ a w k) ?_
 have hb := ok.big
 have h2 := ok.l2
 have h4 := ok.l4
 unfold Dv.storeV at hk
 by_cases hr : a < 0 ∨ a ≥ v.cache.length
 ·rw [if_pos hr] at hk
  (repeat' (first | with_reducible refine Yal ?_ | with_reducible refine Yai (fun _ => ?_) (fun _ => ?_)))
  ·exact hk
  ·unfold da
   refine Ygn fun q => ?_
   unfold devC
   (repeat (first | with_reducible refine Yam ?_ | ((with_reducible apply Yaz); (focus rfl); (focus exact hasA); (focus rfl))))
   refine Yc0 (E := 109) (sz := 1) (s := q.2.1) (vs := wds v.cache) (.init (.init (.init (.init .last)))) fun hn => ?_
   rw [Yby, Nat.mul_one] at hn
   (repeat' (with_reducible refine Yai (fun _ => ?_) (fun _ => ?_)))
   ·exact Ycb q hk
   ·exfalso; omega
 ·rw [if_neg hr] at hk
  (repeat' (first | with_reducible refine Yal ?_ | with_reducible refine Yai (fun _ => ?_) (fun _ => ?_)))
  ·exfalso; omega
  refine Ygn fun q => ?_
  unfold devC
  unfold da
  (repeat (first | with_reducible refine Yam ?_ | ((with_reducible apply Yaz); (focus rfl); (focus exact hasA); (focus rfl))))
  refine Yc0 (E := 109) (sz := 1) (s := q.2.1) (vs := wds v.cache) (.init (.init (.init (.init .last)))) fun hn => ?_
  rw [Yby, Nat.mul_one] at hn
  (repeat' (with_reducible refine Yai (fun _ => ?_) (fun _ => ?_)))
  ·exfalso; omega
  refine Ycb q ?_
  refine Yph (d := d) ?_
  cases hs : v.stops
  ·rw [hs] at hk
   simp only [Bool.not_true, Bool.not_false]
   (repeat (first | with_reducible refine Yam ?_ | with_reducible refine Yau ?_))
   refine Ygn fun q => ?_
   unfold devC
   obtain ⟨e1, e2, e3, e4, e5⟩ := Ylw v
   rw [e1, e2, e3, e4, e5]
   (repeat (((with_reducible apply Yaz); (focus rfl); (focus exact hasA); (focus rfl))))
   refine Ywv (i := a) (E := 109) (s := q.2.1) (vs := wds v.cache) (.init (.init (.init (.init .last)))) (by omega) (by rw [Yby]; omega) ?_
   rw [Vco]
   (repeat (first | with_reducible refine Yam ?_ | ((with_reducible apply Yaz); (focus rfl); (focus exact hasA); (focus rfl))))
   have e8 : Int.tdiv a 8 = a / 8 := Int.tdiv_eq_ediv_of_nonneg (by omega)
   rw [e8, w64 (n := a / 8) (by omega) (by omega)]
   refine Ywv (i := a / 8) (E := 4) (s := q.2.2.2.1) (vs := bls v.dirty) (.init (.init (.init .last))) (by omega) (by rw [Ype]; omega) ?_
   rw [Yu7]
   simp only [Bool.false_eq_true, if_false] at hk
   have hk' := Ycb q hk
   refine T.perm ?_ hk'
   simp only [e3, e4, e5]
   unfold devC
   ac_rfl
  ·rw [hs] at hk
   simp only [Bool.not_true, Bool.not_false]
   (repeat (with_reducible refine Yal ?_))
   exact hk
theorem Ygt {d : Option Addr} {s : Sl} {line : Nat} (h1 : line ≤ 2 ^ 40) (h2 : 8 * line + 8 ≤ s.n) (h3 : s.n ≤ s.c) {k : Sl → K} (hk : T B R (k ⟨cutP s.p (8 * line) s.c 1, 8, s.c - 8 * line⟩)) : T B R (Ybb d s line k) := by
 refine Yaq (Yn6 _ s line k) ?_
 have e1 : IntKind.wrap .i64 ((IntKind.wrap .i64 ((line : Int) + 1)) * 8) = ((8 * line + 8 : Nat) : Int) := by rw [w64 (n := (line : Int) + 1) (by omega) (by omega), w64 (by omega) (by omega)]; omega
 have e2 : IntKind.wrap .i64 ((line : Int) * 8) = ((8 * line : Nat) : Int) := by rw [w64 (by omega) (by omega)]; omega
 (dsimp only [Ykw, Zcc0, Zcc1])
 rw [e1, e2]
 refine Vb3 (by omega) (by omega) ?_
 refine Vb3 (by omega) (by omega) ?_
 rw [Int.toNat_natCast, Int.toNat_natCast, show 8 * line + 8 - 8 * line = 8 by omega]
 exact hk
end
theorem Vgb (l : List Int) (o n : Nat) : wds (cut l o n) = cut (wds l) o n := Vf2 _ _ _ _
theorem Yt6 (l new : List Int) (o : Nat) : wds (splice l o new) = splice (wds l) o (wds new) := Yt1 _ _ _ _
section
variable {B : World} {P R : SL} {t : K}
theorem Yn7 {x : Sl} {vs : List Value} (h : Rd P x 1 vs) (ht : x.n = vs.length → x.n ≤ x.c → T B P t) : T B P t := fun w s => ht (by rw [(h B w s).1, Nat.mul_one]) (by have := (h B w s).2.1; omega) w s
theorem Rd.pieceW {x y : Sl} {l : List Int} {o n : Nat} (h : Rd P x 1 (wds l)) (ho : o + n ≤ l.length) (h1 : y.p = cutP x.p o x.c 1) (h2 : y.n = n) (h3 : y.c = x.c - o) : Rd P y 1 (wds (cut l o n)) := by
 have := Rd.piece (o := o) (n := n) (by omega) h (by rw [Yby]; omega) h1 h2 h3
 rw [Nat.mul_one, Nat.mul_one, ← Vgb] at this
 exact this
def line8 (v : Dv) (l : Nat) : Dv := { v with pending := v.pending.set l true, flushed := splice v.flushed (8 * l) (cut v.cache (8 * l) 8) }
def Dv.flushV (v : Dv) (l : Nat) : Int × Dv := if v.stops then (3, v.stepV) else (0, if v.dirty.getD l false then line8 v.stepV l else v.stepV)
theorem Yzb {d n : Nat} {v : Dv} {l : Nat} (ok : v.Ok n) (hl : l < n) {k : Int → K} (hk : T B (R * Dev d (v.flushV l).2) (k (v.flushV l).1)) : T B (R * Dev d v) (Ye8 (da d) l k) := by
 refine Yaq (Ym2 _ l k) ?_
 have hb := ok.big
 have h2 := ok.l2
 have h3 := ok.l3
 have h4 := ok.l4
 have h5 := ok.l5
 unfold Dv.flushV at hk
 (repeat' (first | with_reducible refine Yal ?_ | with_reducible refine Yai (fun _ => ?_) (fun _ => ?_)))
 ·exfalso; omega
 refine Ygn fun q => ?_
 unfold devC
 unfold da
 (repeat (first | with_reducible refine Yam ?_ | ((with_reducible apply Yaz); (focus rfl); (focus exact hasA); (focus rfl))))
 refine Yc0 (E := 4) (sz := 1) (s := q.2.2.2.1) (vs := bls v.dirty) (.init (.init .last)) fun hn => ?_
 rw [Ype, Nat.mul_one] at hn
 (repeat' (with_reducible refine Yai (fun _ => ?_) (fun _ => ?_)))
 ·exfalso; omega
 refine Ycb q ?_
 refine Yph (d := d) ?_
 cases hs : v.stops
 ·rw [hs] at hk
  simp only [Bool.not_true, Bool.not_false]
  (repeat (first | with_reducible refine Yam ?_ | with_reducible refine Yau ?_))
  refine Ygn fun q => ?_
  unfold devC
  have hs' : ∀ w : Dv, w = v.stepV → w.stepV = w.stepV := fun _ _ => rfl
  obtain ⟨e1, e2, e3, e4, e5⟩ := Ylw v
  generalize v.stepV = w at *
  (repeat (((with_reducible apply Yaz); (focus rfl); (focus exact hasA); (focus rfl))))
  have hld : l < w.dirty.length := by rw [e2]; omega
  refine Vfq (Rd.vec (E := 4) (s := q.2.2.2.1) (vs := bls w.dirty) (.init (.init .last))) (by omega) (by rw [Int.toNat_natCast]; exact Vfr hld) ?_
  simp only [Bool.false_eq_true, if_false] at hk
  rw [← e2, List.getD_eq_getElem?_getD, List.getElem?_eq_getElem hld, Option.getD_some] at hk
  cases hd : w.dirty[l]
  ·rw [hd] at hk
   (repeat (with_reducible refine Yau ?_))
   exact Ycb q hk
  ·rw [hd] at hk
   (repeat (first | with_reducible refine Yam ?_ | with_reducible refine Yal ?_ | ((with_reducible apply Yaz); (focus rfl); (focus exact hasA); (focus rfl))))
   refine Ywv (i := l) (E := 4) (s := q.2.2.2.2) (vs := bls w.pending) (.init .last) (by omega) (by rw [Ype]; rw [e5]; omega) ?_
   rw [Yu7, Int.toNat_natCast]
   (repeat (first | with_reducible refine Yam ?_ | with_reducible refine Yak ?_ | ((with_reducible apply Yaz); (focus rfl); (focus exact hasA); (focus rfl))))
   refine Yn7 (x := q.2.2.1) (Rd.vec (E := 109) (vs := wds w.flushed) (.init (.init (.init .last)))) fun n3 c3 => ?_
   refine Yn7 (x := q.2.1) (Rd.vec (E := 109) (vs := wds w.cache) (.init (.init (.init (.init .last))))) fun n2 c2 => ?_
   rw [Yby] at n2 n3
   rw [e1] at n2
   rw [e4] at n3
   refine Ygt (by omega) (by omega) c3 ?_
   (repeat (first | with_reducible refine Ybe ?_ | ((with_reducible apply Ycm); (focus rfl); (focus exact hasA); (focus rfl))))
   refine Ygt (by omega) (by omega) c2 ?_
   refine Vcd (o := 8 * l) Yp6 (s := q.2.2.1) (vs := wds w.flushed) (.init (.init (.init .last)))
    (Rd.pieceW (l := w.cache) (o := 8 * l) (n := 8) (Rd.vec (E := 109) (s := q.2.1) (.init (.init (.init .last)))) (by rw [e1]; omega) rfl rfl rfl) (Ylv _) rfl rfl (by rw [Yby, e4]; simp only; omega) ?_
   rw [← Yt6]
   refine T.perm ?_ (Ycb q hk)
   simp only [if_true, line8]
   unfold devC
   ac_rfl
 ·rw [hs] at hk
  simp only [Bool.not_true, Bool.not_false]
  (repeat (with_reducible refine Yal ?_))
  exact hk
def fenceL (v : Dv) (l : Nat) : Dv :=
 if v.pending.getD l false then { v with lasting := splice v.lasting (8 * l) (cut v.flushed (8 * l) 8), pending := v.pending.set l false, dirty := v.dirty.set l (!decide (cut (splice v.lasting (8 * l) (cut v.flushed (8 * l) 8)) (8 * l) 8 = cut v.cache (8 * l) 8)) } else v
def fenceN (v : Dv) : Nat → Dv
 |0 => v
 |i + 1 => fenceL (fenceN v i) i
def Dv.fenceV (v : Dv) : Int × Dv := if v.stops then (3, v.stepV) else (0, fenceN v.stepV v.pending.length)
theorem Vcs {v : Dv} {n l : Nat} (ok : v.Ok n) (hl : l < n) : (fenceL v l).Ok n := by
 unfold fenceL
 split
 ·have h1 := ok.l1
  have h3 := ok.l3
  have hc : (cut v.flushed (8 * l) 8).length = 8 := Yd0 (by omega)
  exact ⟨ok.big, by simp only; rw [Yah (by rw [hc]; omega)]; exact ok.l1, ok.l2, ok.l3, by simpa using ok.l4, by simpa using ok.l5⟩
 ·exact ok
theorem Yn8 {v : Dv} {n : Nat} (ok : v.Ok n) : ∀ i, i ≤ n → (fenceN v i).Ok n
 |0, _ => ok
 |i + 1, h => Vcs (Yn8 ok i (by omega)) (by omega)
theorem Vef {v : Dv} {n : Nat} (ok : v.Ok n) : v.stepV.Ok n := by
 obtain ⟨e1, e2, e3, e4, e5⟩ := Ylw v
 exact ⟨ok.big, by rw [e3]; exact ok.l1, by rw [e1]; exact ok.l2, by rw [e4]; exact ok.l3, by rw [e2]; exact ok.l4, by rw [e5]; exact ok.l5⟩
theorem Yzc {d n : Nat} {v : Dv} (ok : v.Ok n) {k : Int → K} (hk : T B (R * Dev d v.fenceV.2) (k v.fenceV.1)) : T B (R * Dev d v) (Ye9 (da d) k) := by
 refine Yaq (Ym3 _ k) ?_
 unfold Dv.fenceV at hk
 have ok' := Vef ok
 have hp5 : v.pending = v.stepV.pending := (Ylw v).2.2.2.2.symm
 refine Yph (d := d) ?_
 cases hs : v.stops
 ·rw [hs] at hk
  simp only [Bool.not_true, Bool.not_false]
  (repeat (with_reducible refine Yau ?_))
  simp only [Bool.false_eq_true, if_false] at hk
  rw [hp5] at hk
  generalize v.stepV = w at *
  unfold da
  refine Ygn fun q => ?_
  unfold devC
  (repeat (first | with_reducible refine Yam ?_ | ((with_reducible apply Yaz); (focus rfl); (focus exact hasA); (focus rfl))))
  refine Yc0 (E := 4) (sz := 1) (s := q.2.2.2.2) (vs := bls w.pending) (.init .last) fun hn => ?_
  rw [Ype, Nat.mul_one] at hn
  have hw5 := ok'.l5
  have hw := ok'.big
  refine Ycz (fun n s => R * DevQ d (fenceN w s.1.toNat) q) (fun m (s : Int × Unit) => ∃ i : Nat, i ≤ n ∧ s.1 = i ∧ m = n - i) n ?_ ⟨0, by omega, rfl, by omega⟩ ?_
  ·show _ = R * DevQ d w q
   unfold DevQ devC; simp only [Yad]
  rintro m ⟨s1, u⟩ c ⟨i, hi, h1, h2⟩ hc
  simp only at h1
  subst h1 h2
  simp only [Int.toNat_natCast]
  have okv := Yn8 ok' i hi
  have hnext : i < n → T B (R * DevQ d (fenceL (fenceN w i) i) q) (c (IntKind.wrap .i64 ((i : Int) + 1), ())) := by
   intro hlt
   have := hc (n - (i + 1)) (IntKind.wrap .i64 ((i : Int) + 1), ()) (by omega) ⟨i + 1, by omega, w64 (by omega) (by omega), rfl⟩
   have e : (IntKind.wrap .i64 ((i : Int) + 1)).toNat = i + 1 := by rw [w64 (by omega) (by omega)]; omega
   simp only [e] at this
   exact this
  clear hc
  unfold fenceL at hnext
  have hend : i = n → T B (R * DevQ d (fenceN w i) q) (k 0) := by
   intro e; subst e; rw [hw5] at hk; exact Yjt q hk
  generalize fenceN w i = v' at *
  have hq : R * DevQ d v' q = R * vec 109 1 q.1 (wds v'.lasting) * vec 109 1 q.2.1 (wds v'.cache) * vec 109 1 q.2.2.1 (wds v'.flushed) * vec 4 1 q.2.2.2.1 (bls v'.dirty) * vec 4 1 q.2.2.2.2 (bls v'.pending) * pt d (devC v' q) := by
   unfold DevQ; simp only [Yad]
  rw [hq] at hend ⊢
  (repeat' (with_reducible refine Yai (fun _ => ?_) (fun _ => ?_)))
  ·rename_i hlt
   have hlt' : i < n := by omega
   have hnx := hnext hlt'
   have o1 := okv.l1; have o2 := okv.l2; have o3 := okv.l3; have o4 := okv.l4; have o5 := okv.l5
   have hip : i < v'.pending.length := by omega
   refine Vfq (Rd.vec (E := 4) (s := q.2.2.2.2) (vs := bls v'.pending) (.init .last)) (by omega) (by rw [Int.toNat_natCast]; exact Vfr hip) ?_
   rw [List.getD_eq_getElem?_getD, List.getElem?_eq_getElem hip, Option.getD_some] at hnx
   cases hpi : v'.pending[i]
   ·rw [hpi] at hnx
    simp only [Bool.false_eq_true, if_false] at hnx
    rw [hq] at hnx
    (repeat (with_reducible refine Yau ?_))
    exact hnx
   ·rw [hpi] at hnx
    simp only [if_true] at hnx
    (repeat (first | with_reducible refine Yam ?_ | with_reducible refine Yak ?_ | with_reducible refine Yal ?_))
    unfold devC
    (repeat (first | with_reducible refine Yam ?_ | ((with_reducible apply Yaz); (focus rfl); (focus exact hasA); (focus rfl))))
    refine Yn7 (x := q.1) (Rd.vec (E := 109) (vs := wds v'.lasting) (.init (.init (.init (.init (.init .last)))))) fun n1 c1 => ?_
    refine Yn7 (x := q.2.2.1) (Rd.vec (E := 109) (vs := wds v'.flushed) (.init (.init (.init .last)))) fun n3 c3 => ?_
    refine Yn7 (x := q.2.1) (Rd.vec (E := 109) (vs := wds v'.cache) (.init (.init (.init (.init .last))))) fun n2 c2 => ?_
    rw [Yby] at n1 n2 n3
    refine Ygt (by omega) (by omega) c1 ?_
    (repeat (first | with_reducible refine Ybe ?_ | ((with_reducible apply Ycm); (focus rfl); (focus exact hasA); (focus rfl))))
    refine Ygt (by omega) (by omega) c3 ?_
    have hcl : (cut v'.flushed (8 * i) 8).length = 8 := Yd0 (by omega)
    refine Vcd (o := 8 * i) Yp6 (s := q.1) (vs := wds v'.lasting) (.init (.init (.init (.init (.init .last)))))
     (Rd.pieceW (l := v'.flushed) (o := 8 * i) (n := 8) (Rd.vec (E := 109) (s := q.2.2.1) (.init (.init (.init .last)))) (by omega) rfl rfl rfl) (Ylv _) rfl rfl (by rw [Yby]; simp only; omega) ?_
    rw [← Yt6]
    generalize hla : splice v'.lasting (8 * i) (cut v'.flushed (8 * i) 8) = la at *
    have hlal : la.length = 8 * n := by rw [← hla, Yah (by rw [hcl]; omega)]; exact o1
    (repeat (first | with_reducible refine Yam ?_ | ((with_reducible apply Yaz); (focus rfl); (focus exact hasA); (focus rfl))))
    refine Ywv (i := i) (E := 4) (s := q.2.2.2.2) (vs := bls v'.pending) (.init (.init .last)) (by omega) (by rw [Ype]; omega) ?_
    rw [Yu7, Int.toNat_natCast]
    (repeat (first | with_reducible refine Yam ?_ | with_reducible refine Yak ?_ | ((with_reducible apply Yaz); (focus rfl); (focus exact hasA); (focus rfl))))
    refine Ygt (by omega) (by omega) c1 ?_
    (repeat (first | with_reducible refine Ybe ?_ | ((with_reducible apply Ycm); (focus rfl); (focus exact hasA); (focus rfl))))
    refine Ygt (by omega) (by omega) c2 ?_
    (repeat (first | with_reducible refine Ybe ?_ | ((with_reducible apply Ycm); (focus rfl); (focus exact hasA); (focus rfl))))
    refine Yy8 (l1 := cut la (8 * i) 8) (l2 := cut v'.cache (8 * i) 8) (by rw [Yd0 (by omega)]; omega)
     (Rd.pieceW (o := 8 * i) (n := 8) (Rd.vec (E := 109) (s := q.1) (.init .last)) (by omega) rfl rfl rfl)
     (Rd.pieceW (o := 8 * i) (n := 8) (Rd.vec (E := 109) (s := q.2.1) (.init (.init (.init (.init (.init .last)))))) (by omega) rfl rfl rfl) ?_
    (repeat (first | with_reducible refine Ybe ?_ | ((with_reducible apply Ycm); (focus rfl); (focus exact hasA); (focus rfl))))
    refine Ywv (i := i) (E := 4) (s := q.2.2.2.1) (vs := bls v'.dirty) (.init (.init (.init .last))) (by omega) (by rw [Ype]; omega) ?_
    rw [Yu7, Int.toNat_natCast]
    refine T.perm ?_ hnx
    unfold DevQ devC
    ac_rfl
  ·rename_i hge
   exact hend (by omega)
 ·rw [hs] at hk
  simp only [Bool.not_true, Bool.not_false]
  (repeat (with_reducible refine Yal ?_))
  exact hk
end
def ln (L : List Int) (l : Nat) : List Int := cut L (8 * l) 8
theorem Yw7 {L new : List Int} {m l n : Nat} (hL : L.length = 8 * n) (hm : m < n) (hn : new.length = 8) : ln (splice L (8 * m) new) l = if l = m then new else ln L l := by
 unfold ln
 apply List.ext_getElem?
 intro j
 by_cases hj : j < 8
 ·rw [Ymn hj]
  unfold splice
  split
  ·rename_i h; subst h
   rw [List.getElem?_append_left (by simp; omega), List.getElem?_append_right (by simp; omega)]
   congr 1; simp; omega
  ·rename_i h
   rw [Ymn hj]
   by_cases hlt : l < m
   ·rw [List.append_assoc, List.getElem?_append_left (by simp; omega), List.getElem?_take_of_lt (by omega)]
   ·rw [List.getElem?_append_right (by simp; omega), List.getElem?_drop]
    congr 1
    simp only [List.length_append, List.length_take, hn, hL]
    omega
 ·have : (cut (splice L (8 * m) new) (8 * l) 8)[j]? = none := List.getElem?_eq_none (by simp [cut]; omega)
  rw [this]
  split
  ·rw [List.getElem?_eq_none (by omega)]
  ·rw [List.getElem?_eq_none (by simp [cut]; omega)]
theorem Ykx {l : List Bool} {i j : Nat} {b : Bool} (h : i < l.length) : (l.set i b).getD j false = if j = i then b else l.getD j false := by
 rw [List.getD_eq_getElem?_getD, List.getElem?_set]
 split
 ·rename_i e; subst e; simp [h]
 ·rename_i e; rw [if_neg (Ne.symm e), List.getD_eq_getElem?_getD]
theorem Yzd {v : Dv} {n : Nat} (ok : v.Ok n) : ∀ i, i ≤ n → (fenceN v i).cache = v.cache ∧ (fenceN v i).flushed = v.flushed ∧ (fenceN v i).armed = v.armed ∧ (fenceN v i).dead = v.dead ∧
  (∀ l, l < n → ln (fenceN v i).lasting l = if l < i ∧ v.pending.getD l false = true then ln v.flushed l else ln v.lasting l) ∧
  (∀ l, l < n → (fenceN v i).pending.getD l false = if l < i then false else v.pending.getD l false) ∧
  (∀ l, l < n → (fenceN v i).dirty.getD l false = if l < i ∧ v.pending.getD l false = true then !decide (ln v.flushed l = ln v.cache l) else v.dirty.getD l false) := by
 intro i
 induction i with
 |zero => intro _; refine ⟨rfl, rfl, rfl, rfl, ?_, ?_, ?_⟩ <;> (intro l _; simp [fenceN])
 |succ i ih =>
  intro hi
  obtain ⟨h1, h2, h3, h4, h5, h6, h7⟩ := ih (by omega)
  have okw := Yn8 ok i (by omega)
  show (fenceL (fenceN v i) i).cache = _ ∧ (fenceL (fenceN v i) i).flushed = _ ∧ (fenceL (fenceN v i) i).armed = _ ∧ (fenceL (fenceN v i) i).dead = _ ∧ (∀ l, l < n → ln (fenceL (fenceN v i) i).lasting l = _) ∧ (∀ l, l < n → (fenceL (fenceN v i) i).pending.getD l false = _) ∧ (∀ l, l < n → (fenceL (fenceN v i) i).dirty.getD l false = _)
  have hpi := h6 i (by omega)
  rw [if_neg (by omega)] at hpi
  generalize fenceN v i = w at *
  unfold fenceL
  rw [hpi]
  have hcl : (cut w.flushed (8 * i) 8).length = 8 := Yd0 (by have := okw.l3; omega)
  cases hp : v.pending.getD i false
  ·simp only [Bool.false_eq_true, if_false]
   refine ⟨h1, h2, h3, h4, fun l hl => ?_, fun l hl => ?_, fun l hl => ?_⟩
   ·rw [h5 l hl]
    by_cases e : l = i
    ·subst e; rw [hp]; simp
    ·simp only [show l < i + 1 ↔ l < i by omega]
   ·rw [h6 l hl]
    by_cases e : l = i
    ·subst e; rw [hp]; simp
    ·simp only [show l < i + 1 ↔ l < i by omega]
   ·rw [h7 l hl]
    by_cases e : l = i
    ·subst e; rw [hp]; simp
    ·simp only [show l < i + 1 ↔ l < i by omega]
  ·simp only [if_true]
   have hs : ∀ l, ln (splice w.lasting (8 * i) (cut w.flushed (8 * i) 8)) l = if l = i then ln v.flushed i else ln w.lasting l := by
    intro l
    rw [Yw7 okw.l1 (by omega) hcl, h2]; rfl
   refine ⟨h1, h2, h3, h4, fun l hl => ?_, fun l hl => ?_, fun l hl => ?_⟩
   ·rw [hs l]
    by_cases e : l = i
    ·subst e; rw [if_pos rfl, if_pos ⟨by omega, hp⟩]
    ·rw [if_neg e, h5 l hl]; simp only [show l < i + 1 ↔ l < i by omega]
   ·rw [Ykx (by rw [okw.l5]; omega)]
    by_cases e : l = i
    ·subst e; rw [if_pos rfl, if_pos (by omega)]
    ·rw [if_neg e, h6 l hl]; simp only [show l < i + 1 ↔ l < i by omega]
   ·rw [Ykx (by rw [okw.l4]; omega)]
    by_cases e : l = i
    ·subst e
     rw [if_pos rfl, if_pos ⟨by omega, hp⟩]
     have := hs l
     rw [if_pos rfl] at this
     show (!decide (ln (splice w.lasting (8 * l) (cut w.flushed (8 * l) 8)) l = ln w.cache l)) = _
     rw [this, h1]
    ·rw [if_neg e, h7 l hl]; simp only [show l < i + 1 ↔ l < i by omega]
/-- a device that goes on, with nothing flushed that was not fenced -/
structure Live (v : Dv) (n : Nat) : Prop where
 ok : v.Ok n
 a : v.armed = false
 de : v.dead = false
 pe : ∀ l, l < n → v.pending.getD l false = false
 cl : ∀ l, l < n → v.dirty.getD l false = false → ln v.lasting l = ln v.cache l
/-- .. lines from one up to another were flushed -/
structure Mid (v0 v : Dv) (n a b : Nat) : Prop where
 ok : v.Ok n
 ar : v.armed = false
 de : v.dead = false
 ca : v.cache = v0.cache
 la : v.lasting = v0.lasting
 di : v.dirty = v0.dirty
 pe : ∀ l, l < n → v.pending.getD l false = (decide (a ≤ l ∧ l < b) && v0.dirty.getD l false)
 fl : ∀ l, l < n → v.pending.getD l false = true → ln v.flushed l = ln v.cache l
theorem Live.mid {v : Dv} {n : Nat} (h : Live v n) (a : Nat) : Mid v v n a a := by
 refine ⟨h.ok, h.a, h.de, rfl, rfl, rfl, fun l hl => ?_, fun l hl hp => ?_⟩
 ·rw [h.pe l hl]
  have : decide (a ≤ l ∧ l < a) = false := decide_eq_false (by omega)
  rw [this]; rfl
 ·rw [h.pe l hl] at hp; cases hp
theorem Yu9 {v : Dv} (h1 : v.armed = false) (h2 : v.dead = false) : v.stops = false ∧ v.stepV = { v with fuse := IntKind.wrap .i64 (v.fuse - 1), steps := IntKind.wrap .i64 (v.steps + 1) } := by
 have : v.stops = false := by unfold Dv.stops; rw [h1, h2]; rfl
 exact ⟨this, by unfold Dv.stepV; rw [this]; rfl⟩
theorem Mid.flush {v0 v : Dv} {n a b : Nat} (h : Mid v0 v n a b) (hb : b < n) (hab : a ≤ b) : (v.flushV b).1 = 0 ∧ Mid v0 (v.flushV b).2 n a (b + 1) := by
 obtain ⟨s1, s2⟩ := Yu9 h.ar h.de
 have hlp : b < v.pending.length := by rw [h.ok.l5]; exact hb
 have hcl : (cut v.cache (8 * b) 8).length = 8 := Yd0 (by rw [h.ok.l2]; omega)
 unfold Dv.flushV
 rw [s1, s2]
 simp only [Bool.false_eq_true, if_false, true_and]
 cases hd : v.dirty.getD b false
 ·simp only [Bool.false_eq_true, if_false]
  refine ⟨⟨h.ok.big, h.ok.l1, h.ok.l2, h.ok.l3, h.ok.l4, h.ok.l5⟩, h.ar, h.de, h.ca, h.la, h.di, fun l hl => ?_, h.fl⟩
  show v.pending.getD l false = _
  rw [h.pe l hl]
  by_cases e : l = b
  ·subst e; rw [← h.di, hd]; try simp
  ·simp only [show (a ≤ l ∧ l < b + 1) ↔ (a ≤ l ∧ l < b) by omega]
 ·simp only [if_true]
  unfold line8
  refine ⟨⟨h.ok.big, h.ok.l1, h.ok.l2, ?_, h.ok.l4, ?_⟩, h.ar, h.de, h.ca, h.la, h.di, fun l hl => ?_, fun l hl => ?_⟩
  ·simp only; rw [Yah (by rw [hcl, h.ok.l3]; omega)]; exact h.ok.l3
  ·simp only [List.length_set]; exact h.ok.l5
  ·simp only
   rw [Ykx hlp]
   by_cases e : l = b
   ·subst e; rw [if_pos rfl, ← h.di, hd]; simp; omega
   ·rw [if_neg e, h.pe l hl]; simp only [show (a ≤ l ∧ l < b + 1) ↔ (a ≤ l ∧ l < b) by omega]
  ·simp only
   rw [Ykx hlp, Yw7 h.ok.l3 hb hcl]
   by_cases e : l = b
   ·subst e; intro _; rw [if_pos rfl]; rfl
   ·rw [if_neg e, if_neg e]; exact h.fl l hl
theorem Mid.fence {v0 v : Dv} {n a b : Nat} (h0 : Live v0 n) (h : Mid v0 v n a b) : v.fenceV.1 = 0 ∧ Live v.fenceV.2 n ∧ v.fenceV.2.cache = v0.cache ∧ ∀ l, l < n → ln v.fenceV.2.lasting l = if a ≤ l ∧ l < b then ln v0.cache l else ln v0.lasting l := by
 obtain ⟨s1, s2⟩ := Yu9 h.ar h.de
 have okw : ({ v with fuse := IntKind.wrap .i64 (v.fuse - 1), steps := IntKind.wrap .i64 (v.steps + 1) } : Dv).Ok n := ⟨h.ok.big, h.ok.l1, h.ok.l2, h.ok.l3, h.ok.l4, h.ok.l5⟩
 unfold Dv.fenceV
 rw [s1, s2, h.ok.l5]
 simp only [Bool.false_eq_true, if_false, true_and]
 obtain ⟨h1, h2, h3, h4, h5, h6, h7⟩ := Yzd okw n (Nat.le_refl _)
 have okf := Yn8 okw n (Nat.le_refl _)
 generalize fenceN { v with fuse := IntKind.wrap .i64 (v.fuse - 1), steps := IntKind.wrap .i64 (v.steps + 1) } n = w at *
 simp only at h1 h2 h3 h4 h5 h6 h7
 have key : ∀ l, l < n → ln w.lasting l = if a ≤ l ∧ l < b then ln v0.cache l else ln v0.lasting l := by
  intro l hl
  rw [h5 l hl]
  have hp := h.pe l hl
  cases hpl : v.pending.getD l false
  ·rw [if_neg (by simp), h.la]
   rw [hpl] at hp
   split
   ·rename_i hin
    refine h0.cl l hl ?_
    have : decide (a ≤ l ∧ l < b) = true := by simpa using hin
    rw [this] at hp; simpa using hp.symm
   ·rfl
  ·rw [if_pos ⟨hl, rfl⟩, h.fl l hl hpl, h.ca]
   rw [hpl] at hp
   have := (Bool.and_eq_true_iff.1 hp.symm).1
   rw [if_pos (by simpa using this)]
 refine ⟨⟨okf, h3.trans h.ar, h4.trans h.de, fun l hl => ?_, fun l hl hd => ?_⟩, h1.trans h.ca, key⟩
 ·rw [h6 l hl, if_pos hl]
 ·rw [key l hl, h1, h.ca]
  have := h7 l hl
  rw [hd] at this
  have hp := h.pe l hl
  split
  ·rfl
  ·rename_i hin
   have hf : decide (a ≤ l ∧ l < b) = false := by simpa using hin
   rw [hf, Bool.false_and] at hp
   rw [hp, if_neg (by simp), h.di] at this
   exact h0.cl l hl this.symm
section
variable {B : World} {P R : SL} {t : K}
theorem Live.storeV {v : Dv} {n : Nat} {a w : Int} (h : Live v n) (h0 : 0 ≤ a) (h1 : a < v.cache.length) : (v.storeV a w).1 = 0 ∧ Live (v.storeV a w).2 n ∧ (v.storeV a w).2.cache = v.cache.set a.toNat w ∧ (v.storeV a w).2.lasting = v.lasting := by
 obtain ⟨s1, s2⟩ := Yu9 h.a h.de
 have hl2 := h.ok.l2
 have hl4 := h.ok.l4
 unfold Dv.storeV
 rw [if_neg (by omega), s1, s2]
 simp only [Bool.false_eq_true, if_false, true_and, and_true]
 refine ⟨⟨h.ok.big, h.ok.l1, ?_, h.ok.l3, ?_, h.ok.l5⟩, h.a, h.de, h.pe, fun l hl hd => ?_⟩
 ·simp only [List.length_set]; exact hl2
 ·simp only [List.length_set]; exact hl4
 ·simp only at hd ⊢
  rw [Ykx (by omega)] at hd
  split at hd
  ·cases hd
  ·rename_i hne
   have := h.cl l hl hd
   rw [this]
   unfold ln cut
   apply List.ext_getElem?
   intro j
   by_cases hj : j < 8
   ·rw [List.getElem?_take_of_lt hj, List.getElem?_take_of_lt hj, List.getElem?_drop, List.getElem?_drop, List.getElem?_set]
    rw [if_neg (by omega)]
   ·rw [List.getElem?_eq_none (by simp; omega), List.getElem?_eq_none (by simp; omega)]
/-- what a live device is: its words now, and those that last -/
def LDev (d n : Nat) (c la : List Int) : SL := ex fun v => Dev d v * pu (Live v n ∧ v.cache = c ∧ v.lasting = la)
theorem Yky {d n : Nat} {c la : List Int} (h : ∀ v, Live v n → v.cache = c → v.lasting = la → T B (R * Dev d v) t) : T B (R * LDev d n c la) t := by
 refine Ywt fun v => ?_
 rw [← Yad]
 exact Yz5 fun hv => h v hv.1 hv.2.1 hv.2.2
theorem Ygu {d n : Nat} {v : Dv} {c la : List Int} (hv : Live v n) (h1 : v.cache = c) (h2 : v.lasting = la) (h : T B (R * LDev d n c la) t) : T B (R * Dev d v) t := by
 refine Ysu (φ := Live v n ∧ v.cache = c ∧ v.lasting = la) ⟨hv, h1, h2⟩ ?_
 rw [Yad]
 exact Yjt v h
theorem Yn9 {d n : Nat} {c la : List Int} {k : Int → K} (hk : c.length = 8 * n → n ≤ 2 ^ 32 → T B (R * LDev d n c la) (k ((8 * n : Nat) : Int))) : T B (R * LDev d n c la) (Yat (da d) k) := by
 refine Yky fun v hv h1 h2 => ?_
 refine Vcq (Ygu hv h1 h2 ?_)
 have hl := hv.ok.l2
 rw [hl]
 exact hk (h1 ▸ hl) hv.ok.big
theorem Vaa {d n : Nat} {c la : List Int} {a : Int} {k : Int → K} (hk : T B (R * LDev d n c la) (k (getI c a))) : T B (R * LDev d n c la) (Ybw (da d) a k) := by
 refine Yky fun v hv h1 h2 => ?_
 refine Vcr (Ygu hv h1 h2 ?_)
 rw [h1]; exact hk
theorem Yoa {d n : Nat} {c la : List Int} {a w : Int} {k : Int → K} (h0 : 0 ≤ a) (h1 : a < 8 * n) (hk : T B (R * LDev d n (c.set a.toNat w) la) (k 0)) : T B (R * LDev d n c la) (Ya5 (da d) a w k) := by
 refine Yky fun v hv e1 e2 => ?_
 have hl := hv.ok.l2
 obtain ⟨s1, s2, s3, s4⟩ := hv.storeV (w := w) h0 (by omega)
 refine Yza hv.ok ?_
 rw [s1]
 exact Ygu s2 (by rw [s3, e1]) (by rw [s4, e2]) hk
/-- what lasts behind a Persist -/
def Pst (n a b : Nat) (c la la' : List Int) : Prop := la'.length = 8 * n ∧ ∀ l, l < n → ln la' l = if a ≤ l ∧ l < b then ln c l else ln la l
theorem Yt7 {d n : Nat} {c la : List Int} {a w : Int} {k : Int → K} (h0 : 0 ≤ a) (h1 : 0 < w) (h2 : a + w ≤ 8 * n)
  (hk : ∀ la', Pst n (a / 8).toNat ((a + w - 1) / 8 + 1).toNat c la la' → T B (R * LDev d n c la') (k 0)) : T B (R * LDev d n c la) (Ycx (da d) a w k) := by
 refine Yaq (Ykv _ a w k) ?_
 (repeat' (first | with_reducible refine Yal ?_ | with_reducible refine Yai (fun _ => ?_) (fun _ => ?_)))
 ·exfalso; omega
 ·exfalso; omega
 refine Yn9 fun hl hn => ?_
 (repeat' (first | with_reducible refine Yal ?_ | with_reducible refine Yai (fun _ => ?_) (fun _ => ?_)))
 ·exfalso; omega
 refine Yn9 fun hl hn => ?_
 (repeat' (with_reducible refine Yai (fun _ => ?_) (fun _ => ?_)))
 ·rename_i h
  exfalso
  rw [w64 (by omega) (by omega)] at h; omega
 ·obtain ⟨a0, ha0⟩ : ∃ m : Nat, a / 8 = m := ⟨(a / 8).toNat, by omega⟩
  obtain ⟨b0, hb0⟩ : ∃ m : Nat, (a + w - 1) / 8 + 1 = m := ⟨((a + w - 1) / 8 + 1).toNat, by omega⟩
  rw [ha0, hb0] at hk
  simp only [Int.toNat_natCast] at hk
  refine Yky fun v hv e1 e2 => ?_
  subst e1 e2
  have e3 : IntKind.wrap .i64 (Int.tdiv a 8) = (a0 : Int) := by rw [Int.tdiv_eq_ediv_of_nonneg h0, w64 (by omega) (by omega)]; exact ha0
  have e4 : IntKind.wrap .i64 (Int.tdiv (IntKind.wrap .i64 ((IntKind.wrap .i64 (a + w)) - 1)) 8) = (b0 : Int) - 1 := by
   rw [w64 (n := a + w) (by omega) (by omega), w64 (n := a + w - 1) (by omega) (by omega), Int.tdiv_eq_ediv_of_nonneg (by omega), w64 (by omega) (by omega)]; omega
  (dsimp only [Yhe, Zbz0, Zbz1, Zbz2, Zbz3, Zbz4, Zbz5, Zbz6, Zbz7, Zbz8, Zbz9, Zbz10, Zbz11, Zbz12])
  rw [e3, e4]
  have hm0 := hv.mid a0
  have close : ∀ (v' : Dv) (j : Nat) (t : K), Mid v v' n a0 j → T B (R * ex fun v' => Dev d v' * pu (Mid v v' n a0 j)) t → T B (R * Dev d v') t := by
   intro v' j t hm h
   refine Ysu hm ?_
   rw [Yad]
   exact Yjt v' h
  refine Yl2 (fun m s => R * ex fun v' => Dev d v' * pu (Mid v v' n a0 s.1.toNat)) (fun m (s : Int × Unit) => ∃ i : Nat, s.1 = i ∧ a0 ≤ i ∧ i ≤ b0 ∧ m = b0 - i) (b0 - a0)
   (fun t ht => close v a0 t hm0 (by simpa using ht)) ⟨a0, rfl, by omega, by omega, rfl⟩ ?_
  rintro m ⟨s1, u⟩ c ⟨i, h3, h4, h5, h6⟩ hc
  simp only at h3
  subst h3 h6
  simp only [Int.toNat_natCast]
  refine Ywt fun v' => ?_
  rw [← Yad]
  refine Yz5 fun hm => ?_
  (repeat' (with_reducible refine Yai (fun _ => ?_) (fun _ => ?_)))
  ·rename_i hle
   have hlt : i < b0 := by omega
   obtain ⟨f1, f2⟩ := hm.flush (by omega) h4
   refine Yzb hm.ok (by omega) ?_
   rw [f1]
   skip
   have := hc (b0 - (i + 1)) (IntKind.wrap .i64 ((i : Int) + 1), ()) (by omega) ⟨i + 1, w64 (by omega) (by omega), by omega, by omega, rfl⟩
   have e : (IntKind.wrap .i64 ((i : Int) + 1)).toNat = i + 1 := by rw [w64 (by omega) (by omega)]; omega
   simp only [e] at this
   (repeat' (with_reducible refine Yar (fun _ => ?_) (fun _ => ?_)))
   ·rename_i hx; exact absurd rfl hx
   exact close _ (i + 1) _ f2 this
  ·rename_i hgt
   have hib : i = b0 := by omega
   subst hib
   obtain ⟨f1, f2, f3, f4⟩ := hm.fence hv
   refine Yzc hm.ok ?_
   rw [f1]
   exact Ygu f2 f3 rfl (hk _ ⟨f2.ok.l1, f4⟩)
 ·exfalso; omega
end
section
variable {B : World} {P R : SL} {t t1 t2 : K}
theorem Vhj (h1 : T B P t1) (h2 : T B P t2) : T B P (andK t1 t2) := fun w s => ⟨h1 w s, h2 w s⟩
theorem Vhk : T B P (fun _ => True) := fun _ _ => trivial
def newV (l : List Int) (n : Nat) : Dv := ⟨l, l, List.replicate (8 * n) 0, List.replicate n false, List.replicate n false, 0, 0, false, false⟩
theorem Vct {l : List Int} {n : Nat} (hl : l.length = 8 * n) (hn : n ≤ 2 ^ 32) : Live (newV l n) n := by
 refine ⟨⟨hn, hl, hl, by simp [newV], by simp [newV], by simp [newV]⟩, rfl, rfl, fun i hi => ?_, fun i hi _ => rfl⟩
 simp only [newV, List.getD_eq_getElem?_getD, List.getElem?_replicate, hi, if_true, Option.getD_some]
theorem Vgc {d n : Nat} {l : List Int} (hl : l.length = 8 * n) (hn : n ≤ 2 ^ 32) {s1 s2 : Sl} {p3 p4 p5 : Option Addr} {n3 c3 n4 c4 n5 c5 : Nat}
  (hP : P = R * vec 109 1 s1 (wds l) * vec 109 1 s2 (wds l) * vec 109 1 ⟨p3, n3, c3⟩ (wds (List.replicate (8 * n) 0)) * vec 4 1 ⟨p4, n4, c4⟩ (bls (List.replicate n false)) * vec 4 1 ⟨p5, n5, c5⟩ (bls (List.replicate n false)))
  (h : T B (R * LDev d n l l) t) :
  T B (P * pt d (.cells #[s1.v, s2.v, .slice p3 n3 c3, .slice p4 n4 c4, .slice p5 n5 c5, .int .i64 0, .int .i64 0, .bool false, .bool false] 165)) t := by
 subst hP
 exact Ycb (v := newV l n) (s1, s2, ⟨p3, n3, c3⟩, ⟨p4, n4, c4⟩, ⟨p5, n5, c5⟩) (Ygu (Vct hl hn) rfl rfl h)
theorem Vbj {s : Sl} {l : List Int} {n : Nat} (hl : l.length = 8 * n) (hn : n ≤ 2 ^ 32) {k : Option Addr → K} (hk : ∀ d, T B (R * LDev d n l l) (k (da d))) : T B (R * vec 109 1 s (wds l)) (Yo8 s k) := by
 refine Yaq (Yy9 s k) ?_
 refine Yc0 (.last) fun hs => ?_
 rw [Yby, Nat.mul_one, hl] at hs
 have e1 : IntKind.wrap .i64 (Int.tdiv ((s.n : Nat) : Int) 8) = ((n : Nat) : Int) := by rw [hs, Int.tdiv_eq_ediv_of_nonneg (by omega), w64 (by omega) (by omega)]; omega
 (dsimp only [Yz9, Zcd0, Zcd1])
 rw [e1, hs]
 (repeat (with_reducible refine Yak ?_))
 have hr3 : repZ (zerosP Tryz.prog 109) (Int.toNat ((8 * n : Nat) : Int)) = wds (List.replicate (8 * n) 0) := by rw [Int.toNat_natCast, Yu8]
 have hr4 : repZ (zerosP Tryz.prog 4) (Int.toNat ((n : Nat) : Int)) = bls (List.replicate n false) := by rw [Int.toNat_natCast, Ved]
 repeat' (first
  |with_reducible exact Vhk
  |with_reducible refine Vhj ?_ ?_
  |refine Yy6 (l := l) (by omega) (Rd.vec (E := 109) (s := s) (by exact frmA)) fun s' => ?_
  |refine Ysv Yp6 (by omega) (by omega) (by omega) fun b => ?_
  |refine Ysv Yy5 (by omega) (by omega) (by omega) fun b => ?_
  |with_reducible refine Ya7 fun d => ?_)
 all_goals
  rw [hr3, hr4]
  refine Vgc (R := R) hl hn ?_ (hk _)
  ac_rfl
theorem Vcu {w : Int} {n : Nat} (hw : w = 8 * n) (hn : n ≤ 2 ^ 32) {k : Option Addr → K} (hk : ∀ d, T B (R * LDev d n (List.replicate (8 * n) 0) (List.replicate (8 * n) 0)) (k (da d))) : T B R (Yrc w k) := by
 refine Yaq (Vbi w k) ?_
 subst hw
 refine Yrj (by omega) (by omega) (by omega) ?_
 have e1 : (8 * (n : Int) + 8 - 1) / 8 = n := by omega
 have e2 : IntKind.wrap .i64 ((n : Int) * 8) = ((8 * n : Nat) : Int) := by rw [w64 (by omega) (by omega)]; omega
 (dsimp only [Vcp, Zby0, Zby1, Zby2])
 rw [e1, e2]
 refine Ysv Yp6 (by omega) (by omega) (by omega) fun b => ?_
 rw [Int.toNat_natCast, Yu8]
 exact Vbj (by simp) hn hk
end
/-- cells that an address leads to, wherever the assertion holds -/
def At (P : SL) (a : Addr) (vs : List Value) : Prop := ∀ B w, Sat B P w → ∀ j v, vs[j]? = some v → w.cell? (a.add j) = some v
section
variable {B : World} {P Q R : SL} {t : K}
theorem At.init {a : Addr} {vs : List Value} (h : At P a vs) : At (P * Q) a vs := fun B w s => h B w s.left
theorem Vcv {s : Sl} {sz : Nat} {vs : List Value} {i : Int} {k : Addr → K} (hsz : 0 < sz) (h : Rd P s sz vs) (h0 : 0 ≤ i) (hi : (i.toNat + 1) * sz ≤ vs.length) (ht : ∀ a, At P a (cut vs (i.toNat * sz) sz) → T B P (k a)) : T B P (ixS s.p s.n i sz k) := by
 intro w hw
 obtain ⟨e1, _, e3⟩ := h B w hw
 have hlt : i.toNat < s.n := by
  rw [e1] at hi
  exact Nat.le_of_mul_le_mul_right hi hsz
 rw [Nat.add_mul, Nat.one_mul] at hi
 rcases e3 with ⟨_, rfl⟩ | ⟨a, p1, p2⟩
 ·simp at hi; omega
 ·refine ⟨a, p1, ⟨h0, by omega⟩, ht _ (fun B' w' hw' j v hj => ?_) w hw⟩
  obtain ⟨_, _, f3⟩ := h B' w' hw'
  have hjs : j < sz := by
   have : (cut vs (i.toNat * sz) sz).length = sz := Yd0 hi
   rw [← this]; exact (List.getElem?_eq_some_iff.1 hj).1
  rw [Ymn hjs] at hj
  rcases f3 with ⟨q1, _⟩ | ⟨a', q1, q2⟩
  ·rw [p1] at q1; cases q1
  ·rw [p1] at q1; cases q1
   rw [Vcc]; exact q2 _ _ hj
theorem Ycv {a : Addr} {vs : List Value} {j : Nat} {kd : IntKind} {n : Int} {k : Int → K} (h : At P a vs) (hj : vs[j]? = some (.int kd n)) (ht : T B P (k n)) : T B P (ldI kd (a.add j) k) :=
 fun w hw => ⟨n, h B w hw j _ hj, ht w hw⟩
theorem Yva {E : TypeId} {sz : Nat} {s : Sl} {vs : List Value} (hF : Frm P (vec E sz s vs) R) (hne : vs ≠ [])
  (ht : ∀ b rest, s.p = some ⟨b, 0, none⟩ → s.n * sz = vs.length → s.c * sz = vs.length + rest.length → s.c ≤ maxLen → T B (R * pt b (.cells (vs ++ rest).toArray E)) t) : T B P t := by
 unfold Frm at hF; subst hF
 intro w hw
 rcases Yei hw with ⟨_, _, rfl, _⟩ | ⟨b, rest, h1, h2, h3, h4, hR⟩
 ·exact absurd rfl hne
 ·exact ht b rest h1 h2 h3 h4 w hR
/-- headers of blocks -/
def hds (l : List Hd) : List Value := l.flatMap fun h => [.int .i64 h.1, .int .i64 h.2.1, .int .i64 h.2.2]
def prs (l : List (Int × Int)) : List Value := l.flatMap fun h => [.int .i64 h.1, .int .i64 h.2]
theorem Vcw : Kd Tryz.prog 80 143 3 := ⟨by kernel_rfl, by kernel_rfl, by kernel_rfl, by kernel_rfl, by kernel_rfl, by decide +kernel, by decide +kernel⟩
theorem Vhl : Kd Tryz.prog 150 152 2 := ⟨by kernel_rfl, by kernel_rfl, by kernel_rfl, by kernel_rfl, by kernel_rfl, by decide +kernel, by decide +kernel⟩
theorem Ygo (h : Hd) (l : List Hd) : hds (h :: l) = .int .i64 h.1 :: .int .i64 h.2.1 :: .int .i64 h.2.2 :: hds l := rfl
theorem Yq1 (h : Int × Int) (l : List (Int × Int)) : prs (h :: l) = .int .i64 h.1 :: .int .i64 h.2 :: prs l := rfl
theorem Yt8 (l m : List Hd) : hds (l ++ m) = hds l ++ hds m := List.flatMap_append
theorem Yt9 (l m : List (Int × Int)) : prs (l ++ m) = prs l ++ prs m := List.flatMap_append
theorem Ydo (l : List Hd) : (hds l).length = l.length * 3 := by
 induction l with
 |nil => rfl
 |cons h l ih => rw [Ygo]; simp only [List.length_cons, ih]; omega
theorem Yhr (l : List (Int × Int)) : (prs l).length = l.length * 2 := by
 induction l with
 |nil => rfl
 |cons h l ih => rw [Yq1]; simp only [List.length_cons, ih]; omega
theorem Veg (l : List Hd) : (hds l).all scal = true := by
 induction l with
 |nil => rfl
 |cons h l ih => rw [Ygo]; simp only [List.all_cons, ih, scal, Bool.and_self]
theorem Vgd {l : List Hd} {i : Nat} (h : i < l.length) : cut (hds l) (i * 3) 3 = [.int .i64 l[i].1, .int .i64 l[i].2.1, .int .i64 l[i].2.2] := by
 induction l generalizing i with
 |nil => simp at h
 |cons x l ih =>
  cases i with
  |zero => rfl
  |succ i =>
   have := ih (i := i) (by simpa using h)
   rw [Ygo, List.getElem_cons_succ, ← this]
   unfold cut
   rw [show (i + 1) * 3 = i * 3 + 1 + 1 + 1 by omega]; rfl
theorem Vge {l : List (Int × Int)} {i : Nat} (h : i < l.length) : cut (prs l) (i * 2) 2 = [.int .i64 l[i].1, .int .i64 l[i].2] := by
 induction l generalizing i with
 |nil => simp at h
 |cons x l ih =>
  cases i with
  |zero => rfl
  |succ i =>
   have := ih (i := i) (by simpa using h)
   rw [Yq1, List.getElem_cons_succ, ← this]
   unfold cut
   rw [show (i + 1) * 2 = i * 2 + 1 + 1 by omega]; rfl
theorem Vgf {l : List Hd} {i : Nat} {x : Hd} (h : i < l.length) : (((hds l).set (i * 3) (.int .i64 x.1)).set (i * 3 + 1) (.int .i64 x.2.1)).set (i * 3 + 2) (.int .i64 x.2.2) = hds (l.set i x) := by
 induction l generalizing i with
 |nil => simp at h
 |cons y l ih =>
  cases i with
  |zero => rfl
  |succ i =>
   have := ih (i := i) (by simpa using h)
   rw [List.set_cons_succ, Ygo, Ygo, ← this, show (i + 1) * 3 = i * 3 + 1 + 1 + 1 by omega]; rfl
theorem Veh {l : List (Int × Int)} {i : Nat} {x : Int} (h : i < l.length) : (prs l).set (i * 2 + 1) (.int .i64 x) = prs (l.set i (l[i].1, x)) := by
 induction l generalizing i with
 |nil => simp at h
 |cons y l ih =>
  cases i with
  |zero => rfl
  |succ i =>
   have := ih (i := i) (by simpa using h)
   rw [List.getElem_cons_succ, List.set_cons_succ, Yq1, Yq1, ← this, show (i + 1) * 2 + 1 = i * 2 + 1 + 1 + 1 by omega]; rfl
theorem Vab (n : Nat) : repZ (zerosP Tryz.prog 143) n = hds (List.replicate n (0, 0, 0)) := by
 have : zerosP Tryz.prog 143 = [.int .i64 0, .int .i64 0, .int .i64 0] := by kernel_rfl
 rw [this]
 induction n with
 |zero => rfl
 |succ n ih => rw [List.replicate_succ, Ygo, ← ih]; rfl
/-- a header out of a slice -/
theorem Ys8 {s : Sl} {l : List Hd} {i : Int} {k : Addr → K} (h : Rd P s 3 (hds l)) (h0 : 0 ≤ i) (hi : i.toNat < l.length)
  (ht : ∀ a, At P a [.int .i64 l[i.toNat].1, .int .i64 l[i.toNat].2.1, .int .i64 l[i.toNat].2.2] → T B P (k a)) : T B P (ixS s.p s.n i 3 k) := by
 refine Vcv (by omega) h h0 (by rw [Ydo]; omega) fun a ha => ?_
 rw [Vgd hi] at ha
 exact ht a ha
theorem Vei {s : Sl} {l : List (Int × Int)} {i : Int} {k : Addr → K} (h : Rd P s 2 (prs l)) (h0 : 0 ≤ i) (hi : i.toNat < l.length)
  (ht : ∀ a, At P a [.int .i64 l[i.toNat].1, .int .i64 l[i.toNat].2] → T B P (k a)) : T B P (ixS s.p s.n i 2 k) := by
 refine Vcv (by omega) h h0 (by rw [Yhr]; omega) fun a ha => ?_
 rw [Vge hi] at ha
 exact ht a ha
theorem Vhm {s : Sl} {l : List Hd} {i : Int} {x : Hd} (hF : Frm P (vec 143 3 s (hds l)) R) (h0 : 0 ≤ i) (hi : i.toNat < l.length) (ht : T B (R * vec 143 3 s (hds (l.set i.toNat x))) t) :
  T B P (ixS s.p s.n i 3 fun a => stK (a.add 0) (.int .i64 x.1) (stK (a.add 1) (.int .i64 x.2.1) (stK (a.add 2) (.int .i64 x.2.2) t))) := by
 have hl := Ydo l
 refine Yva hF (fun e => by rw [e] at hl; simp at hl; omega) fun b rest h1 h2 h3 h4 => ?_
 refine Vcb h1 h0 (by omega) ?_
 rw [Yay, Nat.zero_add]
 refine Ybc (i := i.toNat * 3) (by rw [Yay]; rfl) Upd.last (by simp; omega) ?_
 refine Ybc (i := i.toNat * 3 + 1) (by rw [Yay]) Upd.last (by simp; omega) ?_
 refine Ybc (i := i.toNat * 3 + 2) (by rw [Yay]) Upd.last (by simp; omega) ?_
 rw [List.set_append_left _ _ (by omega), List.set_append_left _ _ (by simp; omega), List.set_append_left _ _ (by simp; omega), Vgf hi]
 refine Yt2 h1 ?_ ?_ h4 ht
 ·rw [h2, Ydo, Ydo]; simp
 ·rw [h3, Ydo, Ydo]; simp
theorem Vhn {s : Sl} {l : List (Int × Int)} {i : Int} {x : Int} (hF : Frm P (vec 152 2 s (prs l)) R) (h0 : 0 ≤ i) (hi : i.toNat < l.length) (ht : T B (R * vec 152 2 s (prs (l.set i.toNat (l[i.toNat].1, x)))) t) :
  T B P (ixS s.p s.n i 2 fun a => stK ((a.add 1).add 0) (.int .i64 x) t) := by
 have hl := Yhr l
 refine Yva hF (fun e => by rw [e] at hl; simp at hl; omega) fun b rest h1 h2 h3 h4 => ?_
 refine Vcb h1 h0 (by omega) ?_
 rw [Yay, Nat.zero_add]
 refine Ybc (i := i.toNat * 2 + 1) (by rw [Yay, Yay]) Upd.last (by simp; omega) ?_
 rw [List.set_append_left _ _ (by omega), Veh hi]
 refine Yt2 h1 ?_ ?_ h4 ht
 ·rw [h2, Yhr, Yhr]; simp
 ·rw [h3, Yhr, Yhr]; simp
end
end Go.Proofs.YtdgcbapclnnkkaaGreat.X
