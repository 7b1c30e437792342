/- Part 3 of the proof that the law holds for every input: the theorems of this part. Conditions: each theorem bears its own; the last has none. -/
import Derived.Test.YtdgcbapclnnkkaaGreatKb
import Derived.Maps.RangeRun
set_option linter.all false
set_option maxRecDepth 4000
namespace Go.Proofs.YtdgcbapclnnkkaaGreat.X
open Go
section
set_option maxRecDepth 100000
abbrev Zce0 (k : (Int → K)) (x2 : Int) : K :=
 k x2
abbrev Zce1 (t : OA) (k : (Int → K)) : K :=
 nn t fun x4 =>
 ldS (x4.add 2) fun x6 =>
 Zce0 k ((x6.n : Nat) : Int)
abbrev Yqm (t : OA) : M Int := fun k =>
 Zce1 t k
theorem Ym4 (t : OA) (k : Int → K) (w : World) (h_ : Yqm t k w) : Ybf t k w :=
 Yae (P := Tryz.prog) Tryz.func13 rfl (by kernel_rfl)
 (Qs [] [0] (fun z_ => Zce1 t k)
 Qz
 (fun _ => Qs [(2, .int .i64)] [] (fun z_ => Zce0 k z_.1)
 Qz
 (fun (x2, _) => Qr))) h_
abbrev Zcf0 (k : (Sl → K)) (x2 : Sl) : K :=
 k x2
abbrev Zcf1 (t : OA) (k : (Sl → K)) : K :=
 alK (.cells #[] 143) fun b =>
 nn t fun x5 =>
 ldS (x5.add 2) fun x7 =>
 semT Tryz.prog (Builtin.append_ #[80, 80] 80 #[.slice (some ⟨b, 0, none⟩) 0 0, x7.v]) (.one (.sc (.slice))) fun x8 =>
 Zcf0 k x8
abbrev Yqn (t : OA) : M Sl := fun k =>
 Zcf1 t k
theorem Ym5 (t : OA) (k : Sl → K) (w : World) (h_ : Yqn t k w) : Ydp t k w :=
 Yae (P := Tryz.prog) Tryz.func36 rfl (by kernel_rfl)
 (Qs [] [0] (fun z_ => Zcf1 t k)
 Qz
 (fun _ => Qs [(2, .slice)] [] (fun z_ => Zcf0 k z_.1)
 Qz
 (fun (x2, _) => Qr))) h_
abbrev Zcg0 (k : (Int → K)) (x2 : Addr) : K :=
 ldI .i64 (x2.add 0) fun x2_0 =>
 k x2_0
abbrev Zcg1 (m : OA) (k : (Int → K)) (x2 : Addr) : K :=
 nn m fun x4 =>
 ldI .i64 (Addr.add (x4.add 2) 0) fun x6_0 =>
 stK (x2.add 0) (.int .i64 x6_0) <|
 Zcg0 k x2
abbrev Ykz (m : OA) : M Int := fun k =>
 alK (.cells #[.int .i64 0] 43) fun b =>
 Zcg1 m k ⟨b, 0, none⟩
theorem Yh7 (m : OA) (k : Int → K) (w : World) (h_ : Ykz m k w) : Ydc m k w :=
 Yae (P := Tryz.prog) Tryz.func57 rfl (by kernel_rfl)
 (Qs [(2, .addr)] [0] (fun z_ => Zcg1 m k z_.1)
 Qz
 (fun (x2, _) => Qs [] [2] (fun z_ => Zcg0 k x2)
 Qz
 (fun _ => Qr))) h_
abbrev Zch0 (k : (Bool → K)) (x4 : Bool) : K :=
 k x4
abbrev Zch1 (s : OA) (at_1 : Int) (k : (Bool → K)) : K :=
 Ye5 s at_1 fun x7 =>
 brK x7
 (nn s fun x10 =>
 ldS (x10.add 0) fun x12 =>
 ixS x12.p x12.n (IntKind.wrap .i64 (Int.tdiv at_1 64)) 1 fun x15 =>
 ldI .u64 x15 fun x16 =>
 nneg (IntKind.wrap .u64 (Int.tmod at_1 64)) <|
 Zch0 k ((bitI .and .u64 (shrI .u64 x16 (IntKind.wrap .u64 (Int.tmod at_1 64))) 1) == 1))
 (Zch0 k false)
abbrev Ymh (s : OA) (at_1 : Int) : M Bool := fun k =>
 Zch1 s at_1 k
theorem Ypi (s : OA) (at_1 : Int) (k : Bool → K) (w : World) (h_ : Ymh s at_1 k w) : Yaw s at_1 k w :=
 Yae (P := Tryz.prog) Tryz.func77 rfl (by kernel_rfl)
 (Qs [] [0, 1] (fun z_ => Zch1 s at_1 k)
 Qz
 (fun _ => Qs [(4, .bool)] [] (fun z_ => Zch0 k z_.1)
 (Qp [3])
 (fun (x4, _) => Qr))) h_
abbrev Zci0 (k : (Int → K)) (x4 : Int) : K :=
 k x4
abbrev Zci1 (m : OA) (block : Int) (k : (Int → K)) (n_1 : Int) : K :=
 nn m fun x50 =>
 ldP (x50.add 1) fun x52 =>
 Yb7 x52 block n_1 fun x55 =>
 Zci0 k x55
abbrev Zci2 (k : (Int → K)) (x4_1 : Int) : K :=
 k x4_1
abbrev Zci3 (m : OA) (block : Int) (k : (Int → K)) (n_1 : Int) (e : Int) (x47 : Bool) : K :=
 brK x47
 (Zci2 k e)
 (Zci1 m block k n_1)
abbrev Zci4 (m : OA) (block : Int) (k : (Int → K)) (n_1 : Int) (e : Int) : K :=
 Zci3 m block k n_1 e (e != 0)
abbrev Zci5 (m : OA) (block : Int) (k : (Int → K)) (n_1 : Int) : K :=
 tick fun _ =>
 nn m fun x37 =>
 ldP (x37.add 0) fun x39 =>
 mkS Tryz.prog 143 (IntKind.wrap .i64 (n_1 - 1)) (IntKind.wrap .i64 (n_1 - 1)) fun b =>
 Ya6 x39 (IntKind.wrap .i64 (block + 1)) ⟨(some ⟨b, 0, none⟩), (Int.toNat (IntKind.wrap .i64 (n_1 - 1))), (Int.toNat (IntKind.wrap .i64 (n_1 - 1)))⟩ fun x45 =>
 Zci4 m block k n_1 x45
abbrev Zci6 (m : OA) (block : Int) (k : (Int → K)) (n_1 : Int) (x35 : Bool) : K :=
 brK x35
 (Zci5 m block k n_1)
 (Zci1 m block k n_1)
abbrev Zci7 (k : (Int → K)) (x4_2 : Int) : K :=
 k x4_2
abbrev Zci8 (m : OA) (block : Int) (k : (Int → K)) (n_1 : Int) (e_1 : Int) (x32 : Bool) : K :=
 brK x32
 (Zci7 k e_1)
 (Zci6 m block k n_1 (decide (n_1 > 1)))
abbrev Zci9 (m : OA) (block : Int) (k : (Int → K)) (n_1 : Int) (e_1 : Int) : K :=
 Zci8 m block k n_1 e_1 (e_1 != 0)
abbrev Zci10 (m : OA) (block : Int) (k : (Int → K)) (n_1 : Int) : K :=
 nn m fun x24 =>
 ldP (x24.add 0) fun x26 =>
 alK (.cells #[.int .i64 0, .int .i64 0, .int .i64 0] 143) fun b_1 =>
 Ya6 x26 block ⟨(some ⟨b_1, 0, none⟩), 1, 1⟩ fun x30 =>
 Zci9 m block k n_1 x30
abbrev Zci11 (k : (Int → K)) (x4_3 : Int) : K :=
 k x4_3
abbrev Zci12 (m : OA) (block : Int) (k : (Int → K)) (h : Addr) : K :=
 ldI .i64 (h.add 2) fun x22 =>
 Zci10 m block k x22
abbrev Zci13 (m : OA) (block : Int) (k : (Int → K)) (h : Addr) (x19 : Bool) : K :=
 brK x19
 (Zci12 m block k h)
 (Zci11 k 42)
abbrev Zci14 (m : OA) (block : Int) (k : (Int → K)) (h : Addr) (n : Int) (x16 : Int) (x17 : Bool) : K :=
 brK x17
 (Zci10 m block k n)
 (Zci13 m block k h (x16 == 2))
abbrev Zci15 (m : OA) (block : Int) (k : (Int → K)) (h : Addr) (n : Int) (x16 : Int) : K :=
 Zci14 m block k h n x16 (x16 == 1)
abbrev Zci16 (m : OA) (block : Int) (k : (Int → K)) (h : Addr) (n : Int) : K :=
 ldI .i64 (h.add 0) fun x16_1 =>
 Zci15 m block k h n x16_1
abbrev Zci17 (m : OA) (block : Int) (k : (Int → K)) (h : Addr) : K :=
 Zci16 m block k h 1
abbrev Zci18 (m : OA) (block : Int) (k : (Int → K)) : K :=
 nn m fun x10 =>
 ldP (x10.add 0) fun x12 =>
 Ycr x12 block fun x14 =>
 alK (.cells #[.int .i64 0, .int .i64 0, .int .i64 0] 143) fun b_2 =>
 stK (Addr.add ⟨b_2, 0, none⟩ 0) (.int .i64 x14.1) <|
 stK (Addr.add ⟨b_2, 0, none⟩ 1) (.int .i64 x14.2.1) <|
 stK (Addr.add ⟨b_2, 0, none⟩ 2) (.int .i64 x14.2.2) <|
 Zci17 m block k ⟨b_2, 0, none⟩
abbrev Yb0 (m : OA) (block : Int) : M Int := fun k =>
 Zci18 m block k
theorem Yi4 (m : OA) (block : Int) (k : Int → K) (w : World) (h_ : Yb0 m block k w) : Ych m block k w :=
 Yae (P := Tryz.prog) Tryz.func79 rfl (by kernel_rfl)
 (Qs [] [0, 1] (fun z_ => Zci18 m block k)
 Qz
 (fun _ => Qs [(5, .addr)] [0, 1] (fun z_ => Zci17 m block k z_.1)
 Qz
 (fun (h, _) => Qs [(6, .int .i64)] [0, 1, 5] (fun z_ => Zci16 m block k h z_.1)
 Qz
 (fun (n, _) => Qs [(6, .int .i64)] [0, 1] (fun z_ => Zci10 m block k z_.1)
 (Qs [(16, .int .i64)] [0, 1, 5, 6] (fun z_ => Zci15 m block k h n z_.1)
 Qz
 (fun (x16, _) => Qb (Qs [(17, .bool)] [0, 1, 5, 6, 16] (fun z_ => Zci14 m block k h n x16 z_.1)
 Qz
 (fun (x17, _) => Qc (x17) (Zci10 m block k n) (Zci13 m block k h (x16 == 2)) Qk (Qs [(19, .bool)] [0, 1, 5] (fun z_ => Zci13 m block k h z_.1)
 Qz
 (fun (x19, _) => Qc (x19) (Zci12 m block k h) (Zci11 k 42) Qz (Qs [(4, .int .i64)] [] (fun z_ => Zci11 k z_.1)
 Qz
 (fun (x4_3, _) => Qr))))))))
 (fun (n_1, _) => Qs [] [0, 1, 6] (fun z_ => Zci6 m block k n_1 (decide (n_1 > 1)))
 (Qs [(7, .int .i64)] [0, 1, 6] (fun z_ => Zci9 m block k n_1 z_.1)
 Qz
 (fun (e_1, _) => Qs [(32, .bool)] [0, 1, 6, 7] (fun z_ => Zci8 m block k n_1 e_1 z_.1)
 Qz
 (fun (x32, _) => Qc (x32) (Zci7 k e_1) (Zci6 m block k n_1 (decide (n_1 > 1))) (Qs [(4, .int .i64)] [] (fun z_ => Zci7 k z_.1)
 Qz
 (fun (x4_2, _) => Qr)) Qk)))
 (fun _ => Qs [] [0, 1, 6] (fun z_ => Zci1 m block k n_1)
 (Qs [(35, .bool)] [0, 1, 6] (fun z_ => Zci6 m block k n_1 z_.1)
 Qz
 (fun (x35, _) => Qc (x35) (Zci5 m block k n_1) (Zci1 m block k n_1) (Qs [(8, .int .i64)] [0, 1, 6] (fun z_ => Zci4 m block k n_1 z_.1)
 (RefK.draw [] [0, 1, 3, 7, 0, 16, 0, 64, 192, 511, 1023] [0, 1, 2, 3, 4, 5, 6, 7, 8, 9, 10] [0, 1, 2, 3, 4, 5, 6, 7, 8, 9, 10] (by kernel_rfl) (by kernel_rfl))
 (fun (e, _) => Qs [(47, .bool)] [0, 1, 6, 8] (fun z_ => Zci3 m block k n_1 e z_.1)
 Qz
 (fun (x47, _) => Qc (x47) (Zci2 k e) (Zci1 m block k n_1) (Qs [(4, .int .i64)] [] (fun z_ => Zci2 k z_.1)
 Qz
 (fun (x4_1, _) => Qr)) Qk))) Qk))
 (fun _ => Qs [(4, .int .i64)] [] (fun z_ => Zci0 k z_.1)
 Qz
 (fun (x4, _) => Qr)))))))) h_
abbrev Zcj0 (k : (Bool → K)) (x4 : Bool) : K :=
 k x4
abbrev Zcj1 (s : OA) (k : (Bool → K)) : K :=
 nn s fun x24 =>
 ldI .i64 (x24.add 2) fun x26 =>
 nn s fun x28 =>
 stK (Addr.add (x28.add 2) 0) (.int .i64 (IntKind.wrap .i64 (x26 - 1))) <|
 Zcj0 k true
abbrev Zcj2 (s : OA) (at_1 : Int) (k : (Bool → K)) : K :=
 nn s fun x10 =>
 ldS (x10.add 0) fun x12 =>
 ixS x12.p x12.n (IntKind.wrap .i64 (Int.tdiv at_1 64)) 1 fun x15 =>
 ldI .u64 x15 fun x16 =>
 nneg (IntKind.wrap .u64 (Int.tmod at_1 64)) <|
 ixS x12.p x12.n (IntKind.wrap .i64 (Int.tdiv at_1 64)) 1 fun x22 =>
 stK (x22.add 0) (.int .u64 (bitI .andNot .u64 x16 (shlI .u64 1 (IntKind.wrap .u64 (Int.tmod at_1 64))))) <|
 Zcj1 s k
abbrev Zcj3 (k : (Bool → K)) (x4_1 : Bool) : K :=
 k x4_1
abbrev Zcj4 (s : OA) (at_1 : Int) (k : (Bool → K)) (x8 : Bool) : K :=
 brK x8
 (Zcj3 k false)
 (Zcj2 s at_1 k)
abbrev Zcj5 (s : OA) (at_1 : Int) (k : (Bool → K)) : K :=
 Yaw s at_1 fun x7 =>
 Zcj4 s at_1 k (!x7)
abbrev Yrn (s : OA) (at_1 : Int) : M Bool := fun k =>
 Zcj5 s at_1 k
theorem Yob (s : OA) (at_1 : Int) (k : Bool → K) (w : World) (h_ : Yrn s at_1 k w) : Yb6 s at_1 k w :=
 Yae (P := Tryz.prog) Tryz.func81 rfl (by kernel_rfl)
 (Qs [] [0, 1] (fun z_ => Zcj5 s at_1 k)
 Qz
 (fun _ => Qs [] [0, 1] (fun z_ => Zcj2 s at_1 k)
 (Qs [(8, .bool)] [0, 1] (fun z_ => Zcj4 s at_1 k z_.1)
 Qz
 (fun (x8, _) => Qc (x8) (Zcj3 k false) (Zcj2 s at_1 k) (Qs [(4, .bool)] [] (fun z_ => Zcj3 k z_.1)
 Qz
 (fun (x4_1, _) => Qr)) Qk))
 (fun _ => Qs [] [0] (fun z_ => Zcj1 s k)
 Qz
 (fun _ => Qs [] [] (fun z_ => Zcj0 k true)
 Qz
 (fun _ => Qs [(4, .bool)] [] (fun z_ => Zcj0 k z_.1)
 Qz
 (fun (x4, _) => Qr)))))) h_
abbrev Zck0 (k : (Int → K)) (x6 : Int) : K :=
 k x6
abbrev Zck1 (l : OA) (k_1 : Int) (at_1 : Int) (k : (Int → K)) : K :=
 tick fun _ =>
 nn l fun x20 =>
 ixA (x20.add 0) 32 k_1 1 fun x22 =>
 ldS x22 fun x23 =>
 nn l fun x27 =>
 alK (.cells #[.int .i64 at_1] 3) fun b =>
 semT Tryz.prog (Builtin.append_ #[27, 27] 27 #[x23.v, .slice (some ⟨b, 0, none⟩) 1 1]) (.one (.sc (.slice))) fun x26 =>
 ixA (x27.add 0) 32 k_1 1 fun x29 =>
 stK (x29.add 0) (x26.v) <|
 Zck0 k 0
abbrev Zck2 (k : (Int → K)) (x6_1 : Int) : K :=
 k x6_1
abbrev Zck3 (k : (Int → K)) (x6_2 : Int) : K :=
 k x6_2
abbrev Zck4 (l : OA) (k_1 : Int) (at_1 : Int) (k : (Int → K)) (x11 : Bool) : K :=
 brK x11
 (Zck3 k 41)
 (Zck1 l k_1 at_1 k)
abbrev Zck5 (l : OA) (k_1 : Int) (at_1 : Int) (k : (Int → K)) : K :=
 Yeq l k_1 at_1 fun x15 =>
 Zck4 l k_1 at_1 k x15
abbrev Zck6 (l : OA) (k_1 : Int) (at_1 : Int) (k : (Int → K)) (x7 : Bool) : K :=
 brK x7
 (Zck2 k 1)
 (Zck5 l k_1 at_1 k)
abbrev Zck7 (l : OA) (k_1 : Int) (at_1 : Int) (k : (Int → K)) : K :=
 Ya8 k_1 fun x9 =>
 Zck6 l k_1 at_1 k (!x9)
abbrev Yro (l : OA) (k_1 : Int) (at_1 : Int) : M Int := fun k =>
 Zck7 l k_1 at_1 k
theorem Yoc (l : OA) (k_1 : Int) (at_1 : Int) (k : Int → K) (w : World) (h_ : Yro l k_1 at_1 k w) : Yc4 l k_1 at_1 k w :=
 Yae (P := Tryz.prog) Tryz.func82 rfl (by kernel_rfl)
 (Qs [] [0, 1, 2] (fun z_ => Zck7 l k_1 at_1 k)
 Qz
 (fun _ => Qs [] [0, 1, 2] (fun z_ => Zck1 l k_1 at_1 k)
 (Qb (Qs [(7, .bool)] [0, 1, 2] (fun z_ => Zck6 l k_1 at_1 k z_.1)
 Qz
 (fun (x7, _) => Qc (x7) (Zck2 k 1) (Zck5 l k_1 at_1 k) (Qs [(6, .int .i64)] [] (fun z_ => Zck2 k z_.1)
 Qz
 (fun (x6_1, _) => Qr)) (Qs [(11, .bool)] [0, 1, 2] (fun z_ => Zck4 l k_1 at_1 k z_.1)
 Qz
 (fun (x11, _) => Qc (x11) (Zck3 k 41) (Zck1 l k_1 at_1 k) (Qs [(6, .int .i64)] [] (fun z_ => Zck3 k z_.1)
 Qz
 (fun (x6_2, _) => Qr)) Qk)))))
 (fun _ => Qs [] [] (fun z_ => Zck0 k 0)
 (RefK.draw [] [0, 0, 0, 0, 4, 20, 60, 124, 0, 256, 1020, 1, 2049, 8191, 16383] [0, 1, 2, 3, 4, 5, 6, 7, 8, 11, 12, 9, 10, 13, 14] [0, 1, 2, 3, 4, 5, 6, 7, 8, 9, 10, 11, 12, 13, 14] (by kernel_rfl) (by kernel_rfl))
 (fun _ => Qs [(6, .int .i64)] [] (fun z_ => Zck0 k z_.1)
 Qz
 (fun (x6, _) => Qr))))) h_
abbrev Zcl0 (k : (Int → K)) (x8 : Int) : K :=
 k x8
abbrev Zcl1 (x0 : OA) (k : (Int → K)) (x9 : Addr) (x10 : Sl) (x11 : Int) : K :=
 tick fun _ =>
 nn x0 fun x64 =>
 ldM (x64.add 32) fun x66 =>
 ldI .i64 (x9.add 0) fun x67_0 =>
 ldI .i64 (x9.add 1) fun x67_1 =>
 loB (some (.int .i64 x11)) 0 x10.n fun l =>
 Ybg ⟨(cutP x10.p l x10.c 1), (x10.n - l), (x10.c - l)⟩ fun x71 =>
 chk [.cell (x9.add 0) (.int .i64 x67_0), .cell (x9.add 1) (.int .i64 x67_1), .cell (x64.add 32) (.map x66)] fun _ =>
 semU Tryz.prog (Instr.mapUpdate 197 (.map x66) (.agg #[.int .i64 x67_0, .int .i64 x67_1]) x71.v) <|
 Zcl0 k 0
abbrev Zcl2 (x0 : OA) (x2 : Int) (k : (Int → K)) (x9 : Addr) (x10 : Sl) (x11 : Int) : K :=
 tick fun _ =>
 nn x0 fun x52 =>
 ixA (x52.add 0) 32 x2 1 fun x54 =>
 ldS x54 fun x55 =>
 loB (some (.int .i64 x11)) x10.n x10.c fun h =>
 nn x0 fun x60 =>
 semT Tryz.prog (Builtin.append_ #[27, 27] 27 #[x55.v, .slice (cutP x10.p 0 x10.c 1) (h - 0) (x10.c - 0)]) (.one (.sc (.slice))) fun x59 =>
 ixA (x60.add 0) 32 x2 1 fun x62 =>
 stK (x62.add 0) (x59.v) <|
 Zcl1 x0 k x9 x10 x11
abbrev Zcl3 (x0 : OA) (x2 : Int) (k : (Int → K)) (x9 : Addr) (x10 : Sl) (x44 : Bool) : K :=
 brK x44
 (Zcl2 x0 x2 k x9 x10 (IntKind.wrap .i64 (Int.tdiv ((x10.n : Nat) : Int) 2)))
 (Zcl0 k 0)
abbrev Zcl4 (x0 : OA) (x2 : Int) (k : (Int → K)) (x9 : Addr) (x10 : Sl) : K :=
 Zcl3 x0 x2 k x9 x10 (decide (((x10.n : Nat) : Int) > 8))
abbrev Zcl5 (x0 : OA) (x2 : Int) (k : (Int → K)) (x9 : Addr) : K :=
 tick fun _ =>
 nn x0 fun x37 =>
 ldM (x37.add 32) fun x39 =>
 ldI .i64 (x9.add 0) fun x40_0 =>
 ldI .i64 (x9.add 1) fun x40_1 =>
 lkE Tryz.prog 201 (.slice none 0 0) (.sc (.slice)) x39 (.agg #[.int .i64 x40_0, .int .i64 x40_1]) fun r ob x41 ok =>
 Zcl4 x0 x2 k x9 x41
abbrev Zcl6 (x0 : OA) (x2 : Int) (x3 : Int) (k : (Int → K)) (x9 : Addr) : K :=
 tick fun _ =>
 nn x0 fun x26 =>
 ldM (x26.add 32) fun x28 =>
 ldI .i64 (x9.add 0) fun x29_0 =>
 ldI .i64 (x9.add 1) fun x29_1 =>
 alK (.cells #[.int .i64 x3] 3) fun b =>
 semT Tryz.prog (Instr.mapEntry 197 (.map x28) (.agg #[.int .i64 x29_0, .int .i64 x29_1])) (.tup [.sc (.slice), .sc (.int .i64)]) fun e =>
 semT Tryz.prog (Builtin.append_ #[27, 27] 27 #[e.1.v, .slice (some ⟨b, 0, none⟩) 1 1]) (.one (.sc (.slice))) fun x34 =>
 semU Tryz.prog (Instr.entryStore 197 (.map x28) (.int .i64 e.2) x34.v) <|
 Zcl5 x0 x2 k x9
abbrev Zcl7 (x0 : OA) (x1 : Int) (x2 : Int) (x3 : Int) (k : (Int → K)) : K :=
 alK (.cells #[.int .i64 0, .int .i64 0] 201) fun b_1 =>
 stK (Addr.add ⟨b_1, 0, none⟩ 0) (.int .i64 x1) <|
 stK (Addr.add ⟨b_1, 0, none⟩ 1) (.int .i64 x2) <|
 Zcl6 x0 x2 x3 k ⟨b_1, 0, none⟩
abbrev Zcl8 (k : (Int → K)) (x8_1 : Int) : K :=
 k x8_1
abbrev Zcl9 (k : (Int → K)) (x8_2 : Int) : K :=
 k x8_2
abbrev Zcl10 (x0 : OA) (x1 : Int) (x2 : Int) (x3 : Int) (k : (Int → K)) (x17 : Bool) : K :=
 brK x17
 (Zcl9 k 41)
 (Zcl7 x0 x1 x2 x3 k)
abbrev Zcl11 (x0 : OA) (x1 : Int) (x2 : Int) (x3 : Int) (k : (Int → K)) : K :=
 Yeq x0 x2 x3 fun x21 =>
 Zcl10 x0 x1 x2 x3 k x21
abbrev Zcl12 (x0 : OA) (x1 : Int) (x2 : Int) (x3 : Int) (k : (Int → K)) (x12 : Bool) : K :=
 brK x12
 (Zcl8 k 1)
 (Zcl11 x0 x1 x2 x3 k)
abbrev Zcl13 (x0 : OA) (x1 : Int) (x2 : Int) (x3 : Int) (k : (Int → K)) : K :=
 Yg9 x1 x2 fun x15 =>
 Zcl12 x0 x1 x2 x3 k (!x15)
abbrev Ys9 (x0 : OA) (x1 : Int) (x2 : Int) (x3 : Int) : M Int := fun k =>
 Zcl13 x0 x1 x2 x3 k
theorem Ypj (x0 : OA) (x1 : Int) (x2 : Int) (x3 : Int) (k : Int → K) (w : World) (h_ : Ys9 x0 x1 x2 x3 k w) : Yga x0 x1 x2 x3 k w :=
 Yae (P := Tryz.prog) Tryz.func83 rfl (by kernel_rfl)
 (Qs [] [0, 1, 2, 3] (fun z_ => Zcl13 x0 x1 x2 x3 k)
 Qz
 (fun _ => Qs [] [0, 1, 2, 3] (fun z_ => Zcl7 x0 x1 x2 x3 k)
 (Qb (Qs [(12, .bool)] [0, 1, 2, 3] (fun z_ => Zcl12 x0 x1 x2 x3 k z_.1)
 Qz
 (fun (x12, _) => Qc (x12) (Zcl8 k 1) (Zcl11 x0 x1 x2 x3 k) (Qs [(8, .int .i64)] [] (fun z_ => Zcl8 k z_.1)
 Qz
 (fun (x8_1, _) => Qr)) (Qs [(17, .bool)] [0, 1, 2, 3] (fun z_ => Zcl10 x0 x1 x2 x3 k z_.1)
 Qz
 (fun (x17, _) => Qc (x17) (Zcl9 k 41) (Zcl7 x0 x1 x2 x3 k) (Qs [(8, .int .i64)] [] (fun z_ => Zcl9 k z_.1)
 Qz
 (fun (x8_2, _) => Qr)) Qk)))))
 (fun _ => Qs [(9, .addr)] [0, 2, 3] (fun z_ => Zcl6 x0 x2 x3 k z_.1)
 Qz
 (fun (x9, _) => Qs [] [0, 2, 9] (fun z_ => Zcl5 x0 x2 k x9)
 (RefK.draw [] [0, 1, 3, 7, 0, 0, 32, 127, 255, 511, 255, 2047] [0, 1, 2, 3, 4, 5, 6, 7, 8, 10, 9, 11] [0, 1, 2, 3, 4, 5, 6, 7, 8, 9, 10, 11] (by kernel_rfl) (by kernel_rfl))
 (fun _ => Qs [] [] (fun z_ => Zcl0 k 0)
 (Qs [(10, .slice)] [0, 2, 9] (fun z_ => Zcl4 x0 x2 k x9 z_.1)
 (RefK.draw [] [0, 1, 3, 7, 0, 31, 63] [0, 1, 2, 3, 4, 5, 6] [0, 1, 2, 3, 4, 5, 6] (by kernel_rfl) (by kernel_rfl))
 (fun (x10, _) => Qs [(44, .bool)] [0, 2, 9, 10] (fun z_ => Zcl3 x0 x2 k x9 x10 z_.1)
 Qz
 (fun (x44, _) => Qc (x44) (Zcl2 x0 x2 k x9 x10 (IntKind.wrap .i64 (Int.tdiv ((x10.n : Nat) : Int) 2))) (Zcl0 k 0) (Qs [(11, .int .i64)] [0, 2, 9, 10] (fun z_ => Zcl2 x0 x2 k x9 x10 z_.1)
 Qz
 (fun (x11, _) => Qs [] [0, 9, 10, 11] (fun z_ => Zcl1 x0 k x9 x10 x11)
 (RefK.draw [] [0, 0, 0, 0, 4, 20, 60, 124, 0, 0, 768, 2044, 1, 4097, 16383, 32767] [0, 1, 2, 3, 4, 5, 6, 7, 8, 9, 10, 12, 13, 11, 14, 15] [0, 1, 2, 3, 4, 5, 6, 7, 8, 9, 10, 11, 12, 13, 14, 15] (by kernel_rfl) (by kernel_rfl))
 (fun _ => RefK.draw [] [0, 1, 3, 7, 0, 0, 0, 96, 224, 511] [0, 1, 2, 3, 4, 5, 6, 7, 8, 9] [0, 1, 2, 3, 4, 5, 6, 7, 8, 9] (by kernel_rfl) (by kernel_rfl)))) Qk)))
 (fun _ => Qs [(8, .int .i64)] [] (fun z_ => Zcl0 k z_.1)
 Qz
 (fun (x8, _) => Qr))))))) h_
abbrev Zcm0 (k : (Bool → K)) (x4 : Bool) : K :=
 k x4
abbrev Zcm1 (s : OA) (k : (Bool → K)) : K :=
 nn s fun x29 =>
 ldI .i64 (x29.add 2) fun x31 =>
 nn s fun x33 =>
 stK (Addr.add (x33.add 2) 0) (.int .i64 (IntKind.wrap .i64 (x31 + 1))) <|
 Zcm0 k true
abbrev Zcm2 (s : OA) (at_1 : Int) (k : (Bool → K)) : K :=
 nn s fun x15 =>
 ldS (x15.add 0) fun x17 =>
 ixS x17.p x17.n (IntKind.wrap .i64 (Int.tdiv at_1 64)) 1 fun x20 =>
 ldI .u64 x20 fun x21 =>
 nneg (IntKind.wrap .u64 (Int.tmod at_1 64)) <|
 ixS x17.p x17.n (IntKind.wrap .i64 (Int.tdiv at_1 64)) 1 fun x27 =>
 stK (x27.add 0) (.int .u64 (bitI .or .u64 x21 (shlI .u64 1 (IntKind.wrap .u64 (Int.tmod at_1 64))))) <|
 Zcm1 s k
abbrev Zcm3 (k : (Bool → K)) (x4_1 : Bool) : K :=
 k x4_1
abbrev Zcm4 (s : OA) (at_1 : Int) (k : (Bool → K)) (x13 : Bool) : K :=
 brK x13
 (Zcm3 k false)
 (Zcm2 s at_1 k)
abbrev Zcm5 (s : OA) (at_1 : Int) (k : (Bool → K)) : K :=
 Ye5 s at_1 fun x7 =>
 brK (!x7)
 (Zcm4 s at_1 k true)
 (Yaw s at_1 fun x12 =>
 Zcm4 s at_1 k x12)
abbrev Yta (s : OA) (at_1 : Int) : M Bool := fun k =>
 Zcm5 s at_1 k
theorem Ypk (s : OA) (at_1 : Int) (k : Bool → K) (w : World) (h_ : Yta s at_1 k w) : Ybl s at_1 k w :=
 Yae (P := Tryz.prog) Tryz.func91 rfl (by kernel_rfl)
 (Qs [] [0, 1] (fun z_ => Zcm5 s at_1 k)
 Qz
 (fun _ => Qs [] [0, 1] (fun z_ => Zcm2 s at_1 k)
 (Qs [(13, .bool)] [0, 1] (fun z_ => Zcm4 s at_1 k z_.1)
 (Qp [4])
 (fun (x13, _) => Qc (x13) (Zcm3 k false) (Zcm2 s at_1 k) (Qs [(4, .bool)] [] (fun z_ => Zcm3 k z_.1)
 Qz
 (fun (x4_1, _) => Qr)) Qk))
 (fun _ => Qs [] [0] (fun z_ => Zcm1 s k)
 Qz
 (fun _ => Qs [] [] (fun z_ => Zcm0 k true)
 Qz
 (fun _ => Qs [(4, .bool)] [] (fun z_ => Zcm0 k z_.1)
 Qz
 (fun (x4, _) => Qr)))))) h_
abbrev Zcn0 (k : (Int → K)) (x4 : Int) : K :=
 k x4
abbrev Zcn1 (d : OA) (k : (Int → K)) (g_1 : Addr) : K :=
 tick fun _ =>
 ldI .i64 (g_1.add 0) fun x25_0 =>
 ldI .i64 (g_1.add 0) fun x28 =>
 Ya0 x25_0 1 fun x26 =>
 chk [.cell (g_1.add 0) (.int .i64 x28)] fun _ =>
 Ycx d x26 (IntKind.wrap .i64 (x28 - 1)) fun x30 =>
 Zcn0 k x30
abbrev Zcn2 (k : (Int → K)) (x4_1 : Int) : K :=
 k x4_1
abbrev Zcn3 (k : (Int → K)) (b_1 : Int) (c : ((Int × Unit) → K)) (e : Int) (x22 : Bool) : K :=
 brK x22
 (Zcn2 k e)
 (c ((IntKind.wrap .i64 (b_1 + 1)), ()))
abbrev Zcn4 (k : (Int → K)) (b_1 : Int) (c : ((Int × Unit) → K)) (e : Int) : K :=
 Zcn3 k b_1 c e (e != 0)
abbrev Zcn5 (d : OA) (k : (Int → K)) (g_1 : Addr) (b_1 : Int) (c : ((Int × Unit) → K)) : K :=
 ldI .i64 (g_1.add 0) fun x14_0 =>
 Ya0 x14_0 b_1 fun x16 =>
 Yel b_1 (0, (0, 0)) fun x19 =>
 Ya5 d x16 x19 fun x20 =>
 Zcn4 k b_1 c x20
abbrev Zcn6 (d : OA) (k : (Int → K)) (g_1 : Addr) (b_1 : Int) (c : ((Int × Unit) → K)) (x10 : Bool) : K :=
 brK x10
 (Zcn5 d k g_1 b_1 c)
 (Zcn1 d k g_1)
abbrev Zcn7 (d : OA) (k : (Int → K)) (g_1 : Addr) (b_1 : Int) (c : ((Int × Unit) → K)) : K :=
 ldI .i64 (g_1.add 0) fun x9 =>
 Zcn6 d k g_1 b_1 c (decide (b_1 < x9))
abbrev Zcn8 (d : OA) (k : (Int → K)) (g_1 : Addr) (b : Int) : K :=
 lp (fun (z_ : (Int × Unit)) c_ => Zcn7 d k g_1 z_.1 c_) (b, ())
abbrev Zcn9 (d : OA) (k : (Int → K)) (g_1 : Addr) : K :=
 Zcn8 d k g_1 1
abbrev Yvb (d : OA) (g : Int) : M Int := fun k =>
 alK (.cells #[.int .i64 g] 43) fun b_2 =>
 Zcn9 d k ⟨b_2, 0, none⟩
theorem Yqo (d : OA) (g : Int) (k : Int → K) (w : World) (h_ : Yvb d g k w) : Yg0 d g k w :=
 Yae (P := Tryz.prog) Tryz.func122 rfl (by kernel_rfl)
 (Qs [(3, .addr)] [0] (fun z_ => Zcn9 d k z_.1)
 Qz
 (fun (g_1, _) => Qs [] [0, 3] (fun z_ => Zcn1 d k g_1)
 (Qs [(5, .int .i64)] [0, 3] (fun z_ => Zcn8 d k g_1 z_.1)
 Qz
 (fun (b, _) => Qb (Ql [(5, .int .i64)] [0, 3] (fun (z_ : (Int × Unit)) c_ => Zcn7 d k g_1 z_.1 c_) (b, ())
 (fun (b_1, _) c => Qs [] [0, 3, 5] (fun z_ => Zcn5 d k g_1 b_1 c)
 (Qs [(10, .bool)] [0, 3, 5] (fun z_ => Zcn6 d k g_1 b_1 c z_.1)
 Qz
 (fun (x10, _) => Qc (x10) (Zcn5 d k g_1 b_1 c) (Zcn1 d k g_1) Qk Qx))
 (fun _ => Qs [] [0, 3, 5] (fun z_ => c ((IntKind.wrap .i64 (b_1 + 1)), ()))
 (Qb (Qs [(6, .int .i64)] [0, 3, 5] (fun z_ => Zcn4 k b_1 c z_.1)
 Qz
 (fun (e, _) => Qs [(22, .bool)] [0, 3, 5, 6] (fun z_ => Zcn3 k b_1 c e z_.1)
 Qz
 (fun (x22, _) => Qc (x22) (Zcn2 k e) (c ((IntKind.wrap .i64 (b_1 + 1)), ())) (Qs [(4, .int .i64)] [] (fun z_ => Zcn2 k z_.1)
 Qz
 (fun (x4_1, _) => Qr)) Qk))))
 (fun _ => Qz))))))
 (fun _ => Qs [(4, .int .i64)] [] (fun z_ => Zcn0 k z_.1)
 (RefK.draw [] [0, 0, 2, 0, 8, 24, 63, 127] [0, 1, 3, 4, 5, 2, 6, 7] [0, 1, 2, 3, 4, 5, 6, 7] (by kernel_rfl) (by kernel_rfl))
 (fun (x4, _) => Qr)))) h_
abbrev Zco0 (k : ((OA × Int) → K)) (x4 : Addr) (x5 : Int) : K :=
 k ((some x4), x5)
abbrev Zco1 (k : ((OA × Int) → K)) (g_1 : Addr) (t : OA) (x : OA) : K :=
 ldI .i64 (g_1.add 0) fun x41_0 =>
 alK (.cells #[.pointer t, .pointer x, .int .i64 x41_0] 51) fun b =>
 Zco0 k ⟨b, 0, none⟩ 0
abbrev Zco2 (k : ((OA × Int) → K)) (x4_1 : OA) (x5_1 : Int) : K :=
 k (x4_1, x5_1)
abbrev Zco3 (k : ((OA × Int) → K)) (g_1 : Addr) (t : OA) (e_1 : Int) (x : OA) (x37 : Bool) : K :=
 brK x37
 (Zco2 k none e_1)
 (Zco1 k g_1 t x)
abbrev Zco4 (k : ((OA × Int) → K)) (g_1 : Addr) (t : OA) (e_1 : Int) (x : OA) : K :=
 Zco3 k g_1 t e_1 x (e_1 != 0)
abbrev Zco5 (k : ((OA × Int) → K)) (g_1 : Addr) (t : OA) : K :=
 tick fun _ =>
 ldI .i64 (g_1.add 0) fun x30 =>
 Yeg t fun x32 =>
 chk [.cell (g_1.add 0) (.int .i64 x30)] fun _ =>
 Yms x30 x32 fun x33 =>
 Zco4 k g_1 t x33.2 x33.1
abbrev Zco6 (k : ((OA × Int) → K)) (x4_2 : OA) (x5_2 : Int) : K :=
 k (x4_2, x5_2)
abbrev Zco7 (k : ((OA × Int) → K)) (g_1 : Addr) (t : OA) (x27 : Bool) : K :=
 brK x27
 (Zco6 k none 40)
 (Zco5 k g_1 t)
abbrev Zco8 (k : ((OA × Int) → K)) (g_1 : Addr) (t : OA) (ok : Bool) : K :=
 Zco7 k g_1 t (!ok)
abbrev Zco9 (k : ((OA × Int) → K)) (g_1 : Addr) (t : OA) : K :=
 Ydp t fun x22 =>
 Ykg x22 fun x23 =>
 Zco8 k g_1 t x23.2
abbrev Zco10 (k : ((OA × Int) → K)) (x4_3 : OA) (x5_3 : Int) : K :=
 k (x4_3, x5_3)
abbrev Zco11 (k : ((OA × Int) → K)) (g_1 : Addr) (t : OA) (e : Int) (x18 : Bool) : K :=
 brK x18
 (Zco10 k none e)
 (Zco9 k g_1 t)
abbrev Zco12 (k : ((OA × Int) → K)) (g_1 : Addr) (t : OA) (e : Int) : K :=
 Zco11 k g_1 t e (e != 0)
abbrev Zco13 (d : OA) (k : ((OA × Int) → K)) (g_1 : Addr) : K :=
 ldI .i64 (g_1.add 0) fun x13_0 =>
 Yiv d x13_0 fun x14 =>
 Zco12 k g_1 x14.1 x14.2
abbrev Yw8 (d : OA) (g : Int) : M (OA × Int) := fun k =>
 alK (.cells #[.int .i64 g] 43) fun b_1 =>
 Zco13 d k ⟨b_1, 0, none⟩
theorem Yw9 (d : OA) (g : Int) (k : (OA × Int) → K) (w : World) (h_ : Yw8 d g k w) : Ymp d g k w :=
 Yae (P := Tryz.prog) Tryz.func123 rfl (by kernel_rfl)
 (Qs [(3, .addr)] [0] (fun z_ => Zco13 d k z_.1)
 Qz
 (fun (g_1, _) => Qs [(6, .ptr), (7, .int .i64)] [3] (fun z_ => Zco12 k g_1 z_.1 z_.2.1)
 Qz
 (fun (t, e, _) => Qs [] [3, 6] (fun z_ => Zco9 k g_1 t)
 (Qs [(18, .bool)] [3, 6, 7] (fun z_ => Zco11 k g_1 t e z_.1)
 Qz
 (fun (x18, _) => Qc (x18) (Zco10 k none e) (Zco9 k g_1 t) (Qs [(4, .ptr), (5, .int .i64)] [] (fun z_ => Zco10 k z_.1 z_.2.1)
 Qz
 (fun (x4_3, x5_3, _) => Qr)) Qk))
 (fun _ => Qs [] [3, 6] (fun z_ => Zco5 k g_1 t)
 (Qs [(9, .bool)] [3, 6] (fun z_ => Zco8 k g_1 t z_.1)
 Qz
 (fun (ok, _) => Qs [(27, .bool)] [3, 6] (fun z_ => Zco7 k g_1 t z_.1)
 Qz
 (fun (x27, _) => Qc (x27) (Zco6 k none 40) (Zco5 k g_1 t) (Qs [(4, .ptr), (5, .int .i64)] [] (fun z_ => Zco6 k z_.1 z_.2.1)
 Qz
 (fun (x4_2, x5_2, _) => Qr)) Qk)))
 (fun _ => Qs [(7, .int .i64), (10, .ptr)] [3, 6] (fun z_ => Zco4 k g_1 t z_.1 z_.2.1)
 (RefK.draw [] [0, 1, 0, 4, 15, 31, 63, 63, 127, 511] [0, 1, 2, 3, 4, 5, 6, 7, 8, 9] [0, 1, 2, 3, 4, 5, 6, 8, 7, 9] (by kernel_rfl) (by kernel_rfl))
 (fun (e_1, x, _) => Qs [] [3, 6, 10] (fun z_ => Zco1 k g_1 t x)
 (Qs [(37, .bool)] [3, 6, 7, 10] (fun z_ => Zco3 k g_1 t e_1 x z_.1)
 Qz
 (fun (x37, _) => Qc (x37) (Zco2 k none e_1) (Zco1 k g_1 t x) (Qs [(4, .ptr), (5, .int .i64)] [] (fun z_ => Zco2 k z_.1 z_.2.1)
 Qz
 (fun (x4_1, x5_1, _) => Qr)) Qk))
 (fun _ => Qs [(4, .addr), (5, .int .i64)] [] (fun z_ => Zco0 k z_.1 z_.2.1)
 Qz
 (fun (x4, x5, _) => Qr)))))))) h_
abbrev Zcp0 (k : (Fv → K)) (x2 : Fv) : K :=
 k x2
abbrev Zcp1 (k : (Fv → K)) (s_1 : Addr) : K :=
 Zcp0 k ⟨.func 188, #[], #[.pointer (some s_1)]⟩
abbrev Ytb (s : OA) : M Fv := fun k =>
 alK (.cells #[.pointer s] 44) fun b =>
 Zcp1 k ⟨b, 0, none⟩
theorem Ypl (s : OA) (k : Fv → K) (w : World) (h_ : Ytb s k w) : Ygb s k w :=
 Yae (P := Tryz.prog) Tryz.func130 rfl (by kernel_rfl)
 (Qs [(1, .addr)] [] (fun z_ => Zcp1 k z_.1)
 Qz
 (fun (s_1, _) => Qs [(2, .func)] [] (fun z_ => Zcp0 k z_.1)
 Qz
 (fun (x2, _) => Qr))) h_
abbrev Zcq0 (s : OA) (k : (Unit → K)) : K :=
 nn s fun x7 =>
 stK (Addr.add (x7.add 2) 0) (.int .i64 0) <|
 k ()
abbrev Yqp (s : OA) : M Unit := fun k =>
 nn s fun x3 =>
 ldS (x3.add 0) fun x5 =>
 semT Tryz.prog (Builtin.clear_ #[162] 0 #[x5.v]) (.tup []) fun r =>
 Zcq0 s k
theorem Ym6 (s : OA) (k : Unit → K) (w : World) (h_ : Yqp s k w) : Ydq s k w :=
 Yae (P := Tryz.prog) Tryz.func132 rfl (by kernel_rfl)
 (Qs [] [0] (fun z_ => Zcq0 s k)
 Qz
 (fun _ => Qz)) h_
abbrev Zcr0 (k : (Int → K)) (x2 : Int) : K :=
 k x2
abbrev Zcr1 (s : OA) (k : (Int → K)) : K :=
 nn s fun x4 =>
 ldI .i64 (x4.add 1) fun x6 =>
 Zcr0 k x6
abbrev Yqq (s : OA) : M Int := fun k =>
 Zcr1 s k
theorem Ym7 (s : OA) (k : Int → K) (w : World) (h_ : Yqq s k w) : Ye3 s k w :=
 Yae (P := Tryz.prog) Tryz.func134 rfl (by kernel_rfl)
 (Qs [] [0] (fun z_ => Zcr1 s k)
 Qz
 (fun _ => Qs [(2, .int .i64)] [] (fun z_ => Zcr0 k z_.1)
 Qz
 (fun (x2, _) => Qr))) h_
abbrev Zcs0 (k : (Bool → K)) (x4 : Bool) : K :=
 k x4
abbrev Zcs1 (s : OA) (at_1 : Int) (k : (Bool → K)) : K :=
 brK (decide (at_1 ≥ 0))
 (nn s fun x10 =>
 ldI .i64 (x10.add 1) fun x12 =>
 Zcs0 k (decide (at_1 < x12)))
 (Zcs0 k false)
abbrev Yvc (s : OA) (at_1 : Int) : M Bool := fun k =>
 Zcs1 s at_1 k
theorem Yqr (s : OA) (at_1 : Int) (k : Bool → K) (w : World) (h_ : Yvc s at_1 k w) : Ye5 s at_1 k w :=
 Yae (P := Tryz.prog) Tryz.func139 rfl (by kernel_rfl)
 (Qs [] [0, 1] (fun z_ => Zcs1 s at_1 k)
 Qz
 (fun _ => Qs [(4, .bool)] [] (fun z_ => Zcs0 k z_.1)
 (Qp [2])
 (fun (x4, _) => Qr))) h_
abbrev Zct0 (k : ((Int × (Int × Int)) → K)) (x4 : Addr) : K :=
 ldI .i64 (x4.add 0) fun x4_0 =>
 ldI .i64 (x4.add 1) fun x4_1 =>
 ldI .i64 (x4.add 2) fun x4_2 =>
 k (x4_0, (x4_1, x4_2))
abbrev Zct1 (t : OA) (block : Int) (k : ((Int × (Int × Int)) → K)) (x4 : Addr) : K :=
 nn t fun x18 =>
 ldS (x18.add 2) fun x20 =>
 ixS x20.p x20.n block 3 fun x22 =>
 ldI .i64 (x22.add 0) fun x23_0 =>
 ldI .i64 (x22.add 1) fun x23_1 =>
 ldI .i64 (x22.add 2) fun x23_2 =>
 stK (x4.add 0) (.int .i64 x23_0) <|
 stK (x4.add 1) (.int .i64 x23_1) <|
 stK (x4.add 2) (.int .i64 x23_2) <|
 Zct0 k x4
abbrev Zct2 (k : ((Int × (Int × Int)) → K)) (x4 : Addr) : K :=
 ldI .i64 (x4.add 0) fun x4_0_1 =>
 ldI .i64 (x4.add 1) fun x4_1_1 =>
 ldI .i64 (x4.add 2) fun x4_2_1 =>
 k (x4_0_1, (x4_1_1, x4_2_1))
abbrev Zct3 (k : ((Int × (Int × Int)) → K)) (x4 : Addr) : K :=
 stK (x4.add 0) (.int .i64 0) <|
 stK (x4.add 1) (.int .i64 0) <|
 stK (x4.add 2) (.int .i64 0) <|
 Zct2 k x4
abbrev Zct4 (t : OA) (block : Int) (k : ((Int × (Int × Int)) → K)) (x4 : Addr) (x15 : Bool) : K :=
 brK x15
 (Zct3 k x4)
 (Zct1 t block k x4)
abbrev Zct5 (t : OA) (block : Int) (k : ((Int × (Int × Int)) → K)) (x4 : Addr) : K :=
 brK (decide (block < 1))
 (Zct4 t block k x4 true)
 (nn t fun x10 =>
 ldS (x10.add 2) fun x12 =>
 Zct4 t block k x4 (decide (block ≥ ((x12.n : Nat) : Int))))
abbrev Yqs (t : OA) (block : Int) : M (Int × (Int × Int)) := fun k =>
 alK (.cells #[.int .i64 0, .int .i64 0, .int .i64 0] 143) fun b =>
 Zct5 t block k ⟨b, 0, none⟩
theorem Ym8 (t : OA) (block : Int) (k : (Int × (Int × Int)) → K) (w : World) (h_ : Yqs t block k w) : Ycr t block k w :=
 Yae (P := Tryz.prog) Tryz.func141 rfl (by kernel_rfl)
 (Qs [(4, .addr)] [0, 1] (fun z_ => Zct5 t block k z_.1)
 Qz
 (fun (x4, _) => Qs [] [0, 1, 4] (fun z_ => Zct1 t block k x4)
 (Qs [(15, .bool)] [0, 1, 4] (fun z_ => Zct4 t block k x4 z_.1)
 (Qp [2])
 (fun (x15, _) => Qc (x15) (Zct3 k x4) (Zct1 t block k x4) (Qs [] [4] (fun z_ => Zct2 k x4)
 Qz
 (fun _ => Qr)) Qk))
 (fun _ => Qs [] [4] (fun z_ => Zct0 k x4)
 Qz
 (fun _ => Qr)))) h_
abbrev Zcu0 (k : (Int → K)) (x6 : Int) : K :=
 k x6
abbrev Zcu1 (x0 : OA) (x1 : Int) (x2 : Sl) (k : (Int → K)) : K :=
 tick fun _ =>
 nn x0 fun x87 =>
 ldP (x87.add 0) fun x89 =>
 nn x0 fun x91 =>
 ldI .i64 (Addr.add (x91.add 1) 0) fun x93_0 =>
 Ya0 x93_0 x1 fun x95 =>
 chk [.cell (x87.add 0) (.pointer x89)] fun _ =>
 Ycx x89 x95 ((x2.n : Nat) : Int) fun x98 =>
 Zcu0 k x98
abbrev Zcu2 (x0 : OA) (x1 : Int) (x50_1 : Int) (c : ((Int × Unit) → K)) (x9 : Int) (x10 : Addr) : K :=
 tick fun _ =>
 nn x0 fun x77 =>
 ldS (x77.add 2) fun x79 =>
 ldI .i64 (x10.add 0) fun x83_0 =>
 ldI .i64 (x10.add 1) fun x83_1 =>
 ldI .i64 (x10.add 2) fun x83_2 =>
 ixS x79.p x79.n (IntKind.wrap .i64 (x1 + x9)) 3 fun x84 =>
 stK (x84.add 0) (.int .i64 x83_0) <|
 stK (x84.add 1) (.int .i64 x83_1) <|
 stK (x84.add 2) (.int .i64 x83_2) <|
 c ((IntKind.wrap .i64 (x50_1 + 1)), ())
abbrev Zcu3 (k : (Int → K)) (x6_1 : Int) : K :=
 k x6_1
abbrev Zcu4 (x0 : OA) (x1 : Int) (k : (Int → K)) (x50_1 : Int) (c : ((Int × Unit) → K)) (x9 : Int) (x10 : Addr) (x11 : Int) (x74 : Bool) : K :=
 brK x74
 (Zcu3 k x11)
 (Zcu2 x0 x1 x50_1 c x9 x10)
abbrev Zcu5 (x0 : OA) (x1 : Int) (k : (Int → K)) (x50_1 : Int) (c : ((Int × Unit) → K)) (x9 : Int) (x10 : Addr) (x11 : Int) : K :=
 Zcu4 x0 x1 k x50_1 c x9 x10 x11 (x11 != 0)
abbrev Zcu6 (x0 : OA) (x1 : Int) (k : (Int → K)) (x50_1 : Int) (c : ((Int × Unit) → K)) (x9 : Int) (x10 : Addr) : K :=
 tick fun _ =>
 nn x0 fun x56 =>
 ldP (x56.add 0) fun x58 =>
 nn x0 fun x60 =>
 ldI .i64 (Addr.add (x60.add 1) 0) fun x62_0 =>
 ldI .i64 (x10.add 0) fun x70_0 =>
 ldI .i64 (x10.add 1) fun x70_1 =>
 ldI .i64 (x10.add 2) fun x70_2 =>
 Ya0 x62_0 (IntKind.wrap .i64 (x1 + x9)) fun x66 =>
 chk [.cell (x10.add 0) (.int .i64 x70_0), .cell (x10.add 1) (.int .i64 x70_1), .cell (x10.add 2) (.int .i64 x70_2), .cell (x56.add 0) (.pointer x58)] fun _ =>
 Yel (IntKind.wrap .i64 (x1 + x9)) (x70_0, (x70_1, x70_2)) fun x71 =>
 chk [.cell (x56.add 0) (.pointer x58)] fun _ =>
 Ya5 x58 x66 x71 fun x72 =>
 Zcu5 x0 x1 k x50_1 c x9 x10 x72
abbrev Zcu7 (x0 : OA) (x1 : Int) (k : (Int → K)) (x48 : Sl) (x50_1 : Int) (c : ((Int × Unit) → K)) : K :=
 ixS x48.p x48.n x50_1 3 fun x53 =>
 ldI .i64 (x53.add 0) fun x54_0 =>
 ldI .i64 (x53.add 1) fun x54_1 =>
 ldI .i64 (x53.add 2) fun x54_2 =>
 alK (.cells #[.int .i64 0, .int .i64 0, .int .i64 0] 143) fun b =>
 stK (Addr.add ⟨b, 0, none⟩ 0) (.int .i64 x54_0) <|
 stK (Addr.add ⟨b, 0, none⟩ 1) (.int .i64 x54_1) <|
 stK (Addr.add ⟨b, 0, none⟩ 2) (.int .i64 x54_2) <|
 Zcu6 x0 x1 k x50_1 c x50_1 ⟨b, 0, none⟩
abbrev Zcu8 (x0 : OA) (x1 : Int) (x2 : Sl) (k : (Int → K)) (x48 : Sl) (x50_1 : Int) (c : ((Int × Unit) → K)) (x51 : Bool) : K :=
 brK x51
 (Zcu7 x0 x1 k x48 x50_1 c)
 (Zcu1 x0 x1 x2 k)
abbrev Zcu9 (x0 : OA) (x1 : Int) (x2 : Sl) (k : (Int → K)) (x48 : Sl) (x49 : Int) (x50_1 : Int) (c : ((Int × Unit) → K)) : K :=
 Zcu8 x0 x1 x2 k x48 x50_1 c (decide (x50_1 < x49))
abbrev Zcu10 (x0 : OA) (x1 : Int) (x2 : Sl) (k : (Int → K)) (x48 : Sl) (x49 : Int) (x50 : Int) : K :=
 lp (fun (z_ : (Int × Unit)) c_ => Zcu9 x0 x1 x2 k x48 x49 z_.1 c_) (x50, ())
abbrev Zcu11 (k : (Int → K)) (x6_2 : Int) : K :=
 k x6_2
abbrev Zcu12 (x0 : OA) (x1 : Int) (x2 : Sl) (k : (Int → K)) (x47 : Bool) : K :=
 brK x47
 (Zcu11 k 0)
 (Zcu10 x0 x1 x2 k x2 ((x2.n : Nat) : Int) 0)
abbrev Zcu13 (k : (Int → K)) (x6_3 : Int) : K :=
 k x6_3
abbrev Zcu14 (k : (Int → K)) (x37_1 : Int) (c_1 : ((Int × Unit) → K)) (x43 : Bool) : K :=
 brK x43
 (Zcu13 k 1)
 (c_1 ((IntKind.wrap .i64 (x37_1 + 1)), ()))
abbrev Zcu15 (k : (Int → K)) (x37_1 : Int) (c_1 : ((Int × Unit) → K)) (x8 : Addr) : K :=
 ldI .i64 (x8.add 0) fun x41_0 =>
 ldI .i64 (x8.add 1) fun x41_1 =>
 ldI .i64 (x8.add 2) fun x41_2 =>
 Ybz (x41_0, (x41_1, x41_2)) fun x42 =>
 Zcu14 k x37_1 c_1 (!x42)
abbrev Zcu16 (k : (Int → K)) (x35 : Sl) (x37_1 : Int) (c_1 : ((Int × Unit) → K)) : K :=
 ixS x35.p x35.n x37_1 3 fun x39 =>
 ldI .i64 (x39.add 0) fun x40_0 =>
 ldI .i64 (x39.add 1) fun x40_1 =>
 ldI .i64 (x39.add 2) fun x40_2 =>
 alK (.cells #[.int .i64 0, .int .i64 0, .int .i64 0] 143) fun b_1 =>
 stK (Addr.add ⟨b_1, 0, none⟩ 0) (.int .i64 x40_0) <|
 stK (Addr.add ⟨b_1, 0, none⟩ 1) (.int .i64 x40_1) <|
 stK (Addr.add ⟨b_1, 0, none⟩ 2) (.int .i64 x40_2) <|
 Zcu15 k x37_1 c_1 ⟨b_1, 0, none⟩
abbrev Zcu17 (x0 : OA) (x1 : Int) (x2 : Sl) (k : (Int → K)) (x35 : Sl) (x37_1 : Int) (c_1 : ((Int × Unit) → K)) (x38 : Bool) : K :=
 brK x38
 (Zcu16 k x35 x37_1 c_1)
 (Zcu12 x0 x1 x2 k (((x2.n : Nat) : Int) == 0))
abbrev Zcu18 (x0 : OA) (x1 : Int) (x2 : Sl) (k : (Int → K)) (x35 : Sl) (x36 : Int) (x37_1 : Int) (c_1 : ((Int × Unit) → K)) : K :=
 Zcu17 x0 x1 x2 k x35 x37_1 c_1 (decide (x37_1 < x36))
abbrev Zcu19 (x0 : OA) (x1 : Int) (x2 : Sl) (k : (Int → K)) (x35 : Sl) (x36 : Int) (x37 : Int) : K :=
 lp (fun (z_ : (Int × Unit)) c_ => Zcu18 x0 x1 x2 k x35 x36 z_.1 c_) (x37, ())
abbrev Zcu20 (k : (Int → K)) (x6_4 : Int) : K :=
 k x6_4
abbrev Zcu21 (x0 : OA) (x1 : Int) (x2 : Sl) (k : (Int → K)) (x34 : Bool) : K :=
 brK x34
 (Zcu20 k 1)
 (Zcu19 x0 x1 x2 k x2 ((x2.n : Nat) : Int) 0)
abbrev Zcu22 (x0 : OA) (x1 : Int) (x2 : Sl) (k : (Int → K)) : K :=
 brK (decide (x1 < 1))
 (Zcu21 x0 x1 x2 k true)
 (nn x0 fun x17 =>
 ldS (x17.add 2) fun x19 =>
 brK (decide (x1 > ((x19.n : Nat) : Int)))
 (Zcu21 x0 x1 x2 k true)
 (nn x0 fun x27 =>
 ldS (x27.add 2) fun x29 =>
 Zcu21 x0 x1 x2 k (decide (((x2.n : Nat) : Int) > (IntKind.wrap .i64 (((x29.n : Nat) : Int) - x1))))))
abbrev Yjn (x0 : OA) (x1 : Int) (x2 : Sl) : M Int := fun k =>
 Zcu22 x0 x1 x2 k
theorem Ym9 (x0 : OA) (x1 : Int) (x2 : Sl) (k : Int → K) (w : World) (h_ : Yjn x0 x1 x2 k w) : Ya6 x0 x1 x2 k w :=
 Yae (P := Tryz.prog) Tryz.func142 rfl (by kernel_rfl)
 (Qs [] [0, 1, 2] (fun z_ => Zcu22 x0 x1 x2 k)
 Qz
 (fun _ => Qs [] [0, 1, 2] (fun z_ => Zcu19 x0 x1 x2 k x2 ((x2.n : Nat) : Int) 0)
 (Qs [(34, .bool)] [0, 1, 2] (fun z_ => Zcu21 x0 x1 x2 k z_.1)
 (Qp [2, 11])
 (fun (x34, _) => Qc (x34) (Zcu20 k 1) (Zcu19 x0 x1 x2 k x2 ((x2.n : Nat) : Int) 0) (Qs [(6, .int .i64)] [] (fun z_ => Zcu20 k z_.1)
 Qz
 (fun (x6_4, _) => Qr)) Qk))
 (fun _ => Qs [] [0, 1, 2] (fun z_ => Zcu12 x0 x1 x2 k (((x2.n : Nat) : Int) == 0))
 (Qs [(35, .slice), (36, .int .i64), (37, .int .i64)] [0, 1, 2] (fun z_ => Zcu19 x0 x1 x2 k z_.1 z_.2.1 z_.2.2.1)
 Qz
 (fun (x35, x36, x37, _) => Qb (Ql [(37, .int .i64)] [0, 1, 2, 35, 36] (fun (z_ : (Int × Unit)) c_ => Zcu18 x0 x1 x2 k x35 x36 z_.1 c_) (x37, ())
 (fun (x37_1, _) c_1 => Qs [(38, .bool)] [0, 1, 2, 35, 36, 37] (fun z_ => Zcu17 x0 x1 x2 k x35 x37_1 c_1 z_.1)
 Qz
 (fun (x38, _) => Qs [] [0, 1, 2, 35, 36, 37] (fun z_ => Zcu16 k x35 x37_1 c_1)
 (Qc (x38) (Zcu16 k x35 x37_1 c_1) (Zcu12 x0 x1 x2 k (((x2.n : Nat) : Int) == 0)) Qk Qx)
 (fun _ => Qs [] [0, 1, 2, 35, 36, 37] (fun z_ => c_1 ((IntKind.wrap .i64 (x37_1 + 1)), ()))
 (Qb (Qs [(8, .addr)] [0, 1, 2, 35, 36, 37] (fun z_ => Zcu15 k x37_1 c_1 z_.1)
 Qz
 (fun (x8, _) => Qs [(43, .bool)] [0, 1, 2, 35, 36, 37] (fun z_ => Zcu14 k x37_1 c_1 z_.1)
 Qz
 (fun (x43, _) => Qc (x43) (Zcu13 k 1) (c_1 ((IntKind.wrap .i64 (x37_1 + 1)), ())) (Qs [(6, .int .i64)] [] (fun z_ => Zcu13 k z_.1)
 Qz
 (fun (x6_3, _) => Qr)) Qk))))
 (fun _ => Qz)))))))
 (fun _ => Qs [] [0, 1, 2] (fun z_ => Zcu10 x0 x1 x2 k x2 ((x2.n : Nat) : Int) 0)
 (Qs [(47, .bool)] [0, 1, 2] (fun z_ => Zcu12 x0 x1 x2 k z_.1)
 Qz
 (fun (x47, _) => Qc (x47) (Zcu11 k 0) (Zcu10 x0 x1 x2 k x2 ((x2.n : Nat) : Int) 0) (Qs [(6, .int .i64)] [] (fun z_ => Zcu11 k z_.1)
 Qz
 (fun (x6_2, _) => Qr)) Qk))
 (fun _ => Qs [] [0, 1, 2] (fun z_ => Zcu1 x0 x1 x2 k)
 (Qs [(48, .slice), (49, .int .i64), (50, .int .i64)] [0, 1, 2] (fun z_ => Zcu10 x0 x1 x2 k z_.1 z_.2.1 z_.2.2.1)
 Qz
 (fun (x48, x49, x50, _) => Qb (Ql [(50, .int .i64)] [0, 1, 2, 48, 49] (fun (z_ : (Int × Unit)) c_ => Zcu9 x0 x1 x2 k x48 x49 z_.1 c_) (x50, ())
 (fun (x50_1, _) c => Qs [(51, .bool)] [0, 1, 2, 48, 49, 50] (fun z_ => Zcu8 x0 x1 x2 k x48 x50_1 c z_.1)
 Qz
 (fun (x51, _) => Qs [] [0, 1, 2, 48, 49, 50] (fun z_ => Zcu7 x0 x1 k x48 x50_1 c)
 (Qc (x51) (Zcu7 x0 x1 k x48 x50_1 c) (Zcu1 x0 x1 x2 k) Qk Qx)
 (fun _ => Qs [] [0, 1, 2, 48, 49, 50] (fun z_ => c ((IntKind.wrap .i64 (x50_1 + 1)), ()))
 (Qb (Qs [(9, .int .i64), (10, .addr)] [0, 1, 2, 48, 49, 50] (fun z_ => Zcu6 x0 x1 k x50_1 c z_.1 z_.2.1)
 Qz
 (fun (x9, x10, _) => Qs [] [0, 1, 2, 9, 10, 48, 49, 50] (fun z_ => Zcu2 x0 x1 x50_1 c x9 x10)
 (Qs [(11, .int .i64)] [0, 1, 2, 9, 10, 48, 49, 50] (fun z_ => Zcu5 x0 x1 k x50_1 c x9 x10 z_.1)
 (RefK.draw [] [0, 1, 3, 7, 0, 16, 48, 112, 0, 0, 768, 2032, 0, 0, 12288, 0, 65520, 131071, 262143] [0, 1, 2, 3, 4, 5, 6, 7, 8, 9, 10, 12, 13, 14, 15, 11, 16, 17, 18] [0, 1, 2, 3, 4, 5, 6, 7, 8, 9, 10, 11, 12, 13, 14, 15, 16, 17, 18] (by kernel_rfl) (by kernel_rfl))
 (fun (x11, _) => Qs [(74, .bool)] [0, 1, 2, 9, 10, 11, 48, 49, 50] (fun z_ => Zcu4 x0 x1 k x50_1 c x9 x10 x11 z_.1)
 Qz
 (fun (x74, _) => Qc (x74) (Zcu3 k x11) (Zcu2 x0 x1 x50_1 c x9 x10) (Qs [(6, .int .i64)] [] (fun z_ => Zcu3 k z_.1)
 Qz
 (fun (x6_1, _) => Qr)) Qk)))
 (fun _ => RefK.draw [] [0, 1, 3, 7, 0, 0, 48, 0, 255, 511] [0, 1, 2, 3, 4, 5, 6, 7, 8, 9] [0, 1, 2, 3, 4, 5, 6, 7, 8, 9] (by kernel_rfl) (by kernel_rfl)))))
 (fun _ => Qz)))))))
 (fun _ => Qs [(6, .int .i64)] [] (fun z_ => Zcu0 k z_.1)
 (RefK.draw [] [0, 1, 3, 7, 0, 16, 48, 112, 0, 496, 0, 1024, 4095, 8191] [0, 1, 2, 3, 4, 5, 6, 7, 8, 10, 11, 9, 12, 13] [0, 1, 2, 3, 4, 5, 6, 7, 8, 9, 10, 11, 12, 13] (by kernel_rfl) (by kernel_rfl))
 (fun (x6, _) => Qr))))))) h_
abbrev Zcv0 (k : (Int → K)) (x6 : Int) : K :=
 k x6
abbrev Zcv1 (x0 : OA) (k : (Int → K)) (x1_1 : Int) (x2_2 : Int) : K :=
 Yck x0 x1_1 x2_2 fun x94 =>
 Zcv0 k 0
abbrev Zcv2 (x0 : OA) (k : (Int → K)) (x1_1 : Int) (x2_1 : Int) (x11 : Int) : K :=
 Yb8 x0 (IntKind.wrap .i64 (x1_1 + x2_1)) fun x87 =>
 Zcv1 x0 k x1_1 (IntKind.wrap .i64 (x2_1 + x11))
abbrev Zcv3 (x0 : OA) (k : (Int → K)) (x1_1 : Int) (x2_1 : Int) (x11 : Int) (x82 : Bool) : K :=
 brK x82
 (Zcv2 x0 k x1_1 x2_1 x11)
 (Zcv1 x0 k x1_1 x2_1)
abbrev Zcv4 (x0 : OA) (k : (Int → K)) (x1_1 : Int) (x2_1 : Int) (x11 : Int) (x12 : Bool) : K :=
 Zcv3 x0 k x1_1 x2_1 x11 x12
abbrev Zcv5 (x0 : OA) (k : (Int → K)) (x1_1 : Int) (x2_1 : Int) : K :=
 nn x0 fun x73 =>
 ldM (x73.add 0) fun x75 =>
 lkE Tryz.prog 3 (.int .i64 0) (.sc (.int .i64)) x75 (.int .i64 (IntKind.wrap .i64 (x1_1 + x2_1))) fun r ob x79 ok =>
 Zcv4 x0 k x1_1 x2_1 x79 ok
abbrev Zcv6 (x0 : OA) (x2 : Int) (k : (Int → K)) (x8 : Int) (x10 : Int) : K :=
 Yb8 x0 x8 fun x66 =>
 Zcv5 x0 k x8 (IntKind.wrap .i64 (x2 + x10))
abbrev Zcv7 (x0 : OA) (x2 : Int) (k : (Int → K)) (x8 : Int) : K :=
 nn x0 fun x59 =>
 ldM (x59.add 0) fun x61 =>
 lkE Tryz.prog 3 (.int .i64 0) (.sc (.int .i64)) x61 (.int .i64 x8) fun r_1 ob_1 x63 ok_1 =>
 Zcv6 x0 x2 k x8 x63
abbrev Zcv8 (x0 : OA) (x1 : Int) (x2 : Int) (k : (Int → K)) (x8 : Int) (x57 : Bool) : K :=
 brK x57
 (Zcv7 x0 x2 k x8)
 (Zcv5 x0 k x1 x2)
abbrev Zcv9 (x0 : OA) (x1 : Int) (x2 : Int) (k : (Int → K)) (x8 : Int) (x9 : Bool) : K :=
 Zcv8 x0 x1 x2 k x8 x9
abbrev Zcv10 (x0 : OA) (x1 : Int) (x2 : Int) (k : (Int → K)) : K :=
 nn x0 fun x50 =>
 ldM (x50.add 1) fun x52 =>
 lkE Tryz.prog 3 (.int .i64 0) (.sc (.int .i64)) x52 (.int .i64 x1) fun r_2 ob_2 x54 ok_2 =>
 Zcv9 x0 x1 x2 k x54 ok_2
abbrev Zcv11 (k : (Int → K)) (x6_1 : Int) : K :=
 k x6_1
abbrev Zcv12 (k : (Int → K)) (x7_1 : Int) (c : ((Int × Unit) → K)) (x47 : Bool) : K :=
 brK x47
 (Zcv11 k 41)
 (c ((IntKind.wrap .i64 (x7_1 + 1)), ()))
abbrev Zcv13 (x0 : OA) (k : (Int → K)) (x7_1 : Int) (c : ((Int × Unit) → K)) : K :=
 Ygc x0 x7_1 fun x47_1 =>
 Zcv12 k x7_1 c x47_1
abbrev Zcv14 (x0 : OA) (x1 : Int) (x2 : Int) (k : (Int → K)) (x7_1 : Int) (c : ((Int × Unit) → K)) (x42 : Bool) : K :=
 brK x42
 (Zcv13 x0 k x7_1 c)
 (Zcv10 x0 x1 x2 k)
abbrev Zcv15 (x0 : OA) (x1 : Int) (x2 : Int) (k : (Int → K)) (x7_1 : Int) (c : ((Int × Unit) → K)) : K :=
 Zcv14 x0 x1 x2 k x7_1 c (decide (x7_1 < (IntKind.wrap .i64 (x1 + x2))))
abbrev Zcv16 (x0 : OA) (x1 : Int) (x2 : Int) (k : (Int → K)) (x7 : Int) : K :=
 lp (fun (z_ : (Int × Unit)) c_ => Zcv15 x0 x1 x2 k z_.1 c_) (x7, ())
abbrev Zcv17 (k : (Int → K)) (x6_2 : Int) : K :=
 k x6_2
abbrev Zcv18 (x0 : OA) (x1 : Int) (x2 : Int) (k : (Int → K)) (x36 : Bool) : K :=
 brK x36
 (Zcv17 k 1)
 (Zcv16 x0 x1 x2 k x1)
abbrev Zcv19 (x0 : OA) (x1 : Int) (x2 : Int) (k : (Int → K)) : K :=
 brK (decide (x1 < 1))
 (Zcv18 x0 x1 x2 k true)
 (brK (decide (x2 < 1))
 (Zcv18 x0 x1 x2 k true)
 (nn x0 fun x22 =>
 ldI .i64 (x22.add 2) fun x24 =>
 brK (decide (x1 ≥ x24))
 (Zcv18 x0 x1 x2 k true)
 (nn x0 fun x30 =>
 ldI .i64 (x30.add 2) fun x32 =>
 Zcv18 x0 x1 x2 k (decide (x2 > (IntKind.wrap .i64 (x32 - x1)))))))
abbrev Yk0 (x0 : OA) (x1 : Int) (x2 : Int) : M Int := fun k =>
 Zcv19 x0 x1 x2 k
theorem Yod (x0 : OA) (x1 : Int) (x2 : Int) (k : Int → K) (w : World) (h_ : Yk0 x0 x1 x2 k w) : Yb7 x0 x1 x2 k w :=
 Yae (P := Tryz.prog) Tryz.func143 rfl (by kernel_rfl)
 (Qs [] [0, 1, 2] (fun z_ => Zcv19 x0 x1 x2 k)
 Qz
 (fun _ => Qs [] [0, 1, 2] (fun z_ => Zcv16 x0 x1 x2 k x1)
 (Qs [(36, .bool)] [0, 1, 2] (fun z_ => Zcv18 x0 x1 x2 k z_.1)
 (Qp [2, 6, 14])
 (fun (x36, _) => Qc (x36) (Zcv17 k 1) (Zcv16 x0 x1 x2 k x1) (Qs [(6, .int .i64)] [] (fun z_ => Zcv17 k z_.1)
 Qz
 (fun (x6_2, _) => Qr)) Qk))
 (fun _ => Qs [] [0, 1, 2] (fun z_ => Zcv10 x0 x1 x2 k)
 (Qs [(7, .int .i64)] [0, 1, 2] (fun z_ => Zcv16 x0 x1 x2 k z_.1)
 Qz
 (fun (x7, _) => Qb (Ql [(7, .int .i64)] [0, 1, 2] (fun (z_ : (Int × Unit)) c_ => Zcv15 x0 x1 x2 k z_.1 c_) (x7, ())
 (fun (x7_1, _) c => Qs [] [0, 1, 2, 7] (fun z_ => Zcv13 x0 k x7_1 c)
 (Qs [(42, .bool)] [0, 1, 2, 7] (fun z_ => Zcv14 x0 x1 x2 k x7_1 c z_.1)
 Qz
 (fun (x42, _) => Qc (x42) (Zcv13 x0 k x7_1 c) (Zcv10 x0 x1 x2 k) Qk Qx))
 (fun _ => Qs [] [0, 1, 2, 7] (fun z_ => c ((IntKind.wrap .i64 (x7_1 + 1)), ()))
 (Qb (Qs [(47, .bool)] [0, 1, 2, 7] (fun z_ => Zcv12 k x7_1 c z_.1)
 Qz
 (fun (x47, _) => Qc (x47) (Zcv11 k 41) (c ((IntKind.wrap .i64 (x7_1 + 1)), ())) (Qs [(6, .int .i64)] [] (fun z_ => Zcv11 k z_.1)
 Qz
 (fun (x6_1, _) => Qr)) Qk)))
 (fun _ => Qz))))))
 (fun _ => Qs [(1, .int .i64), (2, .int .i64)] [0] (fun z_ => Zcv5 x0 k z_.1 z_.2.1)
 (Qs [(8, .int .i64), (9, .bool)] [0, 1, 2] (fun z_ => Zcv9 x0 x1 x2 k z_.1 z_.2.1)
 Qz
 (fun (x8, x9, _) => Qs [(57, .bool)] [0, 1, 2, 8] (fun z_ => Zcv8 x0 x1 x2 k x8 z_.1)
 Qz
 (fun (x57, _) => Qc (x57) (Zcv7 x0 x2 k x8) (Zcv5 x0 k x1 x2) (Qs [(10, .int .i64)] [0, 2, 8] (fun z_ => Zcv6 x0 x2 k x8 z_.1)
 Qz
 (fun (x10, _) => Qs [] [0, 2, 8, 10] (fun z_ => Zcv5 x0 k x8 (IntKind.wrap .i64 (x2 + x10)))
 Qz
 (fun _ => Qz))) Qk)))
 (fun (x1_1, x2_1, _) => Qs [(2, .int .i64)] [0, 1] (fun z_ => Zcv1 x0 k x1_1 z_.1)
 (Qs [(11, .int .i64), (12, .bool)] [0, 1, 2] (fun z_ => Zcv4 x0 k x1_1 x2_1 z_.1 z_.2.1)
 Qz
 (fun (x11, x12, _) => Qs [(82, .bool)] [0, 1, 2, 11] (fun z_ => Zcv3 x0 k x1_1 x2_1 x11 z_.1)
 Qz
 (fun (x82, _) => Qc (x82) (Zcv2 x0 k x1_1 x2_1 x11) (Zcv1 x0 k x1_1 x2_1) (Qs [] [0, 1, 2, 11] (fun z_ => Zcv1 x0 k x1_1 (IntKind.wrap .i64 (x2_1 + x11)))
 Qz
 (fun _ => Qz)) Qk)))
 (fun (x2_2, _) => Qs [] [] (fun z_ => Zcv0 k 0)
 Qz
 (fun _ => Qs [(6, .int .i64)] [] (fun z_ => Zcv0 k z_.1)
 Qz
 (fun (x6, _) => Qr)))))))) h_
abbrev Zcw0 (k : (Bool → K)) (x6 : Bool) : K :=
 k x6
abbrev Zcw1 (k : (Bool → K)) (x6_1 : Bool) : K :=
 k x6_1
abbrev Zcw2 (k : (Bool → K)) (x19_1 : Int) (c : ((Int × Unit) → K)) (x31 : Bool) : K :=
 brK x31
 (Zcw1 k true)
 (c ((IntKind.wrap .i64 (x19_1 + 1)), ()))
abbrev Zcw3 (l : OA) (k_1 : Int) (at_1 : Int) (k : (Bool → K)) (x19_1 : Int) (c : ((Int × Unit) → K)) (m : Int) : K :=
 nn l fun x23 =>
 ldM (x23.add 32) fun x25 =>
 lkE Tryz.prog 201 (.slice none 0 0) (.sc (.slice)) x25 (.agg #[.int .i64 m, .int .i64 k_1]) fun r ob x29 ok =>
 Ybm x29 at_1 fun x31_1 =>
 Zcw2 k x19_1 c x31_1
abbrev Zcw4 (l : OA) (k_1 : Int) (at_1 : Int) (k : (Bool → K)) (x19_1 : Int) (c : ((Int × Unit) → K)) (x20 : Bool) : K :=
 brK x20
 (Zcw3 l k_1 at_1 k x19_1 c x19_1)
 (Zcw0 k false)
abbrev Zcw5 (l : OA) (k_1 : Int) (at_1 : Int) (k : (Bool → K)) (x19_1 : Int) (c : ((Int × Unit) → K)) : K :=
 Zcw4 l k_1 at_1 k x19_1 c (decide (x19_1 < 4))
abbrev Zcw6 (l : OA) (k_1 : Int) (at_1 : Int) (k : (Bool → K)) (x19 : Int) : K :=
 lp (fun (z_ : (Int × Unit)) c_ => Zcw5 l k_1 at_1 k z_.1 c_) (x19, ())
abbrev Zcw7 (k : (Bool → K)) (x6_2 : Bool) : K :=
 k x6_2
abbrev Zcw8 (l : OA) (k_1 : Int) (at_1 : Int) (k : (Bool → K)) (x18 : Bool) : K :=
 brK x18
 (Zcw7 k true)
 (Zcw6 l k_1 at_1 k 0)
abbrev Zcw9 (l : OA) (k_1 : Int) (at_1 : Int) (k : (Bool → K)) : K :=
 nn l fun x13 =>
 ixA (x13.add 0) 32 k_1 1 fun x15 =>
 ldS x15 fun x16 =>
 Ybm x16 at_1 fun x18_1 =>
 Zcw8 l k_1 at_1 k x18_1
abbrev Zcw10 (k : (Bool → K)) (x6_3 : Bool) : K :=
 k x6_3
abbrev Zcw11 (l : OA) (k_1 : Int) (at_1 : Int) (k : (Bool → K)) (x10 : Bool) : K :=
 brK x10
 (Zcw10 k false)
 (Zcw9 l k_1 at_1 k)
abbrev Zcw12 (l : OA) (k_1 : Int) (at_1 : Int) (k : (Bool → K)) : K :=
 Ya8 k_1 fun x9 =>
 Zcw11 l k_1 at_1 k (!x9)
abbrev Ytc (l : OA) (k_1 : Int) (at_1 : Int) : M Bool := fun k =>
 Zcw12 l k_1 at_1 k
theorem Ypm (l : OA) (k_1 : Int) (at_1 : Int) (k : Bool → K) (w : World) (h_ : Ytc l k_1 at_1 k w) : Yeq l k_1 at_1 k w :=
 Yae (P := Tryz.prog) Tryz.func144 rfl (by kernel_rfl)
 (Qs [] [0, 1, 2] (fun z_ => Zcw12 l k_1 at_1 k)
 Qz
 (fun _ => Qs [] [0, 1, 2] (fun z_ => Zcw9 l k_1 at_1 k)
 (Qs [(10, .bool)] [0, 1, 2] (fun z_ => Zcw11 l k_1 at_1 k z_.1)
 Qz
 (fun (x10, _) => Qc (x10) (Zcw10 k false) (Zcw9 l k_1 at_1 k) (Qs [(6, .bool)] [] (fun z_ => Zcw10 k z_.1)
 Qz
 (fun (x6_3, _) => Qr)) Qk))
 (fun _ => Qs [] [0, 1, 2] (fun z_ => Zcw6 l k_1 at_1 k 0)
 (Qs [(18, .bool)] [0, 1, 2] (fun z_ => Zcw8 l k_1 at_1 k z_.1)
 Qz
 (fun (x18, _) => Qc (x18) (Zcw7 k true) (Zcw6 l k_1 at_1 k 0) (Qs [(6, .bool)] [] (fun z_ => Zcw7 k z_.1)
 Qz
 (fun (x6_2, _) => Qr)) Qk))
 (fun _ => Qs [] [] (fun z_ => Zcw0 k false)
 (Qs [(19, .int .i64)] [0, 1, 2] (fun z_ => Zcw6 l k_1 at_1 k z_.1)
 Qz
 (fun (x19, _) => Qb (Ql [(19, .int .i64)] [0, 1, 2] (fun (z_ : (Int × Unit)) c_ => Zcw5 l k_1 at_1 k z_.1 c_) (x19, ())
 (fun (x19_1, _) c => Qs [(20, .bool)] [0, 1, 2, 19] (fun z_ => Zcw4 l k_1 at_1 k x19_1 c z_.1)
 Qz
 (fun (x20, _) => Qs [] [0, 1, 2, 19] (fun z_ => Zcw3 l k_1 at_1 k x19_1 c x19_1)
 (Qc (x20) (Zcw3 l k_1 at_1 k x19_1 c x19_1) (Zcw0 k false) Qk Qx)
 (fun _ => Qs [] [0, 1, 2, 19] (fun z_ => c ((IntKind.wrap .i64 (x19_1 + 1)), ()))
 (Qb (Qs [(7, .int .i64)] [0, 1, 2, 19] (fun z_ => Zcw3 l k_1 at_1 k x19_1 c z_.1)
 Qz
 (fun (m, _) => Qs [(31, .bool)] [0, 1, 2, 19] (fun z_ => Zcw2 k x19_1 c z_.1)
 Qz
 (fun (x31, _) => Qc (x31) (Zcw1 k true) (c ((IntKind.wrap .i64 (x19_1 + 1)), ())) (Qs [(6, .bool)] [] (fun z_ => Zcw1 k z_.1)
 Qz
 (fun (x6_1, _) => Qr)) Qk))))
 (fun _ => Qz)))))))
 (fun _ => Qs [(6, .bool)] [] (fun z_ => Zcw0 k z_.1)
 Qz
 (fun (x6, _) => Qr)))))) h_
abbrev Zcx0 (k : (Bool → K)) (x4 : Bool) : K :=
 k x4
abbrev Zcx1 (mutator : Int) (k_1 : Int) (k : (Bool → K)) : K :=
 brK (decide (mutator ≥ 0))
 (brK (decide (mutator < 4))
 (Ya8 k_1 fun x13 =>
 Zcx0 k x13)
 (Zcx0 k false))
 (Zcx0 k false)
abbrev Vbk (mutator : Int) (k_1 : Int) : M Bool := fun k =>
 Zcx1 mutator k_1 k
theorem Yvd (mutator : Int) (k_1 : Int) (k : Bool → K) (w : World) (h_ : Vbk mutator k_1 k w) : Yg9 mutator k_1 k w :=
 Yae (P := Tryz.prog) Tryz.func145 rfl (by kernel_rfl)
 (Qs [] [0, 1] (fun z_ => Zcx1 mutator k_1 k)
 Qz
 (fun _ => Qs [(4, .bool)] [] (fun z_ => Zcx0 k z_.1)
 (Qp [2, 6])
 (fun (x4, _) => Qr))) h_
abbrev Zcy0 (k : ((Int × Int) → K)) (x4 : Int) (x5 : Int) : K :=
 k (x4, x5)
abbrev Zcy1 (k : ((Int × Int) → K)) (x4_1 : Int) (x5_1 : Int) : K :=
 k (x4_1, x5_1)
abbrev Zcy2 (k : ((Int × Int) → K)) (b : Int) (e_1 : Int) (x56 : Bool) : K :=
 brK x56
 (Zcy1 k 0 e_1)
 (Zcy0 k b 0)
abbrev Zcy3 (k : ((Int × Int) → K)) (b : Int) (e_1 : Int) : K :=
 Zcy2 k b e_1 (e_1 != 0)
abbrev Zcy4 (m : OA) (k : ((Int × Int) → K)) (b : Int) (list : Sl) : K :=
 tick fun _ =>
 nn m fun x46 =>
 ldP (x46.add 0) fun x48 =>
 ixS list.p list.n 0 3 fun x51 =>
 ldI .i64 (x51.add 0) fun x52_0 =>
 ldI .i64 (x51.add 1) fun x52_1 =>
 ldI .i64 (x51.add 2) fun x52_2 =>
 alK (.cells #[.int .i64 x52_0, .int .i64 x52_1, .int .i64 x52_2] 143) fun b_1 =>
 Ya6 x48 b ⟨(some ⟨b_1, 0, none⟩), 1, 1⟩ fun x54 =>
 Zcy3 k b x54
abbrev Zcy5 (k : ((Int × Int) → K)) (x4_2 : Int) (x5_2 : Int) : K :=
 k (x4_2, x5_2)
abbrev Zcy6 (m : OA) (k : ((Int × Int) → K)) (b : Int) (list : Sl) (e_2 : Int) (x43 : Bool) : K :=
 brK x43
 (Zcy5 k 0 e_2)
 (Zcy4 m k b list)
abbrev Zcy7 (m : OA) (k : ((Int × Int) → K)) (b : Int) (list : Sl) (e_2 : Int) : K :=
 Zcy6 m k b list e_2 (e_2 != 0)
abbrev Zcy8 (m : OA) (k : ((Int × Int) → K)) (b : Int) (list : Sl) : K :=
 tick fun _ =>
 nn m fun x34 =>
 ldP (x34.add 0) fun x36 =>
 loB (some (.int .i64 1)) 0 list.n fun l =>
 Ya6 x36 (IntKind.wrap .i64 (b + 1)) ⟨(cutP list.p l list.c 3), (list.n - l), (list.c - l)⟩ fun x41 =>
 Zcy7 m k b list x41
abbrev Zcy9 (m : OA) (k : ((Int × Int) → K)) (b : Int) (list : Sl) (x32 : Bool) : K :=
 brK x32
 (Zcy8 m k b list)
 (Zcy4 m k b list)
abbrev Zcy10 (m : OA) (n : Int) (k : ((Int × Int) → K)) (b : Int) (list : Sl) : K :=
 Zcy9 m k b list (decide (n > 1))
abbrev Zcy11 (m : OA) (n : Int) (k : ((Int × Int) → K)) (b : Int) : K :=
 Ymu n fun x30 =>
 Zcy10 m n k b x30
abbrev Zcy12 (k : ((Int × Int) → K)) (x4_3 : Int) (x5_3 : Int) : K :=
 k (x4_3, x5_3)
abbrev Zcy13 (m : OA) (n : Int) (k : ((Int × Int) → K)) (b : Int) (e : Int) (x27 : Bool) : K :=
 brK x27
 (Zcy12 k 0 e)
 (Zcy11 m n k b)
abbrev Zcy14 (m : OA) (n : Int) (k : ((Int × Int) → K)) (b : Int) (e : Int) : K :=
 Zcy13 m n k b e (e != 0)
abbrev Zcy15 (m : OA) (n : Int) (k : ((Int × Int) → K)) : K :=
 nn m fun x19 =>
 ldP (x19.add 1) fun x21 =>
 Yd3 x21 n fun x23 =>
 Zcy14 m n k x23.1 x23.2
abbrev Zcy16 (k : ((Int × Int) → K)) (x4_4 : Int) (x5_4 : Int) : K :=
 k (x4_4, x5_4)
abbrev Zcy17 (m : OA) (n : Int) (k : ((Int × Int) → K)) (x16 : Bool) : K :=
 brK x16
 (Zcy16 k 0 1)
 (Zcy15 m n k)
abbrev Zcy18 (m : OA) (n : Int) (k : ((Int × Int) → K)) : K :=
 brK (decide (n < 1))
 (Zcy17 m n k true)
 (Zcy17 m n k (decide (n ≥ 256)))
abbrev Yoe (m : OA) (n : Int) : M (Int × Int) := fun k =>
 Zcy18 m n k
theorem Yk1 (m : OA) (n : Int) (k : (Int × Int) → K) (w : World) (h_ : Yoe m n k w) : Yec m n k w :=
 Yae (P := Tryz.prog) Tryz.func149 rfl (by kernel_rfl)
 (Qs [] [0, 1] (fun z_ => Zcy18 m n k)
 Qz
 (fun _ => Qs [] [0, 1] (fun z_ => Zcy15 m n k)
 (Qs [(16, .bool)] [0, 1] (fun z_ => Zcy17 m n k z_.1)
 (Qp [2])
 (fun (x16, _) => Qc (x16) (Zcy16 k 0 1) (Zcy15 m n k) (Qs [(4, .int .i64), (5, .int .i64)] [] (fun z_ => Zcy16 k z_.1 z_.2.1)
 Qz
 (fun (x4_4, x5_4, _) => Qr)) Qk))
 (fun _ => Qs [(6, .int .i64), (7, .int .i64)] [0, 1] (fun z_ => Zcy14 m n k z_.1 z_.2.1)
 Qz
 (fun (b, e, _) => Qs [] [0, 1, 6] (fun z_ => Zcy11 m n k b)
 (Qs [(27, .bool)] [0, 1, 6, 7] (fun z_ => Zcy13 m n k b e z_.1)
 Qz
 (fun (x27, _) => Qc (x27) (Zcy12 k 0 e) (Zcy11 m n k b) (Qs [(4, .int .i64), (5, .int .i64)] [] (fun z_ => Zcy12 k z_.1 z_.2.1)
 Qz
 (fun (x4_3, x5_3, _) => Qr)) Qk))
 (fun _ => Qs [(8, .slice)] [0, 1, 6] (fun z_ => Zcy10 m n k b z_.1)
 Qz
 (fun (list, _) => Qs [] [0, 6, 8] (fun z_ => Zcy4 m k b list)
 (Qs [(32, .bool)] [0, 6, 8] (fun z_ => Zcy9 m k b list z_.1)
 Qz
 (fun (x32, _) => Qc (x32) (Zcy8 m k b list) (Zcy4 m k b list) (Qs [(9, .int .i64)] [0, 6, 8] (fun z_ => Zcy7 m k b list z_.1)
 (RefK.draw [] [0, 1, 3, 7, 0, 16, 0, 64, 255, 511] [0, 1, 2, 3, 4, 5, 6, 7, 8, 9] [0, 1, 2, 3, 4, 5, 6, 7, 8, 9] (by kernel_rfl) (by kernel_rfl))
 (fun (e_2, _) => Qs [(43, .bool)] [0, 6, 8, 9] (fun z_ => Zcy6 m k b list e_2 z_.1)
 Qz
 (fun (x43, _) => Qc (x43) (Zcy5 k 0 e_2) (Zcy4 m k b list) (Qs [(4, .int .i64), (5, .int .i64)] [] (fun z_ => Zcy5 k z_.1 z_.2.1)
 Qz
 (fun (x4_2, x5_2, _) => Qr)) Qk))) Qk))
 (fun _ => Qs [] [6] (fun z_ => Zcy0 k b 0)
 (Qs [(10, .int .i64)] [6] (fun z_ => Zcy3 k b z_.1)
 (RefK.draw [] [0, 1, 3, 7, 0, 0, 32, 96, 224, 511, 1023] [0, 1, 2, 3, 4, 5, 6, 7, 8, 9, 10] [0, 1, 2, 3, 4, 5, 6, 7, 8, 9, 10] (by kernel_rfl) (by kernel_rfl))
 (fun (e_1, _) => Qs [(56, .bool)] [6, 10] (fun z_ => Zcy2 k b e_1 z_.1)
 Qz
 (fun (x56, _) => Qc (x56) (Zcy1 k 0 e_1) (Zcy0 k b 0) (Qs [(4, .int .i64), (5, .int .i64)] [] (fun z_ => Zcy1 k z_.1 z_.2.1)
 Qz
 (fun (x4_1, x5_1, _) => Qr)) Qk)))
 (fun _ => Qs [(4, .int .i64), (5, .int .i64)] [] (fun z_ => Zcy0 k z_.1 z_.2.1)
 Qz
 (fun (x4, x5, _) => Qr))))))))) h_
abbrev Zcz0 (k : ((Int × Int) → K)) (x6 : Int) (x7 : Int) : K :=
 k (x6, x7)
abbrev Zcz1 (k : ((Int × Int) → K)) (x11 : Sl) : K :=
 ixS x11.p x11.n (IntKind.wrap .i64 (((x11.n : Nat) : Int) - 1)) 1 fun x94 =>
 ldI .i64 x94 fun x95 =>
 Zcz0 k x95 0
abbrev Zcz2 (x0 : OA) (k : ((Int × Int) → K)) (x8 : Addr) (x11 : Sl) : K :=
 tick fun _ =>
 nn x0 fun x81 =>
 ldM (x81.add 32) fun x83 =>
 ldI .i64 (x8.add 0) fun x84_0 =>
 ldI .i64 (x8.add 1) fun x84_1 =>
 loB (some (.int .i64 (IntKind.wrap .i64 (((x11.n : Nat) : Int) - 1)))) x11.n x11.c fun h =>
 semU Tryz.prog (Instr.mapUpdate 197 (.map x83) (.agg #[.int .i64 x84_0, .int .i64 x84_1]) (.slice (cutP x11.p 0 x11.c 1) (h - 0) (x11.c - 0))) <|
 Zcz1 k x11
abbrev Zcz3 (k : ((Int × Int) → K)) (x6_1 : Int) (x7_1 : Int) : K :=
 k (x6_1, x7_1)
abbrev Zcz4 (x0 : OA) (k : ((Int × Int) → K)) (x8 : Addr) (x11 : Sl) (x79 : Bool) : K :=
 brK x79
 (Zcz3 k 0 4)
 (Zcz2 x0 k x8 x11)
abbrev Zcz5 (x0 : OA) (k : ((Int × Int) → K)) (x8 : Addr) (x11 : Sl) : K :=
 Zcz4 x0 k x8 x11 (((x11.n : Nat) : Int) == 0)
abbrev Zcz6 (x0 : OA) (k : ((Int × Int) → K)) (x8 : Addr) : K :=
 tick fun _ =>
 nn x0 fun x72 =>
 ldM (x72.add 32) fun x74 =>
 ldI .i64 (x8.add 0) fun x75_0 =>
 ldI .i64 (x8.add 1) fun x75_1 =>
 lkE Tryz.prog 201 (.slice none 0 0) (.sc (.slice)) x74 (.agg #[.int .i64 x75_0, .int .i64 x75_1]) fun r ob x76 ok =>
 Zcz5 x0 k x8 x76
abbrev Zcz7 (x0 : OA) (x2 : Int) (k : ((Int × Int) → K)) (x8 : Addr) (x10 : Int) : K :=
 tick fun _ =>
 nn x0 fun x62 =>
 ixA (x62.add 0) 32 x2 1 fun x64 =>
 ldS x64 fun x65 =>
 loB (some (.int .i64 x10)) x65.n x65.c fun h_1 =>
 nn x0 fun x68 =>
 ixA (x68.add 0) 32 x2 1 fun x70 =>
 stK (x70.add 0) (.slice (cutP x65.p 0 x65.c 1) (h_1 - 0) (x65.c - 0)) <|
 Zcz6 x0 k x8
abbrev Zcz8 (x0 : OA) (x2 : Int) (k : ((Int × Int) → K)) (x8 : Addr) (x10 : Int) : K :=
 tick fun _ =>
 nn x0 fun x45 =>
 ldM (x45.add 32) fun x47 =>
 ldI .i64 (x8.add 0) fun x48_0 =>
 ldI .i64 (x8.add 1) fun x48_1 =>
 nn x0 fun x51 =>
 ixA (x51.add 0) 32 x2 1 fun x53 =>
 ldS x53 fun x54 =>
 loB (some (.int .i64 x10)) 0 x54.n fun l =>
 Ybg ⟨(cutP x54.p l x54.c 1), (x54.n - l), (x54.c - l)⟩ fun x57 =>
 chk [.cell (x8.add 0) (.int .i64 x48_0), .cell (x8.add 1) (.int .i64 x48_1), .cell (x45.add 32) (.map x47)] fun _ =>
 semU Tryz.prog (Instr.mapUpdate 197 (.map x47) (.agg #[.int .i64 x48_0, .int .i64 x48_1]) x57.v) <|
 Zcz7 x0 x2 k x8 x10
abbrev Zcz9 (x0 : OA) (x2 : Int) (k : ((Int × Int) → K)) (x8 : Addr) (x9 : Int) : K :=
 nn x0 fun x37 =>
 ixA (x37.add 0) 32 x2 1 fun x39 =>
 ldS x39 fun x40 =>
 Zcz8 x0 x2 k x8 (IntKind.wrap .i64 (((x40.n : Nat) : Int) - x9))
abbrev Zcz10 (x0 : OA) (x2 : Int) (k : ((Int × Int) → K)) (x8 : Addr) : K :=
 nn x0 fun x29 =>
 ixA (x29.add 0) 32 x2 1 fun x31 =>
 ldS x31 fun x32 =>
 Zcz9 x0 x2 k x8 (min2I ((x32.n : Nat) : Int) 4)
abbrev Zcz11 (x0 : OA) (x2 : Int) (k : ((Int × Int) → K)) (x8 : Addr) (x26 : Bool) : K :=
 brK x26
 (Zcz10 x0 x2 k x8)
 (Zcz6 x0 k x8)
abbrev Zcz12 (x0 : OA) (x2 : Int) (k : ((Int × Int) → K)) (x8 : Addr) : K :=
 tick fun _ =>
 nn x0 fun x20 =>
 ldM (x20.add 32) fun x22 =>
 ldI .i64 (x8.add 0) fun x23_0 =>
 ldI .i64 (x8.add 1) fun x23_1 =>
 lkE Tryz.prog 201 (.slice none 0 0) (.sc (.slice)) x22 (.agg #[.int .i64 x23_0, .int .i64 x23_1]) fun r_1 ob_1 x24 ok_1 =>
 Zcz11 x0 x2 k x8 (((x24.n : Nat) : Int) == 0)
abbrev Zcz13 (x0 : OA) (x1 : Int) (x2 : Int) (k : ((Int × Int) → K)) : K :=
 alK (.cells #[.int .i64 0, .int .i64 0] 201) fun b =>
 stK (Addr.add ⟨b, 0, none⟩ 0) (.int .i64 x1) <|
 stK (Addr.add ⟨b, 0, none⟩ 1) (.int .i64 x2) <|
 Zcz12 x0 x2 k ⟨b, 0, none⟩
abbrev Zcz14 (k : ((Int × Int) → K)) (x6_2 : Int) (x7_2 : Int) : K :=
 k (x6_2, x7_2)
abbrev Zcz15 (x0 : OA) (x1 : Int) (x2 : Int) (k : ((Int × Int) → K)) (x15 : Bool) : K :=
 brK x15
 (Zcz14 k 0 1)
 (Zcz13 x0 x1 x2 k)
abbrev Zcz16 (x0 : OA) (x1 : Int) (x2 : Int) (k : ((Int × Int) → K)) : K :=
 Yg9 x1 x2 fun x14 =>
 Zcz15 x0 x1 x2 k (!x14)
abbrev Ydx (x0 : OA) (x1 : Int) (x2 : Int) : M (Int × Int) := fun k =>
 Zcz16 x0 x1 x2 k
theorem Yof (x0 : OA) (x1 : Int) (x2 : Int) (k : (Int × Int) → K) (w : World) (h_ : Ydx x0 x1 x2 k w) : Yc6 x0 x1 x2 k w :=
 Yae (P := Tryz.prog) Tryz.func150 rfl (by kernel_rfl)
 (Qs [] [0, 1, 2] (fun z_ => Zcz16 x0 x1 x2 k)
 Qz
 (fun _ => Qs [] [0, 1, 2] (fun z_ => Zcz13 x0 x1 x2 k)
 (Qs [(15, .bool)] [0, 1, 2] (fun z_ => Zcz15 x0 x1 x2 k z_.1)
 Qz
 (fun (x15, _) => Qc (x15) (Zcz14 k 0 1) (Zcz13 x0 x1 x2 k) (Qs [(6, .int .i64), (7, .int .i64)] [] (fun z_ => Zcz14 k z_.1 z_.2.1)
 Qz
 (fun (x6_2, x7_2, _) => Qr)) Qk))
 (fun _ => Qs [(8, .addr)] [0, 2] (fun z_ => Zcz12 x0 x2 k z_.1)
 Qz
 (fun (x8, _) => Qs [] [0, 8] (fun z_ => Zcz6 x0 k x8)
 (Qs [(26, .bool)] [0, 2, 8] (fun z_ => Zcz11 x0 x2 k x8 z_.1)
 (RefK.draw [] [0, 1, 3, 7, 0, 31, 63, 127] [0, 1, 2, 3, 4, 5, 6, 7] [0, 1, 2, 3, 4, 5, 6, 7] (by kernel_rfl) (by kernel_rfl))
 (fun (x26, _) => Qc (x26) (Zcz10 x0 x2 k x8) (Zcz6 x0 k x8) (Qs [(9, .int .i64)] [0, 2, 8] (fun z_ => Zcz9 x0 x2 k x8 z_.1)
 Qz
 (fun (x9, _) => Qs [(10, .int .i64)] [0, 2, 8] (fun z_ => Zcz8 x0 x2 k x8 z_.1)
 Qz
 (fun (x10, _) => Qs [] [0, 2, 8, 10] (fun z_ => Zcz7 x0 x2 k x8 x10)
 (RefK.draw [] [0, 1, 3, 7, 0, 0, 0, 32, 160, 480, 992, 0, 4064, 8160, 16383] [0, 1, 2, 3, 4, 5, 6, 7, 8, 9, 10, 11, 12, 13, 14] [0, 1, 2, 3, 4, 5, 6, 7, 8, 9, 10, 11, 12, 13, 14] (by kernel_rfl) (by kernel_rfl))
 (fun _ => RefK.draw [] [0, 0, 0, 0, 4, 20, 60, 124, 0, 508, 1, 1025, 4095, 8191] [0, 1, 2, 3, 4, 5, 6, 7, 8, 9, 10, 11, 12, 13] [0, 1, 2, 3, 4, 5, 6, 7, 8, 9, 10, 11, 12, 13] (by kernel_rfl) (by kernel_rfl))))) Qk))
 (fun _ => Qs [(11, .slice)] [0, 8] (fun z_ => Zcz5 x0 k x8 z_.1)
 (RefK.draw [] [0, 1, 3, 7, 0, 31, 63] [0, 1, 2, 3, 4, 5, 6] [0, 1, 2, 3, 4, 5, 6] (by kernel_rfl) (by kernel_rfl))
 (fun (x11, _) => Qs [] [0, 8, 11] (fun z_ => Zcz2 x0 k x8 x11)
 (Qs [(79, .bool)] [0, 8, 11] (fun z_ => Zcz4 x0 k x8 x11 z_.1)
 Qz
 (fun (x79, _) => Qc (x79) (Zcz3 k 0 4) (Zcz2 x0 k x8 x11) (Qs [(6, .int .i64), (7, .int .i64)] [] (fun z_ => Zcz3 k z_.1 z_.2.1)
 Qz
 (fun (x6_1, x7_1, _) => Qr)) Qk))
 (fun _ => Qs [] [11] (fun z_ => Zcz1 k x11)
 (RefK.draw [] [0, 1, 3, 7, 0, 0, 0, 64, 192, 480, 1023] [0, 1, 2, 3, 4, 5, 6, 7, 8, 9, 10] [0, 1, 2, 3, 4, 5, 6, 7, 8, 9, 10] (by kernel_rfl) (by kernel_rfl))
 (fun _ => Qs [(6, .int .i64), (7, .int .i64)] [] (fun z_ => Zcz0 k z_.1 z_.2.1)
 Qz
 (fun (x6, x7, _) => Qr))))))))) h_
abbrev Zda0 (k : ((Int × Int) → K)) (x4 : Int) (x5 : Int) : K :=
 k (x4, x5)
abbrev Zda1 (k : ((Int × Int) → K)) (x4_1 : Int) (x5_1 : Int) : K :=
 k (x4_1, x5_1)
abbrev Zda2 (k : ((Int × Int) → K)) (b : Int) (e_1 : Int) (x35 : Bool) : K :=
 brK x35
 (Zda1 k 0 e_1)
 (Zda0 k b 0)
abbrev Zda3 (k : ((Int × Int) → K)) (b : Int) (e_1 : Int) : K :=
 Zda2 k b e_1 (e_1 != 0)
abbrev Zda4 (m : OA) (k : ((Int × Int) → K)) (h : Addr) (b : Int) : K :=
 tick fun _ =>
 nn m fun x27 =>
 ldP (x27.add 0) fun x29 =>
 ldI .i64 (h.add 0) fun x31_0 =>
 ldI .i64 (h.add 1) fun x31_1 =>
 ldI .i64 (h.add 2) fun x31_2 =>
 alK (.cells #[.int .i64 x31_0, .int .i64 x31_1, .int .i64 x31_2] 143) fun b_1 =>
 Ya6 x29 b ⟨(some ⟨b_1, 0, none⟩), 1, 1⟩ fun x33 =>
 Zda3 k b x33
abbrev Zda5 (k : ((Int × Int) → K)) (x4_2 : Int) (x5_2 : Int) : K :=
 k (x4_2, x5_2)
abbrev Zda6 (m : OA) (k : ((Int × Int) → K)) (h : Addr) (b : Int) (e : Int) (x24 : Bool) : K :=
 brK x24
 (Zda5 k 0 e)
 (Zda4 m k h b)
abbrev Zda7 (m : OA) (k : ((Int × Int) → K)) (h : Addr) (b : Int) (e : Int) : K :=
 Zda6 m k h b e (e != 0)
abbrev Zda8 (m : OA) (k : ((Int × Int) → K)) (h : Addr) : K :=
 nn m fun x17 =>
 ldP (x17.add 1) fun x19 =>
 Yd3 x19 1 fun x20 =>
 Zda7 m k h x20.1 x20.2
abbrev Zda9 (k : ((Int × Int) → K)) (x4_3 : Int) (x5_3 : Int) : K :=
 k (x4_3, x5_3)
abbrev Zda10 (m : OA) (k : ((Int × Int) → K)) (h : Addr) (x14 : Bool) : K :=
 brK x14
 (Zda9 k 0 1)
 (Zda8 m k h)
abbrev Zda11 (m : OA) (k : ((Int × Int) → K)) (h : Addr) : K :=
 ldI .i64 (h.add 0) fun x12_0 =>
 ldI .i64 (h.add 1) fun x12_1 =>
 ldI .i64 (h.add 2) fun x12_2 =>
 Ybz (x12_0, (x12_1, x12_2)) fun x13 =>
 Zda10 m k h (!x13)
abbrev Zda12 (m : OA) (k_1 : Int) (k : ((Int × Int) → K)) : K :=
 alK (.cells #[.int .i64 0, .int .i64 0, .int .i64 0] 143) fun b_2 =>
 stK (Addr.add ⟨b_2, 0, none⟩ 0) (.int .i64 1) <|
 stK (Addr.add ⟨b_2, 0, none⟩ 1) (.int .i64 k_1) <|
 stK (Addr.add ⟨b_2, 0, none⟩ 2) (.int .i64 0) <|
 Zda11 m k ⟨b_2, 0, none⟩
abbrev Yog (m : OA) (k_1 : Int) : M (Int × Int) := fun k =>
 Zda12 m k_1 k
theorem Yk2 (m : OA) (k_1 : Int) (k : (Int × Int) → K) (w : World) (h_ : Yog m k_1 k w) : Yed m k_1 k w :=
 Yae (P := Tryz.prog) Tryz.func151 rfl (by kernel_rfl)
 (Qs [] [0, 1] (fun z_ => Zda12 m k_1 k)
 Qz
 (fun _ => Qs [(6, .addr)] [0] (fun z_ => Zda11 m k z_.1)
 Qz
 (fun (h, _) => Qs [] [0, 6] (fun z_ => Zda8 m k h)
 (Qs [(14, .bool)] [0, 6] (fun z_ => Zda10 m k h z_.1)
 Qz
 (fun (x14, _) => Qc (x14) (Zda9 k 0 1) (Zda8 m k h) (Qs [(4, .int .i64), (5, .int .i64)] [] (fun z_ => Zda9 k z_.1 z_.2.1)
 Qz
 (fun (x4_3, x5_3, _) => Qr)) Qk))
 (fun _ => Qs [(7, .int .i64), (8, .int .i64)] [0, 6] (fun z_ => Zda7 m k h z_.1 z_.2.1)
 Qz
 (fun (b, e, _) => Qs [] [0, 6, 7] (fun z_ => Zda4 m k h b)
 (Qs [(24, .bool)] [0, 6, 7, 8] (fun z_ => Zda6 m k h b e z_.1)
 Qz
 (fun (x24, _) => Qc (x24) (Zda5 k 0 e) (Zda4 m k h b) (Qs [(4, .int .i64), (5, .int .i64)] [] (fun z_ => Zda5 k z_.1 z_.2.1)
 Qz
 (fun (x4_2, x5_2, _) => Qr)) Qk))
 (fun _ => Qs [] [7] (fun z_ => Zda0 k b 0)
 (Qs [(9, .int .i64)] [7] (fun z_ => Zda3 k b z_.1)
 (RefK.draw [] [0, 1, 3, 7, 0, 0, 32, 127, 255] [0, 1, 2, 3, 4, 5, 6, 7, 8] [0, 1, 2, 3, 4, 5, 6, 7, 8] (by kernel_rfl) (by kernel_rfl))
 (fun (e_1, _) => Qs [(35, .bool)] [7, 9] (fun z_ => Zda2 k b e_1 z_.1)
 Qz
 (fun (x35, _) => Qc (x35) (Zda1 k 0 e_1) (Zda0 k b 0) (Qs [(4, .int .i64), (5, .int .i64)] [] (fun z_ => Zda1 k z_.1 z_.2.1)
 Qz
 (fun (x4_1, x5_1, _) => Qr)) Qk)))
 (fun _ => Qs [(4, .int .i64), (5, .int .i64)] [] (fun z_ => Zda0 k z_.1 z_.2.1)
 Qz
 (fun (x4, x5, _) => Qr)))))))) h_
abbrev Zdb0 (k : (Sl → K)) (x4 : Sl) : K :=
 k x4
abbrev Zdb1 (k : (Sl → K)) (out_1 : Sl) : K :=
 Ycj out_1 fun x32 =>
 Zdb0 k out_1
abbrev Zdb2 (x17_1 : Int) (c : ((Sl × Int × Unit) → K)) (out_3 : Sl) : K :=
 c (out_3, (IntKind.wrap .i64 (x17_1 + 1)), ())
abbrev Zdb3 (l : OA) (k_1 : Int) (out_2 : Sl) (x17_1 : Int) (c : ((Sl × Int × Unit) → K)) (m : Int) : K :=
 nn l fun x22 =>
 ldM (x22.add 32) fun x24 =>
 lkE Tryz.prog 201 (.slice none 0 0) (.sc (.slice)) x24 (.agg #[.int .i64 m, .int .i64 k_1]) fun r ob x28 ok =>
 semT Tryz.prog (Builtin.append_ #[27, 27] 27 #[out_2.v, x28.v]) (.one (.sc (.slice))) fun x29 =>
 Zdb2 x17_1 c x29
abbrev Zdb4 (l : OA) (k_1 : Int) (k : (Sl → K)) (out_2 : Sl) (x17_1 : Int) (c : ((Sl × Int × Unit) → K)) (x18 : Bool) : K :=
 brK x18
 (Zdb3 l k_1 out_2 x17_1 c x17_1)
 (Zdb1 k out_2)
abbrev Zdb5 (l : OA) (k_1 : Int) (k : (Sl → K)) (out_2 : Sl) (x17_1 : Int) (c : ((Sl × Int × Unit) → K)) : K :=
 Zdb4 l k_1 k out_2 x17_1 c (decide (x17_1 < 4))
abbrev Zdb6 (l : OA) (k_1 : Int) (k : (Sl → K)) (out : Sl) (x17 : Int) : K :=
 lp (fun (z_ : (Sl × Int × Unit)) c_ => Zdb5 l k_1 k z_.1 z_.2.1 c_) (out, x17, ())
abbrev Zdb7 (l : OA) (k_1 : Int) (k : (Sl → K)) (out : Sl) : K :=
 Zdb6 l k_1 k out 0
abbrev Zdb8 (l : OA) (k_1 : Int) (k : (Sl → K)) : K :=
 nn l fun x12 =>
 ixA (x12.add 0) 32 k_1 1 fun x14 =>
 ldS x14 fun x15 =>
 Ybg x15 fun x16 =>
 Zdb7 l k_1 k x16
abbrev Zdb9 (k : (Sl → K)) (x4_1 : Sl) : K :=
 k x4_1
abbrev Zdb10 (l : OA) (k_1 : Int) (k : (Sl → K)) (x9 : Bool) : K :=
 brK x9
 (Zdb9 k ⟨none, 0, 0⟩)
 (Zdb8 l k_1 k)
abbrev Zdb11 (l : OA) (k_1 : Int) (k : (Sl → K)) : K :=
 Ya8 k_1 fun x8 =>
 Zdb10 l k_1 k (!x8)
abbrev Yk3 (l : OA) (k_1 : Int) : M Sl := fun k =>
 Zdb11 l k_1 k
theorem Yoh (l : OA) (k_1 : Int) (k : Sl → K) (w : World) (h_ : Yk3 l k_1 k w) : Yfk l k_1 k w :=
 Yae (P := Tryz.prog) Tryz.func157 rfl (by kernel_rfl)
 (Qs [] [0, 1] (fun z_ => Zdb11 l k_1 k)
 Qz
 (fun _ => Qs [] [0, 1] (fun z_ => Zdb8 l k_1 k)
 (Qs [(9, .bool)] [0, 1] (fun z_ => Zdb10 l k_1 k z_.1)
 Qz
 (fun (x9, _) => Qc (x9) (Zdb9 k ⟨none, 0, 0⟩) (Zdb8 l k_1 k) (Qs [(4, .slice)] [] (fun z_ => Zdb9 k z_.1)
 Qz
 (fun (x4_1, _) => Qr)) Qk))
 (fun _ => Qs [(5, .slice)] [0, 1] (fun z_ => Zdb7 l k_1 k z_.1)
 Qz
 (fun (out, _) => Qs [(5, .slice)] [] (fun z_ => Zdb1 k z_.1)
 (Qs [(17, .int .i64)] [0, 1, 5] (fun z_ => Zdb6 l k_1 k out z_.1)
 Qz
 (fun (x17, _) => Qb (Ql [(5, .slice), (17, .int .i64)] [0, 1] (fun (z_ : (Sl × Int × Unit)) c_ => Zdb5 l k_1 k z_.1 z_.2.1 c_) (out, x17, ())
 (fun (out_2, x17_1, _) c => Qs [(18, .bool)] [0, 1, 5, 17] (fun z_ => Zdb4 l k_1 k out_2 x17_1 c z_.1)
 Qz
 (fun (x18, _) => Qs [] [0, 1, 5, 17] (fun z_ => Zdb3 l k_1 out_2 x17_1 c x17_1)
 (Qc (x18) (Zdb3 l k_1 out_2 x17_1 c x17_1) (Zdb1 k out_2) Qk Qx)
 (fun _ => Qs [(5, .slice)] [0, 1, 17] (fun z_ => Zdb2 x17_1 c z_.1)
 (Qb (Qs [(6, .int .i64)] [0, 1, 5, 17] (fun z_ => Zdb3 l k_1 out_2 x17_1 c z_.1)
 Qz
 (fun (m, _) => Qz)))
 (fun (out_3, _) => Qz)))))))
 (fun (out_1, _) => Qs [] [5] (fun z_ => Zdb0 k out_1)
 Qz
 (fun _ => Qs [(4, .slice)] [] (fun z_ => Zdb0 k z_.1)
 Qz
 (fun (x4, _) => Qr))))))) h_
abbrev Zdc0 (k : (Int → K)) (x6 : Int) : K :=
 k x6
abbrev Zdc1 (k : (Int → K)) (n_1 : Int) : K :=
 Zdc0 k n_1
abbrev Zdc2 (s : OA) (at_2 : Int) (c : ((Int × Int × Bool × Unit) → K)) (n_3 : Int) : K :=
 Yap s (IntKind.wrap .i64 (at_2 + 1)) fun x26 =>
 c (n_3, x26.1, x26.2, ())
abbrev Zdc3 (s : OA) (k : (Int → K)) (n_2 : Int) (at_2 : Int) (c : ((Int × Int × Bool × Unit) → K)) (x21 : Bool) : K :=
 brK x21
 (Zdc2 s at_2 c (IntKind.wrap .i64 (n_2 + 1)))
 (Zdc1 k n_2)
abbrev Zdc4 (s : OA) (to : Int) (k : (Int → K)) (n_2 : Int) (at_2 : Int) (ok_1 : Bool) (c : ((Int × Int × Bool × Unit) → K)) : K :=
 brK ok_1
 (Zdc3 s k n_2 at_2 c (decide (at_2 < to)))
 (Zdc3 s k n_2 at_2 c false)
abbrev Zdc5 (s : OA) (to : Int) (k : (Int → K)) (n : Int) (at_1 : Int) (ok : Bool) : K :=
 lp (fun (z_ : (Int × Int × Bool × Unit)) c_ => Zdc4 s to k z_.1 z_.2.1 z_.2.2.1 c_) (n, at_1, ok, ())
abbrev Zdc6 (s : OA) (from_1 : Int) (to : Int) (k : (Int → K)) (n : Int) : K :=
 Yap s from_1 fun x13 =>
 Zdc5 s to k n x13.1 x13.2
abbrev Yhf (s : OA) (from_1 : Int) (to : Int) : M Int := fun k =>
 Zdc6 s from_1 to k 0
theorem Yk4 (s : OA) (from_1 : Int) (to : Int) (k : Int → K) (w : World) (h_ : Yhf s from_1 to k w) : Yee s from_1 to k w :=
 Yae (P := Tryz.prog) Tryz.func162 rfl (by kernel_rfl)
 (Qs [] [0, 1, 2] (fun z_ => Zdc6 s from_1 to k 0)
 Qz
 (fun _ => Qs [(7, .int .i64)] [0, 1, 2] (fun z_ => Zdc6 s from_1 to k z_.1)
 Qz
 (fun (n, _) => Qs [(7, .int .i64)] [] (fun z_ => Zdc1 k z_.1)
 (Qs [(8, .int .i64), (9, .bool)] [0, 2, 7] (fun z_ => Zdc5 s to k n z_.1 z_.2.1)
 Qz
 (fun (at_1, ok, _) => Qb (Ql [(7, .int .i64), (8, .int .i64), (9, .bool)] [0, 2] (fun (z_ : (Int × Int × Bool × Unit)) c_ => Zdc4 s to k z_.1 z_.2.1 z_.2.2.1 c_) (n, at_1, ok, ())
 (fun (n_2, at_2, ok_1, _) c => Qs [] [0, 2, 7, 8] (fun z_ => Zdc2 s at_2 c (IntKind.wrap .i64 (n_2 + 1)))
 (Qs [(21, .bool)] [0, 2, 7, 8] (fun z_ => Zdc3 s k n_2 at_2 c z_.1)
 (Qp [1])
 (fun (x21, _) => Qc (x21) (Zdc2 s at_2 c (IntKind.wrap .i64 (n_2 + 1))) (Zdc1 k n_2) Qk Qx))
 (fun _ => Qs [(7, .int .i64)] [0, 2, 8] (fun z_ => Zdc2 s at_2 c z_.1)
 (Qb Qz)
 (fun (n_3, _) => Qz))))))
 (fun (n_1, _) => Qs [(6, .int .i64)] [] (fun z_ => Zdc0 k z_.1)
 Qz
 (fun (x6, _) => Qr))))) h_
abbrev Zdd0 (k : (Int → K)) (x8 : Int) : K :=
 k x8
abbrev Zdd1 (x0 : OA) (x1 : Int) (k : (Int → K)) (x9 : Int) : K :=
 Yer x0 x1 fun x63 =>
 Zdd0 k (IntKind.wrap .i64 (x9 - x63))
abbrev Zdd2 (x0 : OA) (x10 : Fv) (x35_1 : Int) (c : ((Int × Unit) → K)) (x12 : Addr) (x13 : Sl) : K :=
 tick fun _ =>
 nn x0 fun x52 =>
 ldM (x52.add 32) fun x54 =>
 ldI .i64 (x12.add 0) fun x55_0 =>
 ldI .i64 (x12.add 1) fun x55_1 =>
 Ybd x13 x10 fun x58 =>
 chk [.cell (x12.add 0) (.int .i64 x55_0), .cell (x12.add 1) (.int .i64 x55_1), .cell (x52.add 32) (.map x54)] fun _ =>
 semU Tryz.prog (Instr.mapUpdate 197 (.map x54) (.agg #[.int .i64 x55_0, .int .i64 x55_1]) x58.v) <|
 c ((IntKind.wrap .i64 (x35_1 + 1)), ())
abbrev Zdd3 (x0 : OA) (x10 : Fv) (x35_1 : Int) (c : ((Int × Unit) → K)) (x12 : Addr) (x13 : Sl) (x50 : Bool) : K :=
 brK x50
 (Zdd2 x0 x10 x35_1 c x12 x13)
 (c ((IntKind.wrap .i64 (x35_1 + 1)), ()))
abbrev Zdd4 (x0 : OA) (x10 : Fv) (x35_1 : Int) (c : ((Int × Unit) → K)) (x12 : Addr) (x13 : Sl) (x14 : Bool) : K :=
 Zdd3 x0 x10 x35_1 c x12 x13 x14
abbrev Zdd5 (x0 : OA) (x10 : Fv) (x35_1 : Int) (c : ((Int × Unit) → K)) (x12 : Addr) : K :=
 tick fun _ =>
 nn x0 fun x43 =>
 ldM (x43.add 32) fun x45 =>
 ldI .i64 (x12.add 0) fun x46_0 =>
 ldI .i64 (x12.add 1) fun x46_1 =>
 lkE Tryz.prog 201 (.slice none 0 0) (.sc (.slice)) x45 (.agg #[.int .i64 x46_0, .int .i64 x46_1]) fun r ob x47 ok =>
 Zdd4 x0 x10 x35_1 c x12 x47 ok
abbrev Zdd6 (x0 : OA) (x1 : Int) (x10 : Fv) (x35_1 : Int) (c : ((Int × Unit) → K)) (x11 : Int) : K :=
 alK (.cells #[.int .i64 0, .int .i64 0] 201) fun b =>
 stK (Addr.add ⟨b, 0, none⟩ 0) (.int .i64 x11) <|
 stK (Addr.add ⟨b, 0, none⟩ 1) (.int .i64 x1) <|
 Zdd5 x0 x10 x35_1 c ⟨b, 0, none⟩
abbrev Zdd7 (x0 : OA) (x1 : Int) (k : (Int → K)) (x9 : Int) (x10 : Fv) (x35_1 : Int) (c : ((Int × Unit) → K)) (x36 : Bool) : K :=
 brK x36
 (Zdd6 x0 x1 x10 x35_1 c x35_1)
 (Zdd1 x0 x1 k x9)
abbrev Zdd8 (x0 : OA) (x1 : Int) (k : (Int → K)) (x9 : Int) (x10 : Fv) (x35_1 : Int) (c : ((Int × Unit) → K)) : K :=
 Zdd7 x0 x1 k x9 x10 x35_1 c (decide (x35_1 < 4))
abbrev Zdd9 (x0 : OA) (x1 : Int) (k : (Int → K)) (x9 : Int) (x10 : Fv) (x35 : Int) : K :=
 lp (fun (z_ : (Int × Unit)) c_ => Zdd8 x0 x1 k x9 x10 z_.1 c_) (x35, ())
abbrev Zdd10 (x0 : OA) (x1 : Int) (k : (Int → K)) (x9 : Int) (x10 : Fv) : K :=
 tick fun _ =>
 nn x0 fun x26 =>
 ixA (x26.add 0) 32 x1 1 fun x28 =>
 ldS x28 fun x29 =>
 nn x0 fun x32 =>
 Ybd x29 x10 fun x31 =>
 ixA (x32.add 0) 32 x1 1 fun x34 =>
 stK (x34.add 0) (x31.v) <|
 Zdd9 x0 x1 k x9 x10 0
abbrev Zdd11 (x0 : OA) (x1 : Int) (k : (Int → K)) (x6 : Addr) (x7 : Addr) (x9 : Int) : K :=
 Zdd10 x0 x1 k x9 ⟨.func 210, #[], #[.pointer (some x6), .pointer (some x7)]⟩
abbrev Zdd12 (x0 : OA) (x1 : Int) (k : (Int → K)) (x6 : Addr) (x7 : Addr) : K :=
 Yer x0 x1 fun x20 =>
 Zdd11 x0 x1 k x6 x7 x20
abbrev Zdd13 (k : (Int → K)) (x8_1 : Int) : K :=
 k x8_1
abbrev Zdd14 (x0 : OA) (x1 : Int) (k : (Int → K)) (x6 : Addr) (x7 : Addr) (x17 : Bool) : K :=
 brK x17
 (Zdd13 k 0)
 (Zdd12 x0 x1 k x6 x7)
abbrev Zdd15 (x0 : OA) (x1 : Int) (k : (Int → K)) (x6 : Addr) (x7 : Addr) : K :=
 Ya8 x1 fun x16 =>
 Zdd14 x0 x1 k x6 x7 (!x16)
abbrev Yh8 (x0 : OA) (x1 : Int) (x2 : Int) (x3 : Int) : M Int := fun k =>
 alK (.cells #[.int .i64 x2] 3) fun b_1 =>
 alK (.cells #[.int .i64 x3] 3) fun b_2 =>
 Zdd15 x0 x1 k ⟨b_1, 0, none⟩ ⟨b_2, 0, none⟩
theorem Yl5 (x0 : OA) (x1 : Int) (x2 : Int) (x3 : Int) (k : Int → K) (w : World) (h_ : Yh8 x0 x1 x2 x3 k w) : Yev x0 x1 x2 x3 k w :=
 Yae (P := Tryz.prog) Tryz.func163 rfl (by kernel_rfl)
 (Qs [(6, .addr), (7, .addr)] [0, 1] (fun z_ => Zdd15 x0 x1 k z_.1 z_.2.1)
 Qz
 (fun (x6, x7, _) => Qs [] [0, 1, 6, 7] (fun z_ => Zdd12 x0 x1 k x6 x7)
 (Qs [(17, .bool)] [0, 1, 6, 7] (fun z_ => Zdd14 x0 x1 k x6 x7 z_.1)
 Qz
 (fun (x17, _) => Qc (x17) (Zdd13 k 0) (Zdd12 x0 x1 k x6 x7) (Qs [(8, .int .i64)] [] (fun z_ => Zdd13 k z_.1)
 Qz
 (fun (x8_1, _) => Qr)) Qk))
 (fun _ => Qs [(9, .int .i64)] [0, 1, 6, 7] (fun z_ => Zdd11 x0 x1 k x6 x7 z_.1)
 Qz
 (fun (x9, _) => Qs [(10, .func)] [0, 1, 9] (fun z_ => Zdd10 x0 x1 k x9 z_.1)
 Qz
 (fun (x10, _) => Qs [] [0, 1, 9, 10] (fun z_ => Zdd9 x0 x1 k x9 x10 0)
 (RefK.draw [] [0, 0, 0, 0, 4, 20, 60, 124, 0, 508, 1, 1025, 4095, 8191] [0, 1, 2, 3, 4, 5, 6, 7, 8, 10, 11, 9, 12, 13] [0, 1, 2, 3, 4, 5, 6, 7, 8, 9, 10, 11, 12, 13] (by kernel_rfl) (by kernel_rfl))
 (fun _ => Qs [] [0, 1, 9] (fun z_ => Zdd1 x0 x1 k x9)
 (Qs [(35, .int .i64)] [0, 1, 9, 10] (fun z_ => Zdd9 x0 x1 k x9 x10 z_.1)
 Qz
 (fun (x35, _) => Qb (Ql [(35, .int .i64)] [0, 1, 9, 10] (fun (z_ : (Int × Unit)) c_ => Zdd8 x0 x1 k x9 x10 z_.1 c_) (x35, ())
 (fun (x35_1, _) c => Qs [(36, .bool)] [0, 1, 9, 10, 35] (fun z_ => Zdd7 x0 x1 k x9 x10 x35_1 c z_.1)
 Qz
 (fun (x36, _) => Qs [] [0, 1, 9, 10, 35] (fun z_ => Zdd6 x0 x1 x10 x35_1 c x35_1)
 (Qc (x36) (Zdd6 x0 x1 x10 x35_1 c x35_1) (Zdd1 x0 x1 k x9) Qk Qx)
 (fun _ => Qs [] [0, 1, 9, 10, 35] (fun z_ => c ((IntKind.wrap .i64 (x35_1 + 1)), ()))
 (Qb (Qs [(11, .int .i64)] [0, 1, 9, 10, 35] (fun z_ => Zdd6 x0 x1 x10 x35_1 c z_.1)
 Qz
 (fun (x11, _) => Qs [(12, .addr)] [0, 1, 9, 10, 35] (fun z_ => Zdd5 x0 x10 x35_1 c z_.1)
 Qz
 (fun (x12, _) => Qs [(13, .slice), (14, .bool)] [0, 1, 9, 10, 12, 35] (fun z_ => Zdd4 x0 x10 x35_1 c x12 z_.1 z_.2.1)
 (RefK.draw [] [0, 1, 3, 7, 0, 31, 63, 127, 127, 255, 1023] [0, 1, 2, 3, 4, 5, 6, 7, 8, 9, 10] [0, 1, 2, 3, 4, 5, 6, 7, 9, 8, 10] (by kernel_rfl) (by kernel_rfl))
 (fun (x13, x14, _) => Qs [(50, .bool)] [0, 1, 9, 10, 12, 13, 35] (fun z_ => Zdd3 x0 x10 x35_1 c x12 x13 z_.1)
 Qz
 (fun (x50, _) => Qc (x50) (Zdd2 x0 x10 x35_1 c x12 x13) (c ((IntKind.wrap .i64 (x35_1 + 1)), ())) (RefK.draw [] [0, 1, 3, 7, 0, 0, 0, 96, 255] [0, 1, 2, 3, 4, 5, 6, 7, 8] [0, 1, 2, 3, 4, 5, 6, 7, 8] (by kernel_rfl) (by kernel_rfl)) Qk))))))
 (fun _ => Qz)))))))
 (fun _ => Qs [(8, .int .i64)] [] (fun z_ => Zdd0 k z_.1)
 Qz
 (fun (x8, _) => Qr)))))))) h_
abbrev Zde0 (k : ((Int × Bool) → K)) (x2 : Int) (x3 : Bool) : K :=
 k (x2, x3)
abbrev Zde1 (c : ((Int × Unit) → K)) (b_2 : Int) : K :=
 c ((IntKind.wrap .i64 (b_2 + 1)), ())
abbrev Zde2 (k : ((Int × Bool) → K)) (x2_1 : Int) (x3_1 : Bool) : K :=
 k (x2_1, x3_1)
abbrev Zde3 (k : ((Int × Bool) → K)) (b_1 : Int) (c : ((Int × Unit) → K)) (n : Int) (x27 : Bool) : K :=
 brK x27
 (Zde2 k b_1 false)
 (Zde1 c (IntKind.wrap .i64 (b_1 + (IntKind.wrap .i64 (n - 1)))))
abbrev Zde4 (k : ((Int × Bool) → K)) (b_1 : Int) (c : ((Int × Unit) → K)) (n : Int) (ok : Bool) : K :=
 Zde3 k b_1 c n (!ok)
abbrev Zde5 (k : ((Int × Bool) → K)) (x2_2 : Int) (x3_2 : Bool) : K :=
 k (x2_2, x3_2)
abbrev Zde6 (k : ((Int × Bool) → K)) (b_1 : Int) (c : ((Int × Unit) → K)) (x33 : Bool) : K :=
 brK x33
 (Zde5 k b_1 false)
 (Zde1 c b_1)
abbrev Zde7 (list : Sl) (k : ((Int × Bool) → K)) (b_1 : Int) (c : ((Int × Unit) → K)) : K :=
 Ygl list b_1 fun x23 =>
 Zde4 k b_1 c x23.1 x23.2
abbrev Zde8 (list : Sl) (k : ((Int × Bool) → K)) (b_1 : Int) (c : ((Int × Unit) → K)) (x17 : Int) (x18 : Bool) : K :=
 brK x18
 (Zde7 list k b_1 c)
 (Zde6 k b_1 c (x17 == 3))
abbrev Zde9 (list : Sl) (k : ((Int × Bool) → K)) (b_1 : Int) (c : ((Int × Unit) → K)) (x17 : Int) : K :=
 Zde8 list k b_1 c x17 (x17 == 2)
abbrev Zde10 (list : Sl) (k : ((Int × Bool) → K)) (b_1 : Int) (c : ((Int × Unit) → K)) : K :=
 ixS list.p list.n b_1 3 fun x15 =>
 ldI .i64 (x15.add 0) fun x17_1 =>
 Zde9 list k b_1 c x17_1
abbrev Zde11 (list : Sl) (k : ((Int × Bool) → K)) (b_1 : Int) (c : ((Int × Unit) → K)) (x10 : Bool) : K :=
 brK x10
 (Zde10 list k b_1 c)
 (Zde0 k 0 true)
abbrev Zde12 (list : Sl) (k : ((Int × Bool) → K)) (b_1 : Int) (c : ((Int × Unit) → K)) : K :=
 Zde11 list k b_1 c (decide (b_1 < ((list.n : Nat) : Int)))
abbrev Zde13 (list : Sl) (k : ((Int × Bool) → K)) (b : Int) : K :=
 lp (fun (z_ : (Int × Unit)) c_ => Zde12 list k z_.1 c_) (b, ())
abbrev Vbl (list : Sl) : M (Int × Bool) := fun k =>
 Zde13 list k 1
theorem Yve (list : Sl) (k : (Int × Bool) → K) (w : World) (h_ : Vbl list k w) : Ykg list k w :=
 Yae (P := Tryz.prog) Tryz.func167 rfl (by kernel_rfl)
 (Qs [] [0] (fun z_ => Zde13 list k 1)
 Qz
 (fun _ => Qs [] [] (fun z_ => Zde0 k 0 true)
 (Qs [(4, .int .i64)] [0] (fun z_ => Zde13 list k z_.1)
 Qz
 (fun (b, _) => Qb (Ql [(4, .int .i64)] [0] (fun (z_ : (Int × Unit)) c_ => Zde12 list k z_.1 c_) (b, ())
 (fun (b_1, _) c => Qs [] [0, 4] (fun z_ => Zde10 list k b_1 c)
 (Qs [(10, .bool)] [0, 4] (fun z_ => Zde11 list k b_1 c z_.1)
 Qz
 (fun (x10, _) => Qc (x10) (Zde10 list k b_1 c) (Zde0 k 0 true) Qk Qx))
 (fun _ => Qs [(4, .int .i64)] [0] (fun z_ => Zde1 c z_.1)
 (Qb (Qs [(17, .int .i64)] [0, 4] (fun z_ => Zde9 list k b_1 c z_.1)
 Qz
 (fun (x17, _) => Qb (Qs [(18, .bool)] [0, 4, 17] (fun z_ => Zde8 list k b_1 c x17 z_.1)
 Qz
 (fun (x18, _) => Qc (x18) (Zde7 list k b_1 c) (Zde6 k b_1 c (x17 == 3)) (Qs [(5, .int .i64), (6, .bool)] [0, 4] (fun z_ => Zde4 k b_1 c z_.1 z_.2.1)
 Qz
 (fun (n, ok, _) => Qs [] [0, 4, 5] (fun z_ => Zde1 c (IntKind.wrap .i64 (b_1 + (IntKind.wrap .i64 (n - 1)))))
 (Qs [(27, .bool)] [0, 4, 5] (fun z_ => Zde3 k b_1 c n z_.1)
 Qz
 (fun (x27, _) => Qc (x27) (Zde2 k b_1 false) (Zde1 c (IntKind.wrap .i64 (b_1 + (IntKind.wrap .i64 (n - 1))))) (Qs [(2, .int .i64), (3, .bool)] [] (fun z_ => Zde2 k z_.1 z_.2.1)
 Qz
 (fun (x2_1, x3_1, _) => Qr)) Qk))
 (fun _ => Qz))) (Qs [(33, .bool)] [0, 4] (fun z_ => Zde6 k b_1 c z_.1)
 Qz
 (fun (x33, _) => Qc (x33) (Zde5 k b_1 false) (Zde1 c b_1) (Qs [(2, .int .i64), (3, .bool)] [] (fun z_ => Zde5 k z_.1 z_.2.1)
 Qz
 (fun (x2_2, x3_2, _) => Qr)) Qk)))))))
 (fun (b_2, _) => Qz))))))
 (fun _ => Qs [(2, .int .i64), (3, .bool)] [] (fun z_ => Zde0 k z_.1 z_.2.1)
 Qz
 (fun (x2, x3, _) => Qr)))) h_
abbrev Zdf0 (k : ((OA × Int) → K)) (x4 : Addr) (x5 : Int) : K :=
 k ((some x4), x5)
abbrev Zdf1 (d : OA) (k : ((OA × Int) → K)) (g_1 : Addr) (list : Sl) : K :=
 ldI .i64 (g_1.add 0) fun x20_0 =>
 alK (.cells #[.pointer d, .int .i64 x20_0, list.v] 125) fun b =>
 Zdf0 k ⟨b, 0, none⟩ 0
abbrev Zdf2 (k : ((OA × Int) → K)) (x4_1 : OA) (x5_1 : Int) : K :=
 k (x4_1, x5_1)
abbrev Zdf3 (d : OA) (k : ((OA × Int) → K)) (g_1 : Addr) (list : Sl) (e : Int) (x17 : Bool) : K :=
 brK x17
 (Zdf2 k none e)
 (Zdf1 d k g_1 list)
abbrev Zdf4 (d : OA) (k : ((OA × Int) → K)) (g_1 : Addr) (list : Sl) (e : Int) : K :=
 Zdf3 d k g_1 list e (e != 0)
abbrev Zdf5 (d : OA) (k : ((OA × Int) → K)) (g_1 : Addr) : K :=
 ldI .i64 (g_1.add 0) fun x11_0 =>
 Yiy d x11_0 fun x12 =>
 Zdf4 d k g_1 x12.1 x12.2.2
abbrev Yze (d : OA) (g : Int) : M (OA × Int) := fun k =>
 alK (.cells #[.int .i64 g] 43) fun b_1 =>
 Zdf5 d k ⟨b_1, 0, none⟩
theorem Ytd (d : OA) (g : Int) (k : (OA × Int) → K) (w : World) (h_ : Yze d g k w) : Yiv d g k w :=
 Yae (P := Tryz.prog) Tryz.func179 rfl (by kernel_rfl)
 (Qs [(3, .addr)] [0] (fun z_ => Zdf5 d k z_.1)
 Qz
 (fun (g_1, _) => Qs [(6, .slice), (8, .int .i64)] [0, 3] (fun z_ => Zdf4 d k g_1 z_.1 z_.2.1)
 Qz
 (fun (list, e, _) => Qs [] [0, 3, 6] (fun z_ => Zdf1 d k g_1 list)
 (Qs [(17, .bool)] [0, 3, 6, 8] (fun z_ => Zdf3 d k g_1 list e z_.1)
 Qz
 (fun (x17, _) => Qc (x17) (Zdf2 k none e) (Zdf1 d k g_1 list) (Qs [(4, .ptr), (5, .int .i64)] [] (fun z_ => Zdf2 k z_.1 z_.2.1)
 Qz
 (fun (x4_1, x5_1, _) => Qr)) Qk))
 (fun _ => Qs [(4, .addr), (5, .int .i64)] [] (fun z_ => Zdf0 k z_.1 z_.2.1)
 Qz
 (fun (x4, x5, _) => Qr))))) h_
abbrev Zdg0 (k : ((OA × Int) → K)) (x4 : OA) (x5 : Int) : K :=
 k (x4, x5)
abbrev Zdg1 (k : ((OA × Int) → K)) (x4_1 : OA) (x5_1 : Int) : K :=
 k (x4_1, x5_1)
abbrev Zdg2 (k : ((OA × Int) → K)) (x14_1 : Int) (c : ((Int × Unit) → K)) (e : Int) (x25 : Bool) : K :=
 brK x25
 (Zdg1 k none e)
 (c ((IntKind.wrap .i64 (x14_1 + 1)), ()))
abbrev Zdg3 (k : ((OA × Int) → K)) (x14_1 : Int) (c : ((Int × Unit) → K)) (e : Int) : K :=
 Zdg2 k x14_1 c e (e != 0)
abbrev Zdg4 (k : ((OA × Int) → K)) (x : OA) (x14_1 : Int) (c : ((Int × Unit) → K)) (s : Addr) : K :=
 ldI .i64 (s.add 0) fun x20 =>
 ldI .i64 (s.add 1) fun x22 =>
 Yb7 x x20 x22 fun x23 =>
 Zdg3 k x14_1 c x23
abbrev Zdg5 (k : ((OA × Int) → K)) (x : OA) (x12 : Sl) (x14_1 : Int) (c : ((Int × Unit) → K)) : K :=
 ixS x12.p x12.n x14_1 2 fun x16 =>
 ldI .i64 (x16.add 0) fun x17_0 =>
 ldI .i64 (x16.add 1) fun x17_1 =>
 alK (.cells #[.int .i64 0, .int .i64 0] 152) fun b =>
 stK (Addr.add ⟨b, 0, none⟩ 0) (.int .i64 x17_0) <|
 stK (Addr.add ⟨b, 0, none⟩ 1) (.int .i64 x17_1) <|
 Zdg4 k x x14_1 c ⟨b, 0, none⟩
abbrev Zdg6 (k : ((OA × Int) → K)) (x : OA) (x12 : Sl) (x14_1 : Int) (c : ((Int × Unit) → K)) (x15 : Bool) : K :=
 brK x15
 (Zdg5 k x x12 x14_1 c)
 (Zdg0 k x 0)
abbrev Zdg7 (k : ((OA × Int) → K)) (x : OA) (x12 : Sl) (x13 : Int) (x14_1 : Int) (c : ((Int × Unit) → K)) : K :=
 Zdg6 k x x12 x14_1 c (decide (x14_1 < x13))
abbrev Zdg8 (k : ((OA × Int) → K)) (x : OA) (x12 : Sl) (x13 : Int) (x14 : Int) : K :=
 lp (fun (z_ : (Int × Unit)) c_ => Zdg7 k x x12 x13 z_.1 c_) (x14, ())
abbrev Zdg9 (list : Sl) (k : ((OA × Int) → K)) (x : OA) : K :=
 Zdg8 k x list ((list.n : Nat) : Int) 0
abbrev Zdg10 (limit : Int) (list : Sl) (k : ((OA × Int) → K)) : K :=
 Ypa limit fun x11 =>
 Zdg9 list k x11
abbrev Yxa (limit : Int) (list : Sl) : M (OA × Int) := fun k =>
 Zdg10 limit list k
theorem Yxb (limit : Int) (list : Sl) (k : (OA × Int) → K) (w : World) (h_ : Yxa limit list k w) : Yms limit list k w :=
 Yae (P := Tryz.prog) Tryz.func180 rfl (by kernel_rfl)
 (Qs [] [0, 1] (fun z_ => Zdg10 limit list k)
 Qz
 (fun _ => Qs [(6, .ptr)] [1] (fun z_ => Zdg9 list k z_.1)
 Qz
 (fun (x, _) => Qs [] [6] (fun z_ => Zdg0 k x 0)
 (Qs [(12, .slice), (13, .int .i64), (14, .int .i64)] [6] (fun z_ => Zdg8 k x z_.1 z_.2.1 z_.2.2.1)
 Qz
 (fun (x12, x13, x14, _) => Qb (Ql [(14, .int .i64)] [6, 12, 13] (fun (z_ : (Int × Unit)) c_ => Zdg7 k x x12 x13 z_.1 c_) (x14, ())
 (fun (x14_1, _) c => Qs [(15, .bool)] [6, 12, 13, 14] (fun z_ => Zdg6 k x x12 x14_1 c z_.1)
 Qz
 (fun (x15, _) => Qs [] [6, 12, 13, 14] (fun z_ => Zdg5 k x x12 x14_1 c)
 (Qc (x15) (Zdg5 k x x12 x14_1 c) (Zdg0 k x 0) Qk Qx)
 (fun _ => Qs [] [6, 12, 13, 14] (fun z_ => c ((IntKind.wrap .i64 (x14_1 + 1)), ()))
 (Qb (Qs [(8, .addr)] [6, 12, 13, 14] (fun z_ => Zdg4 k x x14_1 c z_.1)
 Qz
 (fun (s, _) => Qs [(9, .int .i64)] [6, 12, 13, 14] (fun z_ => Zdg3 k x14_1 c z_.1)
 Qz
 (fun (e, _) => Qs [(25, .bool)] [6, 9, 12, 13, 14] (fun z_ => Zdg2 k x14_1 c e z_.1)
 Qz
 (fun (x25, _) => Qc (x25) (Zdg1 k none e) (c ((IntKind.wrap .i64 (x14_1 + 1)), ())) (Qs [(4, .ptr), (5, .int .i64)] [] (fun z_ => Zdg1 k z_.1 z_.2.1)
 Qz
 (fun (x4_1, x5_1, _) => Qr)) Qk)))))
 (fun _ => Qz)))))))
 (fun _ => Qs [(4, .ptr), (5, .int .i64)] [] (fun z_ => Zdg0 k z_.1 z_.2.1)
 Qz
 (fun (x4, x5, _) => Qr))))) h_
abbrev Zdh0 (k : (Sl → K)) (x2 : Sl) : K :=
 k x2
abbrev Zdh1 (t : OA) (k : (Sl → K)) : K :=
 nn t fun x4 =>
 ldS (x4.add 2) fun x6 =>
 Yhp x6 fun x7 =>
 Zdh0 k x7
abbrev Yoi (t : OA) : M Sl := fun k =>
 Zdh1 t k
theorem Yk5 (t : OA) (k : Sl → K) (w : World) (h_ : Yoi t k w) : Yeg t k w :=
 Yae (P := Tryz.prog) Tryz.func181 rfl (by kernel_rfl)
 (Qs [] [0] (fun z_ => Zdh1 t k)
 Qz
 (fun _ => Qs [(2, .slice)] [] (fun z_ => Zdh0 k z_.1)
 Qz
 (fun (x2, _) => Qr))) h_
abbrev Zdi0 (k : (OA → K)) (x2 : Addr) : K :=
 k (some x2)
abbrev Zdi1 (k : (OA → K)) (limit_1 : Int) : K :=
 Ykf limit_1 64 fun x6 =>
 mkS Tryz.prog 109 x6 x6 fun b =>
 alK (.cells #[.slice (some ⟨b, 0, none⟩) (Int.toNat x6) (Int.toNat x6), .int .i64 limit_1, .int .i64 0] 191) fun b_1 =>
 Zdi0 k ⟨b_1, 0, none⟩
abbrev Yua (limit : Int) : M OA := fun k =>
 Zdi1 k (max2I limit 0)
theorem Yvf (limit : Int) (k : OA → K) (w : World) (h_ : Yua limit k w) : Yfv limit k w :=
 Yae (P := Tryz.prog) Tryz.func182 rfl (by kernel_rfl)
 (Qs [] [0] (fun z_ => Zdi1 k (max2I limit 0))
 Qz
 (fun _ => Qs [(0, .int .i64)] [] (fun z_ => Zdi1 k z_.1)
 Qz
 (fun (limit_1, _) => Qs [(2, .addr)] [] (fun z_ => Zdi0 k z_.1)
 Qz
 (fun (x2, _) => Qr)))) h_
abbrev Zdj0 (k : (OA → K)) (x0 : Addr) : K :=
 k (some x0)
abbrev Zdj1 (k : (OA → K)) : K :=
 alK (.map #[] 0) fun b =>
 alK (.cells #[.slice none 0 0, .slice none 0 0, .slice none 0 0, .slice none 0 0, .slice none 0 0, .slice none 0 0, .slice none 0 0, .slice none 0 0, .slice none 0 0, .slice none 0 0, .slice none 0 0, .slice none 0 0, .slice none 0 0, .slice none 0 0, .slice none 0 0, .slice none 0 0, .slice none 0 0, .slice none 0 0, .slice none 0 0, .slice none 0 0, .slice none 0 0, .slice none 0 0, .slice none 0 0, .slice none 0 0, .slice none 0 0, .slice none 0 0, .slice none 0 0, .slice none 0 0, .slice none 0 0, .slice none 0 0, .slice none 0 0, .slice none 0 0, .map (some b)] 199) fun b_1 =>
 Zdj0 k ⟨b_1, 0, none⟩
abbrev Vac : M OA := fun k =>
 Zdj1 k
theorem Yzf (k : OA → K) (w : World) (h_ : Vac k w) : Yo9 k w :=
 Yae (P := Tryz.prog) Tryz.func183 rfl (by kernel_rfl)
 (Qs [] [] (fun z_ => Zdj1 k)
 Qz
 (fun _ => Qs [(0, .addr)] [] (fun z_ => Zdj0 k z_.1)
 Qz
 (fun (x0, _) => Qr))) h_
abbrev Zdk0 (cap0 : Addr) (at_2 : Int) (c : ((Int × Bool × Unit) → K)) : K :=
 ldP cap0 fun x12 =>
 Yap x12 (IntKind.wrap .i64 (at_2 + 1)) fun x15 =>
 c (x15.1, x15.2, ())
abbrev Zdk1 (cap0 : Addr) (k : (Unit → K)) (at_2 : Int) (c : ((Int × Bool × Unit) → K)) (x21 : Bool) : K :=
 brK x21
 (k ())
 (Zdk0 cap0 at_2 c)
abbrev Zdk2 (yield : Fv) (cap0 : Addr) (k : (Unit → K)) (at_2 : Int) (c : ((Int × Bool × Unit) → K)) : K :=
 dyn Tryz.prog (yield.v) #[.int .i64 at_2] (.one (.sc (.bool))) fun x20 =>
 Zdk1 cap0 k at_2 c (!x20)
abbrev Zdk3 (yield : Fv) (cap0 : Addr) (k : (Unit → K)) (at_2 : Int) (c : ((Int × Bool × Unit) → K)) (x10 : Bool) : K :=
 brK x10
 (Zdk2 yield cap0 k at_2 c)
 (k ())
abbrev Zdk4 (yield : Fv) (cap0 : Addr) (k : (Unit → K)) (at_2 : Int) (ok_1 : Bool) (c : ((Int × Bool × Unit) → K)) : K :=
 Zdk3 yield cap0 k at_2 c ok_1
abbrev Zdk5 (yield : Fv) (cap0 : Addr) (k : (Unit → K)) (at_1 : Int) (ok : Bool) : K :=
 lp (fun (z_ : (Int × Bool × Unit)) c_ => Zdk4 yield cap0 k z_.1 z_.2.1 c_) (at_1, ok, ())
abbrev Yjo (yield : Fv) (cap0 : Addr) : M Unit := fun k =>
 ldP cap0 fun x6 =>
 Yap x6 0 fun x7 =>
 Zdk5 yield cap0 k x7.1 x7.2
theorem Yna (yield : Fv) (cap0 : Addr) (k : Unit → K) (w : World) (h_ : Yjo yield cap0 k w) : Yhb yield cap0 k w :=
 Yae (P := Tryz.prog) Tryz.func188 rfl (by kernel_rfl)
 (Qs [(3, .int .i64), (4, .bool)] [0, 1] (fun z_ => Zdk5 yield cap0 k z_.1 z_.2.1)
 Qz
 (fun (at_1, ok, _) => Qb (Ql [(3, .int .i64), (4, .bool)] [0, 1] (fun (z_ : (Int × Bool × Unit)) c_ => Zdk4 yield cap0 k z_.1 z_.2.1 c_) (at_1, ok, ())
 (fun (at_2, ok_1, _) c => Qs [] [0, 1, 3] (fun z_ => Zdk2 yield cap0 k at_2 c)
 (Qs [(10, .bool)] [0, 1, 3] (fun z_ => Zdk3 yield cap0 k at_2 c z_.1)
 Qz
 (fun (x10, _) => Qc (x10) (Zdk2 yield cap0 k at_2 c) (k ()) Qk Qx))
 (fun _ => Qs [] [0, 1, 3] (fun z_ => Zdk0 cap0 at_2 c)
 (Qb (Qs [(21, .bool)] [0, 1, 3] (fun z_ => Zdk1 cap0 k at_2 c z_.1)
 Qz
 (fun (x21, _) => Qc (x21) (k ()) (Zdk0 cap0 at_2 c) Qr Qk)))
 (fun _ => Qz)))))) h_
abbrev Zdl0 (k : ((Int × Bool) → K)) (x4 : Int) (x5 : Bool) : K :=
 k (x4, x5)
abbrev Zdl1 (k : ((Int × Bool) → K)) (i_1 : Int) (w_2 : Int) : K :=
 Yiz w_2 fun x54 =>
 Zdl0 k (IntKind.wrap .i64 ((IntKind.wrap .i64 (i_1 * 64)) + x54)) true
abbrev Zdl2 (s : OA) (c : ((Int × Int × Unit) → K)) (i_3 : Int) : K :=
 nn s fun x45 =>
 ldS (x45.add 0) fun x47 =>
 ixS x47.p x47.n i_3 1 fun x49 =>
 ldI .u64 x49 fun x50 =>
 c (i_3, x50, ())
abbrev Zdl3 (k : ((Int × Bool) → K)) (x4_1 : Int) (x5_1 : Bool) : K :=
 k (x4_1, x5_1)
abbrev Zdl4 (s : OA) (k : ((Int × Bool) → K)) (c : ((Int × Int × Unit) → K)) (i_3 : Int) (x43 : Bool) : K :=
 brK x43
 (Zdl3 k 0 false)
 (Zdl2 s c i_3)
abbrev Zdl5 (s : OA) (k : ((Int × Bool) → K)) (c : ((Int × Int × Unit) → K)) (i_3 : Int) : K :=
 nn s fun x39 =>
 ldS (x39.add 0) fun x41 =>
 Zdl4 s k c i_3 (decide (i_3 ≥ ((x41.n : Nat) : Int)))
abbrev Zdl6 (s : OA) (k : ((Int × Bool) → K)) (i_2 : Int) (w_3 : Int) (c : ((Int × Int × Unit) → K)) (x34 : Bool) : K :=
 brK x34
 (Zdl5 s k c (IntKind.wrap .i64 (i_2 + 1)))
 (Zdl1 k i_2 w_3)
abbrev Zdl7 (s : OA) (k : ((Int × Bool) → K)) (i_2 : Int) (w_3 : Int) (c : ((Int × Int × Unit) → K)) : K :=
 Zdl6 s k i_2 w_3 c (w_3 == 0)
abbrev Zdl8 (s : OA) (k : ((Int × Bool) → K)) (i : Int) (w_1 : Int) : K :=
 lp (fun (z_ : (Int × Int × Unit)) c_ => Zdl7 s k z_.1 z_.2.1 c_) (i, w_1, ())
abbrev Zdl9 (s : OA) (k : ((Int × Bool) → K)) (at_2 : Int) (i : Int) : K :=
 nn s fun x19 =>
 ldS (x19.add 0) fun x21 =>
 ixS x21.p x21.n i 1 fun x23 =>
 ldI .u64 x23 fun x24 =>
 nneg (IntKind.wrap .u64 (Int.tmod at_2 64)) <|
 nneg (IntKind.wrap .u64 (Int.tmod at_2 64)) <|
 Zdl8 s k i (shlI .u64 (shrI .u64 x24 (IntKind.wrap .u64 (Int.tmod at_2 64))) (IntKind.wrap .u64 (Int.tmod at_2 64)))
abbrev Zdl10 (k : ((Int × Bool) → K)) (x4_2 : Int) (x5_2 : Bool) : K :=
 k (x4_2, x5_2)
abbrev Zdl11 (s : OA) (k : ((Int × Bool) → K)) (at_2 : Int) (x15 : Bool) : K :=
 brK x15
 (Zdl10 k 0 false)
 (Zdl9 s k at_2 (IntKind.wrap .i64 (Int.tdiv at_2 64)))
abbrev Zdl12 (s : OA) (k : ((Int × Bool) → K)) (at_2 : Int) : K :=
 nn s fun x12 =>
 ldI .i64 (x12.add 1) fun x14 =>
 Zdl11 s k at_2 (decide (at_2 ≥ x14))
abbrev Yfd (s : OA) (at_1 : Int) : M (Int × Bool) := fun k =>
 Zdl12 s k (max2I at_1 0)
theorem Yoj (s : OA) (at_1 : Int) (k : (Int × Bool) → K) (w : World) (h_ : Yfd s at_1 k w) : Yap s at_1 k w :=
 Yae (P := Tryz.prog) Tryz.func189 rfl (by kernel_rfl)
 (Qs [] [0, 1] (fun z_ => Zdl12 s k (max2I at_1 0))
 Qz
 (fun _ => Qs [(1, .int .i64)] [0] (fun z_ => Zdl12 s k z_.1)
 Qz
 (fun (at_2, _) => Qs [] [0, 1] (fun z_ => Zdl9 s k at_2 (IntKind.wrap .i64 (Int.tdiv at_2 64)))
 (Qs [(15, .bool)] [0, 1] (fun z_ => Zdl11 s k at_2 z_.1)
 Qz
 (fun (x15, _) => Qc (x15) (Zdl10 k 0 false) (Zdl9 s k at_2 (IntKind.wrap .i64 (Int.tdiv at_2 64))) (Qs [(4, .int .i64), (5, .bool)] [] (fun z_ => Zdl10 k z_.1 z_.2.1)
 Qz
 (fun (x4_2, x5_2, _) => Qr)) Qk))
 (fun _ => Qs [(6, .int .i64)] [0, 1] (fun z_ => Zdl9 s k at_2 z_.1)
 Qz
 (fun (i, _) => Qs [(7, .int .u64)] [0, 6] (fun z_ => Zdl8 s k i z_.1)
 Qz
 (fun (w_1, _) => Qs [(6, .int .i64), (7, .int .u64)] [] (fun z_ => Zdl1 k z_.1 z_.2.1)
 (Qb (Ql [(6, .int .i64), (7, .int .u64)] [0] (fun (z_ : (Int × Int × Unit)) c_ => Zdl7 s k z_.1 z_.2.1 c_) (i, w_1, ())
 (fun (i_2, w_3, _) c => Qs [] [0, 6] (fun z_ => Zdl5 s k c (IntKind.wrap .i64 (i_2 + 1)))
 (Qs [(34, .bool)] [0, 6, 7] (fun z_ => Zdl6 s k i_2 w_3 c z_.1)
 Qz
 (fun (x34, _) => Qc (x34) (Zdl5 s k c (IntKind.wrap .i64 (i_2 + 1))) (Zdl1 k i_2 w_3) Qk Qx))
 (fun _ => Qb (Qs [(6, .int .i64)] [0] (fun z_ => Zdl5 s k c z_.1)
 Qz
 (fun (i_3, _) => Qs [] [0, 6] (fun z_ => Zdl2 s c i_3)
 (Qs [(43, .bool)] [0, 6] (fun z_ => Zdl4 s k c i_3 z_.1)
 Qz
 (fun (x43, _) => Qc (x43) (Zdl3 k 0 false) (Zdl2 s c i_3) (Qs [(4, .int .i64), (5, .bool)] [] (fun z_ => Zdl3 k z_.1 z_.2.1)
 Qz
 (fun (x4_1, x5_1, _) => Qr)) Qk))
 (fun _ => Qz)))))))
 (fun (i_1, w_2, _) => Qs [(4, .int .i64), (5, .bool)] [] (fun z_ => Zdl0 k z_.1 z_.2.1)
 Qz
 (fun (x4, x5, _) => Qr)))))))) h_
abbrev Zdm0 (k : (Bool → K)) (x4 : Bool) : K :=
 k x4
abbrev Zdm1 (k : (Bool → K)) (x4_1 : Bool) : K :=
 k x4_1
abbrev Zdm2 (k : (Bool → K)) (c : (Unit → K)) (x26 : Bool) : K :=
 brK x26
 (Zdm1 k true)
 (c ())
abbrev Zdm3 (block : Int) (k : (Bool → K)) (c : (Unit → K)) (start : Int) (n : Int) : K :=
 brK (decide (block ≥ start))
 (Zdm2 k c (decide (block < (IntKind.wrap .i64 (start + n)))))
 (Zdm2 k c false)
abbrev Zdm4 (block : Int) (k : (Bool → K)) (x11 : OA) (c : (Unit → K)) : K :=
 semT Tryz.prog (Instr.entry (.pointer x11)) (.tup [.sc (.any), .sc (.any)]) fun e =>
 decSh (.int .i64) e.1 fun x15 =>
 decSh (.int .i64) e.2 fun x16 =>
 Zdm3 block k c x15 x16
abbrev Zdm5 (block : Int) (k : (Bool → K)) (x11 : OA) (c : (Unit → K)) (x13 : Bool) : K :=
 brK x13
 (Zdm4 block k x11 c)
 (Zdm0 k false)
abbrev Zdm6 (block : Int) (k : (Bool → K)) (x11 : OA) (c : (Unit → K)) : K :=
 nextM Tryz.prog (Instr.next (.pointer x11) false 0) fun go rest =>
 Zdm5 block k x11 c go
abbrev Zdm7 (block : Int) (k : (Bool → K)) (x11 : OA) : K :=
 lp (fun (z_ : Unit) c_ => Zdm6 block k x11 c_) ()
abbrev Zdm8 (x : OA) (block : Int) (k : (Bool → K)) : K :=
 nn x fun x8 =>
 ldM (x8.add 0) fun x10 =>
 semT Tryz.prog (Instr.range 240 (.map x10)) (.one (.sc (.ptr))) fun it =>
 Zdm7 block k it
abbrev Ymi (x : OA) (block : Int) : M Bool := fun k =>
 Zdm8 x block k
theorem Ypn (x : OA) (block : Int) (k : Bool → K) (w : World) (h_ : Ymi x block k w) : Ygc x block k w :=
 Yae (P := Tryz.prog) Tryz.func196 rfl (by kernel_rfl)
 (Qs [] [0, 1] (fun z_ => Zdm8 x block k)
 Qz
 (fun _ => Qs [] [] (fun z_ => Zdm0 k false)
 (Qs [(11, .ptr)] [1] (fun z_ => Zdm7 block k z_.1)
 Qz
 (fun (x11, _) => Qb (Ql [] [1, 11] (fun (z_ : Unit) c_ => Zdm6 block k x11 c_) ()
 (fun _ c => Qs [(13, .bool)] [1, 11] (fun z_ => Zdm5 block k x11 c z_.1)
 Qz
 (fun (x13, _) => Qs [] [1, 11] (fun z_ => Zdm4 block k x11 c)
 (Qc (x13) (Zdm4 block k x11 c) (Zdm0 k false) Qk Qx)
 (fun _ => Qb (Qs [(5, .int .i64), (6, .int .i64)] [1, 11] (fun z_ => Zdm3 block k c z_.1 z_.2.1)
 Qz
 (fun (start, n, _) => Qs [(26, .bool)] [1, 11] (fun z_ => Zdm2 k c z_.1)
 (Qp [3])
 (fun (x26, _) => Qc (x26) (Zdm1 k true) (c ()) (Qs [(4, .bool)] [] (fun z_ => Zdm1 k z_.1)
 Qz
 (fun (x4_1, _) => Qr)) Qk)))))))))
 (fun _ => Qs [(4, .bool)] [] (fun z_ => Zdm0 k z_.1)
 Qz
 (fun (x4, _) => Qr)))) h_
abbrev Zdn0 (x : OA) (start : Int) (k : (Unit → K)) : K :=
 nn x fun x17 =>
 ldM (x17.add 0) fun x19 =>
 semT Tryz.prog (Builtin.delete_ #[240, 3] 0 #[.map x19, .int .i64 start]) (.tup []) fun r =>
 k ()
abbrev Yrp (x : OA) (start : Int) : M Unit := fun k =>
 tick fun _ =>
 nn x fun x5 =>
 ldM (x5.add 1) fun x7 =>
 nn x fun x10 =>
 ldM (x10.add 0) fun x12 =>
 lkE Tryz.prog 3 (.int .i64 0) (.sc (.int .i64)) x12 (.int .i64 start) fun r_1 ob x14 ok =>
 semT Tryz.prog (Builtin.delete_ #[240, 3] 0 #[.map x7, .int .i64 (IntKind.wrap .i64 (start + x14))]) (.tup []) fun r_2 =>
 Zdn0 x start k
theorem Yok (x : OA) (start : Int) (k : Unit → K) (w : World) (h_ : Yrp x start k w) : Yb8 x start k w :=
 Yae (P := Tryz.prog) Tryz.func197 rfl (by kernel_rfl)
 (Qs [] [0, 1] (fun z_ => Zdn0 x start k)
 (RefK.draw [] [0, 1, 3, 7, 0, 0, 32, 96, 224, 0, 992, 2032, 4095] [0, 1, 2, 3, 4, 5, 6, 7, 8, 9, 10, 11, 12] [0, 1, 2, 3, 4, 5, 6, 7, 8, 9, 10, 11, 12] (by kernel_rfl) (by kernel_rfl))
 (fun _ => Qz)) h_
abbrev Yte (x : OA) (start : Int) (n : Int) : M Unit := fun k =>
 tick fun _ =>
 nn x fun x7 =>
 ldM (x7.add 0) fun x9 =>
 nn x fun x12 =>
 ldM (x12.add 1) fun x14 =>
 semT Tryz.prog (Instr.mapEntry 240 (.map x9) (.int .i64 start)) (.tup [.sc (.int .i64), .sc (.int .i64)]) fun e =>
 semU Tryz.prog (Instr.entryStore 240 (.map x9) (.int .i64 e.2) (.int .i64 n)) <|
 semT Tryz.prog (Instr.mapEntry 240 (.map x14) (.int .i64 (IntKind.wrap .i64 (start + n)))) (.tup [.sc (.int .i64), .sc (.int .i64)]) fun e_1 =>
 semU Tryz.prog (Instr.entryStore 240 (.map x14) (.int .i64 e_1.2) (.int .i64 start)) <|
 k ()
theorem Ypo (x : OA) (start : Int) (n : Int) (k : Unit → K) (w : World) (h_ : Yte x start n k w) : Yck x start n k w :=
 Yae (P := Tryz.prog) Tryz.func198 rfl (by kernel_rfl)
 (RefK.draw [] [0, 1, 3, 7, 0, 0, 32, 96, 224, 0, 0, 1536, 0, 0, 511, 16895, 53759, 122879, 253951, 524287] [0, 1, 2, 3, 4, 5, 6, 7, 8, 9, 10, 11, 12, 13, 14, 15, 16, 17, 18, 19] [0, 1, 2, 3, 4, 5, 6, 7, 8, 14, 12, 15, 16, 9, 10, 11, 17, 13, 18, 19] (by kernel_rfl) (by kernel_rfl)) h_
abbrev Zdo0 (k : ((Int × Int) → K)) (x4 : Int) (x5 : Int) : K :=
 k (x4, x5)
abbrev Zdo1 (x0 : OA) (x1 : Int) (k : ((Int × Int) → K)) (x6_1 : Int) (x9 : Int) : K :=
 Yck x0 (IntKind.wrap .i64 (x6_1 + x1)) (IntKind.wrap .i64 (x9 - x1)) fun x76 =>
 Zdo0 k x6_1 0
abbrev Zdo2 (x0 : OA) (x1 : Int) (k : ((Int × Int) → K)) (x6_1 : Int) (x9 : Int) (x68 : Bool) : K :=
 brK x68
 (Zdo1 x0 x1 k x6_1 x9)
 (Zdo0 k x6_1 0)
abbrev Zdo3 (x0 : OA) (x1 : Int) (k : ((Int × Int) → K)) (x6_1 : Int) (x9 : Int) : K :=
 Yb8 x0 x6_1 fun x65 =>
 Zdo2 x0 x1 k x6_1 x9 (decide (x9 > x1))
abbrev Zdo4 (x0 : OA) (x1 : Int) (k : ((Int × Int) → K)) (x6_1 : Int) : K :=
 nn x0 fun x58 =>
 ldM (x58.add 0) fun x60 =>
 lkE Tryz.prog 3 (.int .i64 0) (.sc (.int .i64)) x60 (.int .i64 x6_1) fun r ob x62 ok =>
 Zdo3 x0 x1 k x6_1 x62
abbrev Zdo5 (k : ((Int × Int) → K)) (x4_1 : Int) (x5_1 : Int) : K :=
 k (x4_1, x5_1)
abbrev Zdo6 (x0 : OA) (x1 : Int) (k : ((Int × Int) → K)) (x6_1 : Int) (x56 : Bool) : K :=
 brK x56
 (Zdo5 k 0 4)
 (Zdo4 x0 x1 k x6_1)
abbrev Zdo7 (x0 : OA) (x1 : Int) (k : ((Int × Int) → K)) (x6_1 : Int) : K :=
 Zdo6 x0 x1 k x6_1 (decide (x6_1 < 0))
abbrev Zdo8 (x6_2 : Int) (c : ((Int × Unit) → K)) (x7 : Int) (x53 : Bool) : K :=
 brK x53
 (c (x7, ()))
 (c (x6_2, ()))
abbrev Zdo9 (x0 : OA) (x1 : Int) (x6_2 : Int) (c : ((Int × Unit) → K)) (x7 : Int) (x8 : Int) : K :=
 brK (decide (x8 ≥ x1))
 (brK (decide (x6_2 < 0))
 (Zdo8 x6_2 c x7 true)
 (nn x0 fun x31 =>
 ldM (x31.add 0) fun x33 =>
 lkE Tryz.prog 3 (.int .i64 0) (.sc (.int .i64)) x33 (.int .i64 x6_2) fun r_1 ob_1 x35 ok_1 =>
 brK (decide (x8 < x35))
 (Zdo8 x6_2 c x7 true)
 (nn x0 fun x41 =>
 ldM (x41.add 0) fun x43 =>
 lkE Tryz.prog 3 (.int .i64 0) (.sc (.int .i64)) x43 (.int .i64 x6_2) fun r_2 ob_2 x45 ok_2 =>
 brK (x8 == x45)
 (Zdo8 x6_2 c x7 (decide (x7 < x6_2)))
 (Zdo8 x6_2 c x7 false))))
 (Zdo8 x6_2 c x7 false)
abbrev Zdo10 (x0 : OA) (x1 : Int) (x16 : OA) (x6_2 : Int) (c : ((Int × Unit) → K)) : K :=
 semT Tryz.prog (Instr.entry (.pointer x16)) (.tup [.sc (.any), .sc (.any)]) fun e =>
 decSh (.int .i64) e.1 fun x20 =>
 decSh (.int .i64) e.2 fun x21 =>
 Zdo9 x0 x1 x6_2 c x20 x21
abbrev Zdo11 (x0 : OA) (x1 : Int) (k : ((Int × Int) → K)) (x16 : OA) (x6_2 : Int) (c : ((Int × Unit) → K)) (x18 : Bool) : K :=
 brK x18
 (Zdo10 x0 x1 x16 x6_2 c)
 (Zdo7 x0 x1 k x6_2)
abbrev Zdo12 (x0 : OA) (x1 : Int) (k : ((Int × Int) → K)) (x16 : OA) (x6_2 : Int) (c : ((Int × Unit) → K)) : K :=
 nextM Tryz.prog (Instr.next (.pointer x16) false 0) fun go rest =>
 Zdo11 x0 x1 k x16 x6_2 c go
abbrev Zdo13 (x0 : OA) (x1 : Int) (k : ((Int × Int) → K)) (x6 : Int) (x16 : OA) : K :=
 lp (fun (z_ : (Int × Unit)) c_ => Zdo12 x0 x1 k x16 z_.1 c_) (x6, ())
abbrev Zdo14 (x0 : OA) (x1 : Int) (k : ((Int × Int) → K)) (x6 : Int) : K :=
 nn x0 fun x13 =>
 ldM (x13.add 0) fun x15 =>
 semT Tryz.prog (Instr.range 240 (.map x15)) (.one (.sc (.ptr))) fun it =>
 Zdo13 x0 x1 k x6 it
abbrev Zdo15 (k : ((Int × Int) → K)) (x4_2 : Int) (x5_2 : Int) : K :=
 k (x4_2, x5_2)
abbrev Zdo16 (x0 : OA) (x1 : Int) (k : ((Int × Int) → K)) (x11 : Bool) : K :=
 brK x11
 (Zdo15 k 0 1)
 (Zdo14 x0 x1 k (-1))
abbrev Yk6 (x0 : OA) (x1 : Int) : M (Int × Int) := fun k =>
 Zdo16 x0 x1 k (decide (x1 < 1))
theorem Yol (x0 : OA) (x1 : Int) (k : (Int × Int) → K) (w : World) (h_ : Yk6 x0 x1 k w) : Yd3 x0 x1 k w :=
 Yae (P := Tryz.prog) Tryz.func200 rfl (by kernel_rfl)
 (Qs [] [0, 1] (fun z_ => Zdo16 x0 x1 k (decide (x1 < 1)))
 Qz
 (fun _ => Qs [] [0, 1] (fun z_ => Zdo14 x0 x1 k (-1))
 (Qs [(11, .bool)] [0, 1] (fun z_ => Zdo16 x0 x1 k z_.1)
 Qz
 (fun (x11, _) => Qc (x11) (Zdo15 k 0 1) (Zdo14 x0 x1 k (-1)) (Qs [(4, .int .i64), (5, .int .i64)] [] (fun z_ => Zdo15 k z_.1 z_.2.1)
 Qz
 (fun (x4_2, x5_2, _) => Qr)) Qk))
 (fun _ => Qs [(6, .int .i64)] [0, 1] (fun z_ => Zdo14 x0 x1 k z_.1)
 Qz
 (fun (x6, _) => Qs [(6, .int .i64)] [0, 1] (fun z_ => Zdo7 x0 x1 k z_.1)
 (Qs [(16, .ptr)] [0, 1, 6] (fun z_ => Zdo13 x0 x1 k x6 z_.1)
 Qz
 (fun (x16, _) => Qb (Ql [(6, .int .i64)] [0, 1, 16] (fun (z_ : (Int × Unit)) c_ => Zdo12 x0 x1 k x16 z_.1 c_) (x6, ())
 (fun (x6_2, _) c => Qs [(18, .bool)] [0, 1, 6, 16] (fun z_ => Zdo11 x0 x1 k x16 x6_2 c z_.1)
 Qz
 (fun (x18, _) => Qs [] [0, 1, 6, 16] (fun z_ => Zdo10 x0 x1 x16 x6_2 c)
 (Qc (x18) (Zdo10 x0 x1 x16 x6_2 c) (Zdo7 x0 x1 k x6_2) Qk Qx)
 (fun _ => Qb (Qs [(7, .int .i64), (8, .int .i64)] [0, 1, 6, 16] (fun z_ => Zdo9 x0 x1 x6_2 c z_.1 z_.2.1)
 Qz
 (fun (x7, x8, _) => Qs [(53, .bool)] [0, 1, 6, 7, 16] (fun z_ => Zdo8 x6_2 c x7 z_.1)
 (Qp [3, 6, 16, 25])
 (fun (x53, _) => Qc (x53) (c (x7, ())) (c (x6_2, ())) Qz Qk)))))))))
 (fun (x6_1, _) => Qs [] [0, 1, 6] (fun z_ => Zdo4 x0 x1 k x6_1)
 (Qs [(56, .bool)] [0, 1, 6] (fun z_ => Zdo6 x0 x1 k x6_1 z_.1)
 Qz
 (fun (x56, _) => Qc (x56) (Zdo5 k 0 4) (Zdo4 x0 x1 k x6_1) (Qs [(4, .int .i64), (5, .int .i64)] [] (fun z_ => Zdo5 k z_.1 z_.2.1)
 Qz
 (fun (x4_1, x5_1, _) => Qr)) Qk))
 (fun _ => Qs [(9, .int .i64)] [0, 1, 6] (fun z_ => Zdo3 x0 x1 k x6_1 z_.1)
 Qz
 (fun (x9, _) => Qs [] [0, 1, 6, 9] (fun z_ => Zdo2 x0 x1 k x6_1 x9 (decide (x9 > x1)))
 Qz
 (fun _ => Qs [] [6] (fun z_ => Zdo0 k x6_1 0)
 (Qs [(68, .bool)] [0, 1, 6, 9] (fun z_ => Zdo2 x0 x1 k x6_1 x9 z_.1)
 Qz
 (fun (x68, _) => Qc (x68) (Zdo1 x0 x1 k x6_1 x9) (Zdo0 k x6_1 0) Qz Qk))
 (fun _ => Qs [(4, .int .i64), (5, .int .i64)] [] (fun z_ => Zdo0 k z_.1 z_.2.1)
 Qz
 (fun (x4, x5, _) => Qr)))))))))) h_
abbrev Zdp0 (k : (Int → K)) (x6 : Int) : K :=
 k x6
abbrev Zdp1 (l : OA) (mutator : Int) (k_1 : Int) (k : (Int → K)) : K :=
 nn l fun x8 =>
 ldM (x8.add 32) fun x10 =>
 lkE Tryz.prog 201 (.slice none 0 0) (.sc (.slice)) x10 (.agg #[.int .i64 mutator, .int .i64 k_1]) fun r ob x14 ok =>
 Zdp0 k ((x14.n : Nat) : Int)
abbrev Ytf (l : OA) (mutator : Int) (k_1 : Int) : M Int := fun k =>
 Zdp1 l mutator k_1 k
theorem Ypp (l : OA) (mutator : Int) (k_1 : Int) (k : Int → K) (w : World) (h_ : Ytf l mutator k_1 k w) : Ygd l mutator k_1 k w :=
 Yae (P := Tryz.prog) Tryz.func202 rfl (by kernel_rfl)
 (Qs [] [0, 1, 2] (fun z_ => Zdp1 l mutator k_1 k)
 Qz
 (fun _ => Qs [(6, .int .i64)] [] (fun z_ => Zdp0 k z_.1)
 Qz
 (fun (x6, _) => Qr))) h_
abbrev Zdq0 (l : OA) (x6_1 : Int) (c : ((Int × Unit) → K)) (s : Addr) : K :=
 tick fun _ =>
 nn l fun x31 =>
 ldM (x31.add 32) fun x33 =>
 ldI .i64 (s.add 0) fun x34_0 =>
 ldI .i64 (s.add 1) fun x34_1 =>
 semT Tryz.prog (Builtin.delete_ #[197, 201] 0 #[.map x33, .agg #[.int .i64 x34_0, .int .i64 x34_1]]) (.tup []) fun r =>
 c ((IntKind.wrap .i64 (x6_1 + 1)), ())
abbrev Zdq1 (l : OA) (x6_1 : Int) (c : ((Int × Unit) → K)) (k_1 : Int) (s : Addr) : K :=
 tick fun _ =>
 nn l fun x16 =>
 ixA (x16.add 0) 32 k_1 1 fun x18 =>
 ldS x18 fun x19 =>
 nn l fun x21 =>
 ldM (x21.add 32) fun x23 =>
 ldI .i64 (s.add 0) fun x24_0 =>
 ldI .i64 (s.add 1) fun x24_1 =>
 lkE Tryz.prog 201 (.slice none 0 0) (.sc (.slice)) x23 (.agg #[.int .i64 x24_0, .int .i64 x24_1]) fun r_1 ob x25 ok =>
 nn l fun x27 =>
 semT Tryz.prog (Builtin.append_ #[27, 27] 27 #[x19.v, x25.v]) (.one (.sc (.slice))) fun x26 =>
 ixA (x27.add 0) 32 k_1 1 fun x29 =>
 stK (x29.add 0) (x26.v) <|
 Zdq0 l x6_1 c s
abbrev Zdq2 (l : OA) (mutator : Int) (x6_1 : Int) (c : ((Int × Unit) → K)) (k_1 : Int) : K :=
 alK (.cells #[.int .i64 0, .int .i64 0] 201) fun b =>
 stK (Addr.add ⟨b, 0, none⟩ 0) (.int .i64 mutator) <|
 stK (Addr.add ⟨b, 0, none⟩ 1) (.int .i64 k_1) <|
 Zdq1 l x6_1 c k_1 ⟨b, 0, none⟩
abbrev Zdq3 (l : OA) (mutator : Int) (k : (Unit → K)) (x6_1 : Int) (c : ((Int × Unit) → K)) (x7 : Bool) : K :=
 brK x7
 (Zdq2 l mutator x6_1 c x6_1)
 (k ())
abbrev Zdq4 (l : OA) (mutator : Int) (k : (Unit → K)) (x6_1 : Int) (c : ((Int × Unit) → K)) : K :=
 Zdq3 l mutator k x6_1 c (decide (x6_1 < 32))
abbrev Zdq5 (l : OA) (mutator : Int) (k : (Unit → K)) (x6 : Int) : K :=
 lp (fun (z_ : (Int × Unit)) c_ => Zdq4 l mutator k z_.1 c_) (x6, ())
abbrev Yjp (l : OA) (mutator : Int) : M Unit := fun k =>
 Zdq5 l mutator k 0
theorem Ynb (l : OA) (mutator : Int) (k : Unit → K) (w : World) (h_ : Yjp l mutator k w) : Ye7 l mutator k w :=
 Yae (P := Tryz.prog) Tryz.func203 rfl (by kernel_rfl)
 (Qs [(6, .int .i64)] [0, 1] (fun z_ => Zdq5 l mutator k z_.1)
 Qz
 (fun (x6, _) => Qb (Ql [(6, .int .i64)] [0, 1] (fun (z_ : (Int × Unit)) c_ => Zdq4 l mutator k z_.1 c_) (x6, ())
 (fun (x6_1, _) c => Qs [(7, .bool)] [0, 1, 6] (fun z_ => Zdq3 l mutator k x6_1 c z_.1)
 Qz
 (fun (x7, _) => Qs [] [0, 1, 6] (fun z_ => Zdq2 l mutator x6_1 c x6_1)
 (Qc (x7) (Zdq2 l mutator x6_1 c x6_1) (k ()) Qk Qx)
 (fun _ => Qs [] [0, 1, 6] (fun z_ => c ((IntKind.wrap .i64 (x6_1 + 1)), ()))
 (Qb (Qs [(4, .int .i64)] [0, 1, 6] (fun z_ => Zdq2 l mutator x6_1 c z_.1)
 Qz
 (fun (k_1, _) => Qs [(5, .addr)] [0, 1, 4, 6] (fun z_ => Zdq1 l x6_1 c k_1 z_.1)
 Qz
 (fun (s, _) => Qs [] [0, 1, 5, 6] (fun z_ => Zdq0 l x6_1 c s)
 (RefK.draw [] [0, 0, 0, 0, 4, 20, 60, 124, 0, 256, 768, 1792, 0, 7936, 16380, 1, 32769, 131071, 262143] [0, 1, 2, 3, 4, 5, 6, 7, 8, 9, 10, 11, 12, 13, 15, 16, 14, 17, 18] [0, 1, 2, 3, 4, 5, 6, 7, 8, 9, 10, 11, 12, 13, 14, 15, 16, 17, 18] (by kernel_rfl) (by kernel_rfl))
 (fun _ => RefK.draw [] [0, 1, 3, 7, 0, 31] [0, 1, 2, 3, 4, 5] [0, 1, 2, 3, 4, 5] (by kernel_rfl) (by kernel_rfl))))))
 (fun _ => Qz))))))) h_
abbrev Zdr0 (k : (Int → K)) (x4 : Int) : K :=
 k x4
abbrev Zdr1 (l : OA) (k_1 : Int) (k : (Int → K)) : K :=
 Yfk l k_1 fun x7 =>
 Zdr0 k ((x7.n : Nat) : Int)
abbrev Ymj (l : OA) (k_1 : Int) : M Int := fun k =>
 Zdr1 l k_1 k
theorem Ypq (l : OA) (k_1 : Int) (k : Int → K) (w : World) (h_ : Ymj l k_1 k w) : Yer l k_1 k w :=
 Yae (P := Tryz.prog) Tryz.func209 rfl (by kernel_rfl)
 (Qs [] [0, 1] (fun z_ => Zdr1 l k_1 k)
 Qz
 (fun _ => Qs [(4, .int .i64)] [] (fun z_ => Zdr0 k z_.1)
 Qz
 (fun (x4, _) => Qr))) h_
abbrev Zds0 (k : (Bool → K)) (x4 : Bool) : K :=
 k x4
abbrev Zds1 (at_1 : Int) (cap0 : Addr) (cap1 : Addr) (k : (Bool → K)) : K :=
 ldI .i64 cap0 fun x6 =>
 brK (decide (at_1 ≥ x6))
 (ldI .i64 cap1 fun x10 =>
 Zds0 k (decide (at_1 < x10)))
 (Zds0 k false)
abbrev Ync (at_1 : Int) (cap0 : Addr) (cap1 : Addr) : M Bool := fun k =>
 Zds1 at_1 cap0 cap1 k
theorem Yjy (at_1 : Int) (cap0 : Addr) (cap1 : Addr) (k : Bool → K) (w : World) (h_ : Ync at_1 cap0 cap1 k w) : Yfw at_1 cap0 cap1 k w :=
 Yae (P := Tryz.prog) Tryz.func210 rfl (by kernel_rfl)
 (Qs [] [0, 1, 2] (fun z_ => Zds1 at_1 cap0 cap1 k)
 Qz
 (fun _ => Qs [(4, .bool)] [] (fun z_ => Zds0 k z_.1)
 (Qp [3])
 (fun (x4, _) => Qr))) h_
abbrev Zdt0 (k : ((Sl × (Int × Int)) → K)) (x4 : Sl) (x5 : Int) (x6 : Int) : K :=
 k (x4, (x5, x6))
abbrev Zdt1 (out : Sl) (b_1 : Int) (c : ((Int × Unit) → K)) (h : Addr) : K :=
 ldI .i64 (h.add 0) fun x36_0 =>
 ldI .i64 (h.add 1) fun x36_1 =>
 ldI .i64 (h.add 2) fun x36_2 =>
 ixS out.p out.n b_1 3 fun x37 =>
 stK (x37.add 0) (.int .i64 x36_0) <|
 stK (x37.add 1) (.int .i64 x36_1) <|
 stK (x37.add 2) (.int .i64 x36_2) <|
 c ((IntKind.wrap .i64 (b_1 + 1)), ())
abbrev Zdt2 (k : ((Sl × (Int × Int)) → K)) (x4_1 : Sl) (x5_1 : Int) (x6_1 : Int) : K :=
 k (x4_1, (x5_1, x6_1))
abbrev Zdt3 (k : ((Sl × (Int × Int)) → K)) (out : Sl) (b_1 : Int) (c : ((Int × Unit) → K)) (h : Addr) (x32 : Bool) : K :=
 brK x32
 (Zdt2 k ⟨none, 0, 0⟩ b_1 21)
 (Zdt1 out b_1 c h)
abbrev Zdt4 (k : ((Sl × (Int × Int)) → K)) (out : Sl) (b_1 : Int) (c : ((Int × Unit) → K)) (h : Addr) (e : Int) : K :=
 Zdt3 k out b_1 c h (e != 0)
abbrev Zdt5 (d : OA) (k : ((Sl × (Int × Int)) → K)) (g_1 : Addr) (out : Sl) (b_1 : Int) (c : ((Int × Unit) → K)) : K :=
 ldI .i64 (g_1.add 0) fun x24_0 =>
 Ya0 x24_0 b_1 fun x26 =>
 Ybw d x26 fun x27 =>
 Yhm b_1 x27 fun x28 =>
 alK (.cells #[.int .i64 0, .int .i64 0, .int .i64 0] 143) fun b_2 =>
 stK (Addr.add ⟨b_2, 0, none⟩ 0) (.int .i64 x28.1.1) <|
 stK (Addr.add ⟨b_2, 0, none⟩ 1) (.int .i64 x28.1.2.1) <|
 stK (Addr.add ⟨b_2, 0, none⟩ 2) (.int .i64 x28.1.2.2) <|
 Zdt4 k out b_1 c ⟨b_2, 0, none⟩ x28.2
abbrev Zdt6 (d : OA) (k : ((Sl × (Int × Int)) → K)) (g_1 : Addr) (out : Sl) (b_1 : Int) (c : ((Int × Unit) → K)) (x18 : Bool) : K :=
 brK x18
 (Zdt5 d k g_1 out b_1 c)
 (Zdt0 k out 0 0)
abbrev Zdt7 (d : OA) (k : ((Sl × (Int × Int)) → K)) (g_1 : Addr) (out : Sl) (b_1 : Int) (c : ((Int × Unit) → K)) : K :=
 ldI .i64 (g_1.add 0) fun x17 =>
 Zdt6 d k g_1 out b_1 c (decide (b_1 < x17))
abbrev Zdt8 (d : OA) (k : ((Sl × (Int × Int)) → K)) (g_1 : Addr) (out : Sl) (b : Int) : K :=
 lp (fun (z_ : (Int × Unit)) c_ => Zdt7 d k g_1 out z_.1 c_) (b, ())
abbrev Zdt9 (d : OA) (k : ((Sl × (Int × Int)) → K)) (g_1 : Addr) (out : Sl) : K :=
 Zdt8 d k g_1 out 1
abbrev Zdt10 (d : OA) (k : ((Sl × (Int × Int)) → K)) (g_1 : Addr) : K :=
 ldI .i64 (g_1.add 0) fun x12 =>
 mkS Tryz.prog 143 (max2I 0 x12) (max2I 0 x12) fun b_3 =>
 Zdt9 d k g_1 ⟨(some ⟨b_3, 0, none⟩), (Int.toNat (max2I 0 x12)), (Int.toNat (max2I 0 x12))⟩
abbrev Yzg (d : OA) (g : Int) : M (Sl × (Int × Int)) := fun k =>
 alK (.cells #[.int .i64 g] 43) fun b_4 =>
 Zdt10 d k ⟨b_4, 0, none⟩
theorem Ytg (d : OA) (g : Int) (k : (Sl × (Int × Int)) → K) (w : World) (h_ : Yzg d g k w) : Yiy d g k w :=
 Yae (P := Tryz.prog) Tryz.func220 rfl (by kernel_rfl)
 (Qs [(3, .addr)] [0] (fun z_ => Zdt10 d k z_.1)
 Qz
 (fun (g_1, _) => Qs [(7, .slice)] [0, 3] (fun z_ => Zdt9 d k g_1 z_.1)
 Qz
 (fun (out, _) => Qs [] [7] (fun z_ => Zdt0 k out 0 0)
 (Qs [(8, .int .i64)] [0, 3, 7] (fun z_ => Zdt8 d k g_1 out z_.1)
 Qz
 (fun (b, _) => Qb (Ql [(8, .int .i64)] [0, 3, 7] (fun (z_ : (Int × Unit)) c_ => Zdt7 d k g_1 out z_.1 c_) (b, ())
 (fun (b_1, _) c => Qs [] [0, 3, 7, 8] (fun z_ => Zdt5 d k g_1 out b_1 c)
 (Qs [(18, .bool)] [0, 3, 7, 8] (fun z_ => Zdt6 d k g_1 out b_1 c z_.1)
 Qz
 (fun (x18, _) => Qc (x18) (Zdt5 d k g_1 out b_1 c) (Zdt0 k out 0 0) Qk Qx))
 (fun _ => Qs [] [0, 3, 7, 8] (fun z_ => c ((IntKind.wrap .i64 (b_1 + 1)), ()))
 (Qb (Qs [(9, .addr), (10, .int .i64)] [0, 3, 7, 8] (fun z_ => Zdt4 k out b_1 c z_.1 z_.2.1)
 Qz
 (fun (h, e, _) => Qs [] [0, 3, 7, 8, 9] (fun z_ => Zdt1 out b_1 c h)
 (Qs [(32, .bool)] [0, 3, 7, 8, 9] (fun z_ => Zdt3 k out b_1 c h z_.1)
 Qz
 (fun (x32, _) => Qc (x32) (Zdt2 k ⟨none, 0, 0⟩ b_1 21) (Zdt1 out b_1 c h) (Qs [(4, .slice), (5, .int .i64), (6, .int .i64)] [] (fun z_ => Zdt2 k z_.1 z_.2.1 z_.2.2.1)
 Qz
 (fun (x4_1, x5_1, x6_1, _) => Qr)) Qk))
 (fun _ => Qz))))
 (fun _ => Qz))))))
 (fun _ => Qs [(4, .slice), (5, .int .i64), (6, .int .i64)] [] (fun z_ => Zdt0 k z_.1 z_.2.1 z_.2.2.1)
 Qz
 (fun (x4, x5, x6, _) => Qr))))) h_
abbrev Zdu0 (k : (OA → K)) (x2 : Addr) : K :=
 k (some x2)
abbrev Zdu1 (limit : Int) (k : (OA → K)) : K :=
 alK (.map #[] 0) fun b =>
 alK (.map #[] 0) fun b_1 =>
 alK (.cells #[.map (some b), .map (some b_1), .int .i64 (max2I limit 0)] 242) fun b_2 =>
 Zdu0 k ⟨b_2, 0, none⟩
abbrev Vad (limit : Int) : M OA := fun k =>
 Zdu1 limit k
theorem Yzh (limit : Int) (k : OA → K) (w : World) (h_ : Vad limit k w) : Ypa limit k w :=
 Yae (P := Tryz.prog) Tryz.func221 rfl (by kernel_rfl)
 (Qs [] [0] (fun z_ => Zdu1 limit k)
 Qz
 (fun _ => Qs [(2, .addr)] [] (fun z_ => Zdu0 k z_.1)
 Qz
 (fun (x2, _) => Qr))) h_
abbrev Zdv0 (k : (Sl → K)) (x2 : Sl) : K :=
 k x2
abbrev Zdv1 (k : (Sl → K)) (out_1 : Sl) : K :=
 Zdv0 k out_1
abbrev Zdv2 (b_1 : Int) (c : ((Sl × Int × Unit) → K)) (out_3 : Sl) : K :=
 c (out_3, (IntKind.wrap .i64 (b_1 + 1)), ())
abbrev Zdv3 (out_2 : Sl) (b_1 : Int) (c : ((Sl × Int × Unit) → K)) : K :=
 ixS out_2.p out_2.n (IntKind.wrap .i64 (((out_2.n : Nat) : Int) - 1)) 2 fun x50 =>
 ldI .i64 (x50.add 1) fun x52 =>
 ixS out_2.p out_2.n (IntKind.wrap .i64 (((out_2.n : Nat) : Int) - 1)) 2 fun x54 =>
 stK (Addr.add (x54.add 1) 0) (.int .i64 (IntKind.wrap .i64 (x52 + 1))) <|
 Zdv2 b_1 c out_2
abbrev Zdv4 (out_2 : Sl) (b_1 : Int) (c : ((Sl × Int × Unit) → K)) : K :=
 alK (.cells #[.int .i64 b_1, .int .i64 1] 152) fun b_2 =>
 semT Tryz.prog (Builtin.append_ #[150, 150] 150 #[out_2.v, .slice (some ⟨b_2, 0, none⟩) 1 1]) (.one (.sc (.slice))) fun x15 =>
 Zdv2 b_1 c x15
abbrev Zdv5 (out_2 : Sl) (b_1 : Int) (c : ((Sl × Int × Unit) → K)) (x23 : Bool) : K :=
 brK x23
 (Zdv3 out_2 b_1 c)
 (Zdv4 out_2 b_1 c)
abbrev Zdv6 (out_2 : Sl) (b_1 : Int) (c : ((Sl × Int × Unit) → K)) : K :=
 tick fun _ =>
 brK (decide (((out_2.n : Nat) : Int) > 0))
 (ixS out_2.p out_2.n (IntKind.wrap .i64 (((out_2.n : Nat) : Int) - 1)) 2 fun x32 =>
 ldI .i64 (x32.add 0) fun x34 =>
 ixS out_2.p out_2.n (IntKind.wrap .i64 (((out_2.n : Nat) : Int) - 1)) 2 fun x39 =>
 ldI .i64 (x39.add 1) fun x41 =>
 Zdv5 out_2 b_1 c ((IntKind.wrap .i64 (x34 + x41)) == b_1))
 (Zdv5 out_2 b_1 c false)
abbrev Zdv7 (out_2 : Sl) (b_1 : Int) (c : ((Sl × Int × Unit) → K)) (x16 : Bool) : K :=
 brK x16
 (Zdv2 b_1 c out_2)
 (Zdv6 out_2 b_1 c)
abbrev Zdv8 (list : Sl) (out_2 : Sl) (b_1 : Int) (c : ((Sl × Int × Unit) → K)) : K :=
 ixS list.p list.n b_1 3 fun x19 =>
 ldI .i64 (x19.add 0) fun x21 =>
 Zdv7 out_2 b_1 c (x21 != 0)
abbrev Zdv9 (list : Sl) (k : (Sl → K)) (out_2 : Sl) (b_1 : Int) (c : ((Sl × Int × Unit) → K)) (x8 : Bool) : K :=
 brK x8
 (Zdv8 list out_2 b_1 c)
 (Zdv1 k out_2)
abbrev Zdv10 (list : Sl) (k : (Sl → K)) (out_2 : Sl) (b_1 : Int) (c : ((Sl × Int × Unit) → K)) : K :=
 Zdv9 list k out_2 b_1 c (decide (b_1 < ((list.n : Nat) : Int)))
abbrev Zdv11 (list : Sl) (k : (Sl → K)) (out : Sl) (b : Int) : K :=
 lp (fun (z_ : (Sl × Int × Unit)) c_ => Zdv10 list k z_.1 z_.2.1 c_) (out, b, ())
abbrev Zdv12 (list : Sl) (k : (Sl → K)) (out : Sl) : K :=
 Zdv11 list k out 1
abbrev Yp7 (list : Sl) : M Sl := fun k =>
 Zdv12 list k ⟨none, 0, 0⟩
theorem Yrq (list : Sl) (k : Sl → K) (w : World) (h_ : Yp7 list k w) : Yhp list k w :=
 Yae (P := Tryz.prog) Tryz.func222 rfl (by kernel_rfl)
 (Qs [] [0] (fun z_ => Zdv12 list k ⟨none, 0, 0⟩)
 Qz
 (fun _ => Qs [(3, .slice)] [0] (fun z_ => Zdv12 list k z_.1)
 Qz
 (fun (out, _) => Qs [(3, .slice)] [] (fun z_ => Zdv1 k z_.1)
 (Qs [(4, .int .i64)] [0, 3] (fun z_ => Zdv11 list k out z_.1)
 Qz
 (fun (b, _) => Qb (Ql [(3, .slice), (4, .int .i64)] [0] (fun (z_ : (Sl × Int × Unit)) c_ => Zdv10 list k z_.1 z_.2.1 c_) (out, b, ())
 (fun (out_2, b_1, _) c => Qs [] [0, 3, 4] (fun z_ => Zdv8 list out_2 b_1 c)
 (Qs [(8, .bool)] [0, 3, 4] (fun z_ => Zdv9 list k out_2 b_1 c z_.1)
 Qz
 (fun (x8, _) => Qc (x8) (Zdv8 list out_2 b_1 c) (Zdv1 k out_2) Qk Qx))
 (fun _ => Qs [(3, .slice)] [0, 4] (fun z_ => Zdv2 b_1 c z_.1)
 (Qb (Qb (Qs [(16, .bool)] [0, 3, 4] (fun z_ => Zdv7 out_2 b_1 c z_.1)
 Qz
 (fun (x16, _) => Qc (x16) (Zdv2 b_1 c out_2) (Zdv6 out_2 b_1 c) Qk (Qs [(23, .bool)] [0, 3, 4] (fun z_ => Zdv5 out_2 b_1 c z_.1)
 (RefK.draw [3] [0, 1, 3, 7, 15, 15, 47, 111, 255, 511, 1023, 15, 15, 4111, 12303, 30735, 63503, 129039, 262143, 15, 1048575, 2097151, 4194303] [0, 1, 2, 3, 4, 5, 6, 7, 8, 9, 10, 11, 12, 13, 14, 15, 16, 17, 18, 19, 20, 21, 22] [0, 1, 2, 3, 4, 5, 6, 7, 8, 9, 10, 11, 12, 13, 14, 15, 16, 17, 18, 19, 20, 21, 22] (by kernel_rfl) (by kernel_rfl))
 (fun (x23, _) => Qc (x23) (Zdv3 out_2 b_1 c) (Zdv4 out_2 b_1 c) Qz Qz))))))
 (fun (out_3, _) => Qz))))))
 (fun (out_1, _) => Qs [(2, .slice)] [] (fun z_ => Zdv0 k z_.1)
 Qz
 (fun (x2, _) => Qr))))) h_
end
/-- headers written from a block on -/
def wrH (c : List Int) (b : Nat) : List Hd → List Int
 |[] => c
 |x :: xs => wrH (c.set (256 + b) (benc b x)) (b + 1) xs
theorem Vae (xs : List Hd) (x : Hd) : ∀ (c : List Int) (b : Nat), wrH c b (xs ++ [x]) = (wrH c b xs).set (256 + (b + xs.length)) (benc ((b + xs.length : Nat) : Int) x) := by
 induction xs with
 |nil => intro c b; rfl
 |cons y ys ih =>
  intro c b
  show wrH (c.set (256 + b) (benc b y)) (b + 1) (ys ++ [x]) = _
  rw [ih]
  show _ = (wrH (c.set (256 + b) (benc b y)) (b + 1) ys).set _ _
  have e : b + 1 + ys.length = b + (y :: ys).length := by simp; omega
  rw [e]
theorem Yh9 (xs : List Hd) : ∀ (c : List Int) (b : Nat), (wrH c b xs).length = c.length := by
 induction xs with
 |nil => intro c b; rfl
 |cons y ys ih => intro c b; show (wrH _ _ ys).length = _; rw [ih]; simp
theorem Yhs (xs : List Hd) : ∀ (c : List Int) (b i : Nat), (wrH c b xs)[i]? = if i < 256 + b ∨ 256 + b + xs.length ≤ i ∨ c.length ≤ i then c[i]? else (xs[i - (256 + b)]?).map (benc ((i - 256 : Nat) : Int)) := by
 induction xs with
 |nil => intro c b i; show c[i]? = _; rw [if_pos (by simp; omega)]
 |cons y ys ih =>
  intro c b i
  show (wrH (c.set (256 + b) (benc b y)) (b + 1) ys)[i]? = _
  rw [ih]
  simp only [List.length_set, List.length_cons, List.getElem?_set]
  by_cases h1 : i < 256 + b ∨ 256 + b + (ys.length + 1) ≤ i ∨ c.length ≤ i
  ·rw [if_pos h1]
   split
   ·by_cases e : 256 + b = i
    ·rw [if_pos e, if_neg (by omega), List.getElem?_eq_none (by omega)]
    ·rw [if_neg e]
   ·omega
  ·rw [if_neg h1]
   by_cases h2 : i = 256 + b
   ·subst h2
    rw [if_pos (by omega), if_pos rfl, if_pos (by omega)]
    simp
   ·rw [if_neg (by omega)]
    rw [show i - (256 + b) = (i - (256 + (b + 1))) + 1 by omega, List.getElem?_cons_succ]
section
variable {B : World} {P R : SL} {t : K}
theorem Yrr {d n : Nat} {g : Nat} {c la : List Int} (hg : 2 ≤ g) (hg2 : g ≤ 2 ^ 20) (hn : n = 64 * g) {k : Int → K}
  (hk : ∀ la', Pst n ((257 : Int) / 8).toNat (((257 : Int) + (g - 1) - 1) / 8 + 1).toNat (wrH c 1 (List.replicate (g - 1) (0, 0, 0))) la la' → T B (R * LDev d n (wrH c 1 (List.replicate (g - 1) (0, 0, 0))) la') (k 0)) : T B (R * LDev d n c la) (Yg0 (da d) g k) := by
 refine Yaq (Yqo _ g k) ?_
 (repeat ((with_reducible refine Ya7 ?_; intro _)))
 rename_i b
 refine Ycz (fun _ s => R * LDev d n (wrH c 1 (List.replicate (s.1.toNat - 1) (0, 0, 0))) la * pt b (.cells [.int .i64 g].toArray 43))
  (fun m (s : Int × Unit) => ∃ i : Nat, 1 ≤ i ∧ i ≤ g ∧ s.1 = i ∧ m = g - i) (g - 1) rfl ⟨1, by omega, by omega, rfl, rfl⟩ ?_
 rintro m ⟨s1, u⟩ cc ⟨i, h1, h2, h3, h4⟩ hc
 simp only at h3
 subst h3 h4
 simp only [Int.toNat_natCast]
 (repeat' (first | with_reducible refine Yak ?_ | ((with_reducible apply Yaf); (focus rfl); (focus exact hasA); (focus rfl)) | with_reducible refine Yai (fun _ => ?_) (fun _ => ?_)))
 ·rename_i hlt
  refine Yfa (by omega) ?_
  have hh : header g i = 256 + i := by unfold header; rw [if_neg (by omega)]
  rw [hh]
  refine Yhq (by omega) (by omega) ?_
  refine Yaa (X := LDev d n (wrH c 1 (List.replicate (i - 1) (0, 0, 0))) la) (.init .last) ?_
  refine Yoa (by omega) (by omega) ?_
  (repeat' (with_reducible refine Yar (fun _ => ?_) (fun _ => ?_)))
  ·rename_i hx; exact absurd rfl hx
  ·refine T.perm ?_ (hc (g - (i + 1)) (IntKind.wrap .i64 ((i : Int) + 1), ()) (by omega) ⟨i + 1, by omega, by omega, w64 (by omega) (by omega), rfl⟩)
   have e : (IntKind.wrap .i64 ((i : Int) + 1)).toNat = i + 1 := by rw [w64 (by omega) (by omega)]; omega
   simp only [e]
   have e2 : List.replicate (i + 1 - 1) ((0, 0, 0) : Hd) = List.replicate (i - 1) (0, 0, 0) ++ [(0, 0, 0)] := by
    rw [← List.replicate_succ']; congr 1; omega
   rw [e2, Vae]
   have e3 : 256 + (1 + (List.replicate (i - 1) ((0, 0, 0) : Hd)).length) = (256 + (i : Int)).toNat := by simp; omega
   have e4 : ((1 + (List.replicate (i - 1) ((0, 0, 0) : Hd)).length : Nat) : Int) = i := by simp; omega
   rw [e3, e4]
   ac_rfl
 ·rename_i hge
  have : i = g := by omega
  subst this
  refine Yfa (by omega) ?_
  have hh : header i 1 = 257 := by unfold header; rw [if_neg (by omega)]; rfl
  rw [hh]
  (repeat (first | with_reducible refine Ybe ?_ | ((with_reducible apply Ycm); (focus rfl); (focus exact hasA); (focus rfl))))
  rw [w64 (by omega) (by omega)]
  refine Yaa (X := LDev d n (wrH c 1 (List.replicate (i - 1) (0, 0, 0))) la) (.init .last) ?_
  refine Yt7 (by omega) (by omega) (by omega) fun la' hp => ?_
  have := (hk la' hp).weak (Q := pt b (.cells [.int .i64 i].toArray 43))
  refine T.perm ?_ this
  ac_rfl
end
/-- a device's words tell these headers -/
def Tells (c : List Int) (hs : List Hd) : Prop := hs[0]? = some (0, 0, 0) ∧ ∀ b : Nat, 1 ≤ b → ∀ h, hs[b]? = some h → bdec b (getI c (256 + b)) = (h, 0)
def Tab (t d : Nat) (g : Int) (hs : List Hd) : SL := ex fun s : Sl => vec 143 3 s (hds hs) * pt t (.cells [.pointer (da d), .int .i64 g, s.v].toArray 125)
section
variable {B : World} {P R : SL} {t : K}
theorem Yac {X : SL} (h : Frm P X R) (ht : T B R t) : T B P t := by unfold Frm at h; subst h; exact ht.weak
theorem Yi5 {a d : Nat} {g : Int} {hs : List Hd} (h : ∀ s : Sl, T B (R * vec 143 3 s (hds hs) * pt a (.cells [.pointer (da d), .int .i64 g, s.v].toArray 125)) t) : T B (R * Tab a d g hs) t := by
 refine Ywt fun q => T.perm ?_ (h q)
 simp only [Yad]
theorem Yfe {a d : Nat} {g : Int} {hs : List Hd} {s : Sl} (h : T B (R * Tab a d g hs) t) : T B (R * vec 143 3 s (hds hs) * pt a (.cells [.pointer (da d), .int .i64 g, s.v].toArray 125)) t := by
 refine T.perm ?_ (Yjt s h)
 simp only [Yad]
theorem Yvg {d n g : Nat} {c la : List Int} {hs : List Hd} (hg : 1 ≤ g) (hg2 : g ≤ 2 ^ 20) (hl : hs.length = g) (ht : Tells c hs) {k : Sl × (Int × Int) → K}
  (hk : ∀ s, T B (R * LDev d n c la * vec 143 3 s (hds hs)) (k (s, (0, 0)))) : T B (R * LDev d n c la) (Yiy (da d) g k) := by
 refine Yaq (Ytg _ g k) ?_
 (repeat (first | ((with_reducible apply Yaf); (focus rfl); (focus exact hasA); (focus rfl)) | (with_reducible refine Ya7 ?_; intro _)))
 rename_i b4
 have em : max2I 0 (g : Int) = g := by unfold max2I; rw [if_pos (by omega)]
 rw [em]
 refine Ysv Vcw (by omega) (by omega) (by omega) fun b => ?_
 rw [Int.toNat_natCast, Vab]
 have e0 : List.replicate g ((0, 0, 0) : Hd) = hs.take 1 ++ List.replicate (g - 1) (0, 0, 0) := by
  obtain ⟨x, xs, rfl⟩ := List.exists_cons_of_length_pos (l := hs) (by omega)
  have := ht.1
  simp only [List.getElem?_cons_zero, Option.some.injEq] at this
  subst this
  rw [show g = (g - 1) + 1 by omega, List.replicate_succ]; simp
 rw [e0]
 refine Ycz (fun _ s => R * LDev d n c la * pt b4 (.cells [.int .i64 g].toArray 43) * vec 143 3 ⟨some ⟨b, 0, none⟩, g, g⟩ (hds (hs.take s.1.toNat ++ List.replicate (g - s.1.toNat) (0, 0, 0))))
  (fun m (s : Int × Unit) => ∃ i : Nat, 1 ≤ i ∧ i ≤ g ∧ s.1 = i ∧ m = g - i) (g - 1) rfl ⟨1, by omega, by omega, rfl, rfl⟩ ?_
 rintro m ⟨s1, u⟩ cc ⟨i, h1, h2, h3, h4⟩ hc
 simp only at h3
 subst h3 h4
 simp only [Int.toNat_natCast]
 (repeat' (first | ((with_reducible apply Yaf); (focus rfl); (focus exact hasA); (focus rfl)) | with_reducible refine Yai (fun _ => ?_) (fun _ => ?_)))
 ·rename_i hlt
  have hlt' : i < hs.length := by omega
  refine Yfa (by omega) ?_
  have hh : header g i = 256 + i := by unfold header; rw [if_neg (by omega)]
  rw [hh]
  refine Yaa (X := LDev d n c la) (.init (.init .last)) ?_
  refine Vaa ?_
  refine Ys3 (by omega) (by omega) ?_
  rw [ht.2 i h1 hs[i] (List.getElem?_eq_getElem hlt')]
  (repeat' (first | ((with_reducible apply Yaf); (focus rfl); (focus exact hasA); (focus rfl)) | (with_reducible refine Ya7 ?_; intro _) | ((with_reducible apply Ybc); (focus rfl); (focus exact updA); (focus simp); simp only [List.set, Nat.zero_add, Nat.reduceAdd]) | with_reducible refine Yar (fun _ => ?_) (fun _ => ?_)))
  ·rename_i hx; exact absurd rfl hx
  ·refine Vhm (i := i) (x := hs[i]) (s := ⟨some ⟨b, 0, none⟩, g, g⟩) (l := hs.take i ++ List.replicate (g - i) (0, 0, 0)) (.init (.init .last)) (by omega) (by simp; omega) ?_
   have hx := hc (g - (i + 1)) (IntKind.wrap .i64 ((i : Int) + 1), ()) (by omega) ⟨i + 1, by omega, by omega, w64 (by omega) (by omega), rfl⟩
   have e : (IntKind.wrap .i64 ((i : Int) + 1)).toNat = i + 1 := by rw [w64 (by omega) (by omega)]; omega
   simp only [e] at hx
   have e2 : (hs.take i ++ List.replicate (g - i) ((0, 0, 0) : Hd)).set (i : Int).toNat hs[i] = hs.take (i + 1) ++ List.replicate (g - (i + 1)) (0, 0, 0) := by
    rw [Int.toNat_natCast, List.set_append_right _ _ (by simp; omega), List.take_succ_eq_append_getElem hlt']
    have e5 : i - (hs.take i).length = 0 := by simp; omega
    rw [e5, show g - i = (g - (i + 1)) + 1 by omega, List.replicate_succ, List.set_cons_zero, List.append_assoc]; rfl
   rw [e2]
   refine Yac (.init .last) ?_
   refine T.perm ?_ hx
   ac_rfl
 ·rename_i hge
  have : i = g := by omega
  subst this
  simp only [Nat.sub_self, List.replicate_zero, List.append_nil]
  rw [List.take_of_length_le (by omega)]
  refine Yac (.init .last) ?_
  exact hk ⟨some ⟨b, 0, none⟩, i, i⟩
theorem Yvh {d n g : Nat} {c la : List Int} {hs : List Hd} (hg : 1 ≤ g) (hg2 : g ≤ 2 ^ 20) (hl : hs.length = g) (ht : Tells c hs) {k : Option Addr × Int → K}
  (hk : ∀ a, T B (R * LDev d n c la * Tab a d g hs) (k (da a, 0))) : T B (R * LDev d n c la) (Yiv (da d) g k) := by
 refine Yaq (Ytd _ g k) ?_
 (repeat (first | ((with_reducible apply Yaf); (focus rfl); (focus exact hasA); (focus rfl)) | (with_reducible refine Ya7 ?_; intro _)))
 rename_i b1
 refine Yaa (X := LDev d n c la) (.init .last) ?_
 refine Yvg hg hg2 hl ht fun s => ?_
 (repeat' (first | ((with_reducible apply Yaf); (focus rfl); (focus exact hasA); (focus rfl)) | (with_reducible refine Ya7 ?_; intro _) | with_reducible refine Yar (fun _ => ?_) (fun _ => ?_)))
 ·rename_i hx; exact absurd rfl hx
 ·rename_i b
  refine Yfe ?_
  refine Yac (.init (.init .last)) ?_
  exact hk b
theorem Yk7 {a d : Nat} {g : Int} {hs : List Hd} {k : Int → K} (hk : T B (R * Tab a d g hs) (k hs.length)) : T B (R * Tab a d g hs) (Ybf (da a) k) := by
 refine Yaq (Ym4 _ k) ?_
 unfold da
 refine Yi5 fun s => ?_
 (repeat (first | with_reducible refine Yam ?_ | ((with_reducible apply Yaz); (focus rfl); (focus exact hasA); (focus rfl))))
 refine Yc0 (E := 143) (sz := 3) (s := s) (vs := hds hs) (.init .last) fun hn => ?_
 rw [Ydo] at hn
 have : s.n = hs.length := by omega
 rw [this]
 exact Yfe hk
theorem Yk8 {a d : Nat} {g : Int} {hs : List Hd} {b : Int} {k : Hd → K} (hk : T B (R * Tab a d g hs) (k (if b < 1 then (0, 0, 0) else hs.getD b.toNat (0, 0, 0)))) : T B (R * Tab a d g hs) (Ycr (da a) b k) := by
 refine Yaq (Ym8 _ b k) ?_
 unfold da
 (repeat' (first | with_reducible refine Yam ?_ | with_reducible refine Yal ?_ | ((with_reducible apply Yaf); (focus rfl); (focus exact hasA); (focus rfl)) | (with_reducible refine Ya7 ?_; intro _) | ((with_reducible apply Ybc); (focus rfl); (focus exact updA); (focus simp); simp only [List.set, Nat.zero_add, Nat.reduceAdd]) | with_reducible refine Yai (fun _ => ?_) (fun _ => ?_)))
 ·rename_i h
  rw [if_pos h] at hk
  skip
  refine Yac .last ?_
  exact hk
 ·rename_i bb h
  rw [if_neg h] at hk
  refine Yaa (X := Tab a d g hs) (.init .last) ?_
  refine Yi5 fun s => ?_
  (repeat (((with_reducible apply Yaz); (focus rfl); (focus exact hasA); (focus rfl))))
  refine Yc0 (E := 143) (sz := 3) (s := s) (vs := hds hs) (.init .last) fun hn => ?_
  rw [Ydo] at hn
  (repeat' (first | with_reducible refine Yam ?_ | ((with_reducible apply Yaf); (focus rfl); (focus exact hasA); (focus rfl)) | ((with_reducible apply Yaz); (focus rfl); (focus exact hasA); (focus rfl)) | ((with_reducible apply Ybc); (focus rfl); (focus exact updA); (focus simp); simp only [List.set, Nat.zero_add, Nat.reduceAdd]) | with_reducible refine Yai (fun _ => ?_) (fun _ => ?_)))
  ·rename_i h2
   rw [List.getD_eq_getElem?_getD, List.getElem?_eq_none (by omega)] at hk
   refine Yfe ?_
   refine Yac (.init .last) ?_
   exact hk
  ·rename_i h2
   have hlt : b.toNat < hs.length := by omega
   rw [List.getD_eq_getElem?_getD, List.getElem?_eq_getElem hlt] at hk
   refine Ys8 (l := hs) (Rd.vec (E := 143) (s := s) (.init .last)) (by omega) hlt fun x hx => ?_
   refine Ycv hx rfl ?_
   refine Ycv hx rfl ?_
   refine Ycv hx rfl ?_
   (repeat (first | ((with_reducible apply Yaf); (focus rfl); (focus exact hasA); (focus rfl)) | ((with_reducible apply Ybc); (focus rfl); (focus exact updA); (focus simp); simp only [List.set, Nat.zero_add, Nat.reduceAdd])))
   refine Yac (.init (.init .last)) ?_
   exact Yfe hk
theorem Yp8 {a d : Nat} {g : Int} {hs : List Hd} (hl : hs.length ≤ 2 ^ 30) {k : Sl → K} (hk : ∀ s, T B (R * Tab a d g hs * vec 143 3 s (hds hs)) (k s)) : T B (R * Tab a d g hs) (Ydp (da a) k) := by
 refine Yaq (Ym5 _ k) ?_
 unfold da
 refine Yi5 fun s => ?_
 (repeat (first | with_reducible refine Yam ?_ | ((with_reducible apply Yaz); (focus rfl); (focus exact hasA); (focus rfl)) | (with_reducible refine Ya7 ?_; intro _)))
 rename_i b
 refine Yc0 (E := 143) (sz := 3) (s := s) (vs := hds hs) (.init (.init .last)) fun hn => ?_
 rw [Ydo] at hn
 refine Ydh (E := 143) (sz := 3) (s := ⟨some ⟨b, 0, none⟩, 0, 0⟩) rfl rfl ?_
 refine Ybs (s := ⟨some ⟨b, 0, none⟩, 0, 0⟩) Vcw (Rd.vec (E := 143) (s := s) (.init (.init .last))) (Veg hs) (by simp; omega) fun s' => ?_
 rw [List.nil_append]
 refine Yac (.init .last) ?_
 have := hk s'
 refine Yaa (X := vec 143 3 s (hds hs)) (.init (.init .last)) ?_
 refine Yaa (X := pt a (.cells [.pointer (da d), .int .i64 g, s.v].toArray 125)) (.init (.init .last)) ?_
 refine Yfe ?_
 refine T.perm ?_ this
 ac_rfl
end
theorem Yzi {α : Type} {l new : List α} {o : Nat} {x : α} (h : o + new.length < l.length) : splice l o (new ++ [x]) = (splice l o new).set (o + new.length) x := by
 unfold splice
 have e : (l.take o ++ new).length = o + new.length := by simp; omega
 rw [List.set_append_right _ _ (by omega), e, Nat.sub_self, List.drop_eq_getElem_cons h, List.set_cons_zero]
 simp [Nat.add_assoc]
section
variable {B : World} {P R : SL} {t : K}
theorem Yfz {a d n g b : Nat} {c la : List Int} {hs xs : List Hd} {x : Sl} (hg : 2 ≤ g) (hg2 : g ≤ 2 ^ 20) (hn : n = 64 * g) (hl : hs.length = g) (hb : 1 ≤ b) (hbx : b + xs.length ≤ g) (hne : xs ≠ []) (hr : ∀ h ∈ xs, hRight h)
  (hx : Rd R x 3 (hds xs)) {k : Int → K}
  (hk : ∀ la', Pst n ((256 + (b : Int)) / 8).toNat (((256 + (b : Int)) + xs.length - 1) / 8 + 1).toNat (wrH c b xs) la la' → T B (R * LDev d n (wrH c b xs) la' * Tab a d g (splice hs b xs)) (k 0)) :
  T B (R * LDev d n c la * Tab a d g hs) (Ya6 (da a) b x k) := by
 refine Yaq (Ym9 _ b x k) ?_
 refine Ya1 (hx.init.init) fun hxn => ?_
 rw [Ydo] at hxn
 have hxn' : x.n = xs.length := by omega
 have hpos : 0 < xs.length := List.length_pos_iff.2 hne
 unfold da
 (repeat' (first | with_reducible refine Yam ?_ | with_reducible refine Yal ?_ | with_reducible refine Yai (fun _ => ?_) (fun _ => ?_)))
 ·exfalso; omega
 refine Yi5 fun s => ?_
 (repeat (((with_reducible apply Yaz); (focus rfl); (focus exact hasA); (focus rfl))))
 refine Yc0 (E := 143) (sz := 3) (s := s) (vs := hds hs) (.init .last) fun hsn => ?_
 rw [Ydo] at hsn
 (repeat' (first | with_reducible refine Yam ?_ | with_reducible refine Yal ?_ | ((with_reducible apply Yaz); (focus rfl); (focus exact hasA); (focus rfl)) | with_reducible refine Yai (fun _ => ?_) (fun _ => ?_)))
 ·exfalso; omega
 ·rename_i h; exfalso; rw [w64 (by omega) (by omega)] at h; omega
 refine Yfe ?_
 refine Ycz (fun _ s => R * LDev d n c la * Tab a d g hs) (fun m (s : Int × Unit) => ∃ i : Nat, i ≤ xs.length ∧ s.1 = i ∧ m = xs.length - i) xs.length rfl ⟨0, by omega, rfl, by omega⟩ ?_
 rintro m ⟨s1, u⟩ cc ⟨i, h1, h2, h3⟩ hc
 simp only at h2
 subst h2 h3
 (repeat' (first | with_reducible refine Yai (fun _ => ?_) (fun _ => ?_) | with_reducible refine Ybr (fun _ => ?_) (fun _ => ?_)))
 ·rename_i hlt
  have hlt' : i < xs.length := by omega
  refine Ys8 (l := xs) hx.init.init (by omega) (by rw [Int.toNat_natCast]; exact hlt') fun y hy => ?_
  refine Ycv hy rfl ?_
  refine Ycv hy rfl ?_
  refine Ycv hy rfl ?_
  (repeat (first | ((with_reducible apply Yaf); (focus rfl); (focus exact hasA); (focus rfl)) | (with_reducible refine Ya7 ?_; intro _) | ((with_reducible apply Ybc); (focus rfl); (focus exact updA); (focus simp); simp only [List.set, Nat.zero_add, Nat.reduceAdd])))
  refine Yi3 ?_
  have hrx : hRight (xs[i].1, xs[i].2.1, xs[i].2.2) := hr xs[i] (List.getElem_mem hlt')
  (repeat' (first | with_reducible refine Yai (fun _ => ?_) (fun _ => ?_) | with_reducible refine Yfh ?_))
  ·refine Yac .last ?_
   exact hc (xs.length - (i + 1)) (IntKind.wrap .i64 ((i : Int) + 1), ()) (by omega) ⟨i + 1, by omega, w64 (by omega) (by omega), rfl⟩
  ·rename_i h; exact absurd hrx h
 ·exfalso; omega
 clear hc
 refine Ycz (fun _ s => R * LDev d n (wrH c b (xs.take s.1.toNat)) la * Tab a d g (splice hs b (xs.take s.1.toNat))) (fun m (s : Int × Unit) => ∃ i : Nat, i ≤ xs.length ∧ s.1 = i ∧ m = xs.length - i) xs.length (by simp [wrH, Yls, splice]) ⟨0, by omega, rfl, by omega⟩ ?_
 rintro m ⟨s1, u⟩ cc ⟨i, h1, h2, h3⟩ hc
 simp only at h2
 subst h2 h3
 simp only [Int.toNat_natCast]
 (repeat' (first | with_reducible refine Yam ?_ | with_reducible refine Yak ?_ | with_reducible refine Yai (fun _ => ?_) (fun _ => ?_)))
 ·rename_i hlt
  have hlt' : i < xs.length := by omega
  refine Ys8 (l := xs) hx.init.init (by omega) (by rw [Int.toNat_natCast]; exact hlt') fun y hy => ?_
  refine Ycv hy rfl ?_
  refine Ycv hy rfl ?_
  refine Ycv hy rfl ?_
  (repeat (first | with_reducible refine Yam ?_ | with_reducible refine Yak ?_ | (with_reducible refine Ya7 ?_; intro _) | ((with_reducible apply Ybc); (focus rfl); (focus exact updA); (focus simp); simp only [List.set, Nat.zero_add, Nat.reduceAdd])))
  rename_i bb
  refine Yaa (X := Tab a d g (splice hs b (xs.take i))) (.init .last) ?_
  refine Yi5 fun s => ?_
  (repeat (first | with_reducible refine Yam ?_ | ((with_reducible apply Yaf); (focus rfl); (focus exact hasA); (focus rfl)) | ((with_reducible apply Yaj); (focus rfl); (focus exact hasA); (focus rfl))))
  have e1 : IntKind.wrap .i64 ((b : Int) + i) = ((b + i : Nat) : Int) := by rw [w64 (by omega) (by omega)]; omega
  simp only [Int.toNat_natCast]
  (dsimp only [Yjn, Zcu0, Zcu1, Zcu2, Zcu3, Zcu4, Zcu5, Zcu6, Zcu7, Zcu8, Zcu9, Zcu10, Zcu11, Zcu12, Zcu13, Zcu14, Zcu15, Zcu16, Zcu17, Zcu18, Zcu19, Zcu20, Zcu21, Zcu22])
  rw [e1]
  refine Yfa (by omega) ?_
  have hh : header g ((b + i : Nat) : Int) = 256 + (b + i : Nat) := by unfold header; rw [if_neg (by omega)]
  rw [hh]
  (repeat (first | with_reducible refine Ybe ?_ | ((with_reducible apply Ycm); (focus rfl); (focus exact hasA); (focus rfl))))
  refine Yhq (by omega) (by omega) ?_
  (repeat (first | with_reducible refine Ybe ?_ | ((with_reducible apply Ycm); (focus rfl); (focus exact hasA); (focus rfl))))
  refine Yaa (X := LDev d n (wrH c b (xs.take i)) la) (.init (.init (.init .last))) ?_
  refine Yoa (by omega) (by omega) ?_
  (repeat' (first | with_reducible refine Yam ?_ | with_reducible refine Yak ?_ | ((with_reducible apply Yaf); (focus rfl); (focus exact hasA); (focus rfl)) | ((with_reducible apply Yaz); (focus rfl); (focus exact hasA); (focus rfl)) | with_reducible refine Yar (fun _ => ?_) (fun _ => ?_)))
  ·rename_i h; exact absurd rfl h
  refine Vhm (i := ((b + i : Nat) : Int)) (x := xs[i]) (s := s) (l := splice hs b (xs.take i)) (.init (.init .last)) (by omega) (by rw [Yah (by simp; omega)]; omega) ?_
  have hx' := hc (xs.length - (i + 1)) (IntKind.wrap .i64 ((i : Int) + 1), ()) (by omega) ⟨i + 1, by omega, w64 (by omega) (by omega), rfl⟩
  have e : (IntKind.wrap .i64 ((i : Int) + 1)).toNat = i + 1 := by rw [w64 (by omega) (by omega)]; omega
  simp only [e] at hx'
  rw [List.take_succ_eq_append_getElem hlt', Vae] at hx'
  have e2 : (xs.take i).length = i := by simp; omega
  rw [e2] at hx'
  have e3 : (256 + ((b + i : Nat) : Int)).toNat = 256 + (b + i) := by omega
  have e4 : (splice hs b (xs.take i)).set ((b + i : Nat) : Int).toNat xs[i] = splice hs b (xs.take i ++ [xs[i]]) := by
   rw [Int.toNat_natCast, Yzi (by omega), e2]
  rw [e3, e4]
  refine Yac (.init (.init (.init .last))) ?_
  refine T.perm ?_ (Yfe (R := R * LDev d n ((wrH c b (xs.take i)).set (256 + (b + i)) (benc ((b + i : Nat) : Int) xs[i])) la) (s := s) hx')
  ac_rfl
 ·rename_i hge
  have hi : i = xs.length := by omega
  subst hi
  rw [List.take_length]
  refine Yi5 fun s => ?_
  (repeat (first | with_reducible refine Yam ?_ | ((with_reducible apply Yaf); (focus rfl); (focus exact hasA); (focus rfl)) | ((with_reducible apply Yaj); (focus rfl); (focus exact hasA); (focus rfl))))
  refine Yfa (by omega) ?_
  have hh : header g (b : Int) = 256 + b := by unfold header; rw [if_neg (by omega)]
  rw [hh]
  (repeat (first | with_reducible refine Ybe ?_ | ((with_reducible apply Ycm); (focus rfl); (focus exact hasA); (focus rfl))))
  refine Yaa (X := LDev d n (wrH c b xs) la) (.init (.init .last)) ?_
  rw [hxn']
  refine Yt7 (by omega) (by omega) (by omega) fun la' hp => ?_
  refine T.perm ?_ (Yfe (s := s) (hk la' hp))
  ac_rfl
end
abbrev Pr := Int × Int
def spStep (out : List Pr) (b : Nat) (h : Hd) : List Pr :=
 if h.1 ≠ 0 then out else if 0 < out.length ∧ (out.getD (out.length - 1) (0, 0)).1 + (out.getD (out.length - 1) (0, 0)).2 = b then out.set (out.length - 1) ((out.getD (out.length - 1) (0, 0)).1, (out.getD (out.length - 1) (0, 0)).2 + 1) else out ++ [((b : Int), 1)]
/-- spans of the blocks from 1 up to one -/
def spS (hs : List Hd) : Nat → List Pr
 |0 => []
 |1 => []
 |b + 2 => spStep (spS hs (b + 1)) (b + 1) (hs.getD (b + 1) (0, 0, 0))
theorem Yvi (hs : List Hd) {b : Nat} (h : 1 ≤ b) : spS hs (b + 1) = spStep (spS hs b) b (hs.getD b (0, 0, 0)) := by
 obtain ⟨c, rfl⟩ : ∃ c, b = c + 1 := ⟨b - 1, by omega⟩
 rfl
theorem Yvj {α : Type} {l : List α} {i : Nat} {d : α} (h : i < l.length) : l.getD i d ∈ l := by
 rw [List.getD_eq_getElem?_getD, List.getElem?_eq_getElem h]; exact List.getElem_mem h
theorem Vgg (hs : List Hd) : ∀ b, 1 ≤ b → (spS hs b).length ≤ b - 1 ∧ ∀ p ∈ spS hs b, 1 ≤ p.1 ∧ 1 ≤ p.2 ∧ p.1 + p.2 ≤ b := by
 intro b hb
 induction b with
 |zero => omega
 |succ b ih =>
  by_cases h1 : b = 0
  ·subst h1; exact ⟨by simp [spS], fun p hp => by simp [spS] at hp⟩
  ·obtain ⟨i1, i2⟩ := ih (by omega)
   rw [Yvi hs (by omega)]
   unfold spStep
   split
   ·exact ⟨by omega, fun p hp => by have := i2 p hp; omega⟩
   ·split
    ·rename_i hc
     have hm := i2 _ (Yvj (d := (0, 0)) (show (spS hs b).length - 1 < (spS hs b).length by omega))
     refine ⟨by rw [List.length_set]; omega, fun p hp => ?_⟩
     rcases List.mem_or_eq_of_mem_set hp with hp | rfl
     ·have := i2 p hp; omega
     ·simp only; omega
    ·refine ⟨by simp; omega, fun p hp => ?_⟩
     rcases List.mem_append.1 hp with hp | hp
     ·have := i2 p hp; omega
     ·simp only [List.mem_singleton] at hp; subst hp; simp only; omega
section
variable {B : World} {P R : SL} {t : K}
theorem Yk9 {Pg : Program} {Tid E : TypeId} {sz ty b : Nat} (hK : Kd Pg Tid E sz) {s : Sl} {vs new : List Value} {k : Sl → K} {E' : TypeId} (hn : new.length = sz) (hsc : new.all scal = true)
  (hlen : vs.length / sz + 1 ≤ 2 ^ 40) (hk : ∀ s', T B (R * vec E sz s' (vs ++ new)) (k s')) :
  T B (R * vec E sz s vs * pt b (.cells new.toArray E')) (semT Pg (Builtin.append_ #[Tid, Tid] ty #[s.v, .slice (some ⟨b, 0, none⟩) 1 1]) (.one (.sc .slice)) k) := by
 refine Yaa (X := vec E sz s vs) (.init .last) ?_
 refine Ybs (x := ⟨some ⟨b, 0, none⟩, 1, 1⟩) (new := new) hK (Rd.one Has.last (by rw [hn]; simp) (Nat.le_refl _)) hsc hlen fun s' => ?_
 exact Yux (hk s')
theorem Yth {hs : List Hd} {x : Sl} (hl : 1 ≤ hs.length) (hl2 : hs.length ≤ 2 ^ 20) (hx : Rd R x 3 (hds hs)) {k : Sl → K} (hk : ∀ s, T B (R * vec 152 2 s (prs (spS hs hs.length))) (k s)) : T B R (Yhp x k) := by
 refine Yaq (Yrq x k) ?_
 refine Ya1 hx fun hxn => ?_
 rw [Ydo] at hxn
 refine Ydh (E := 152) (sz := 2) (s := ⟨none, 0, 0⟩) rfl rfl ?_
 refine Ycz (fun _ s => R * vec 152 2 s.1 (prs (spS hs s.2.1.toNat))) (fun m (s : Sl × Int × Unit) => ∃ i : Nat, 1 ≤ i ∧ i ≤ hs.length ∧ s.2.1 = i ∧ m = hs.length - i) (hs.length - 1) rfl ⟨1, by omega, by omega, rfl, rfl⟩ ?_
 rintro m ⟨out, s1, u⟩ cc ⟨i, h0, h1, h2, h3⟩ hc
 simp only at h2
 subst h2 h3
 simp only [Int.toNat_natCast]
 refine Yc0 .last fun hout => ?_
 rw [Yhr] at hout
 obtain ⟨r1, r2⟩ := Vgg hs i h0
 (repeat' (with_reducible refine Yai (fun _ => ?_) (fun _ => ?_)))
 ·rename_i hlt
  have hlt' : i < hs.length := by omega
  have hnext : ∀ s', T B (R * vec 152 2 s' (prs (spStep (spS hs i) i hs[i]))) (cc (s', IntKind.wrap .i64 ((i : Int) + 1), ())) := by
   intro s'
   have := hc (hs.length - (i + 1)) (s', IntKind.wrap .i64 ((i : Int) + 1), ()) (by omega) ⟨i + 1, by omega, by omega, w64 (by omega) (by omega), rfl⟩
   have e : (IntKind.wrap .i64 ((i : Int) + 1)).toNat = i + 1 := by rw [w64 (by omega) (by omega)]; omega
   simp only [e] at this
   rw [Yvi hs h0, List.getD_eq_getElem?_getD, List.getElem?_eq_getElem hlt'] at this
   exact this
  refine Ys8 (l := hs) hx.init (by omega) (by rw [Int.toNat_natCast]; exact hlt') fun y hy => ?_
  refine Ycv hy rfl ?_
  simp only [Int.toNat_natCast]
  generalize spS hs i = o at *
  unfold spStep at hnext
  (repeat' (first | with_reducible refine Yak ?_ | with_reducible refine Yau ?_ | (with_reducible refine Ya7 ?_; intro _) | with_reducible refine Yai (fun _ => ?_) (fun _ => ?_) | with_reducible refine Yar (fun _ => ?_) (fun _ => ?_)))
  ·rename_i hne
   rw [if_pos hne] at hnext
   exact hnext out
  ·rename_i heq hpos
   rw [if_neg (by omega)] at hnext
   have hol : 0 < o.length := by omega
   have hix : o.length - 1 < o.length := by omega
   have e1 : IntKind.wrap .i64 (((out.n : Nat) : Int) - 1) = ((o.length - 1 : Nat) : Int) := by rw [w64 (by omega) (by omega)]; omega
   (dsimp only [Yp7, Zdv0, Zdv1, Zdv2, Zdv3, Zdv4, Zdv5, Zdv6, Zdv7, Zdv8, Zdv9, Zdv10, Zdv11, Zdv12])
   rw [e1]
   have hm := r2 _ (List.getElem_mem hix)
   rw [List.getD_eq_getElem?_getD, List.getElem?_eq_getElem hix, Option.getD_some] at hnext
   refine Vei (l := o) (Rd.vec .last) (by omega) (by rw [Int.toNat_natCast]; exact hix) fun z hz => ?_
   simp only [Int.toNat_natCast] at hz
   refine Ycv hz rfl ?_
   refine Vei (l := o) (Rd.vec .last) (by omega) (by rw [Int.toNat_natCast]; exact hix) fun z2 hz2 => ?_
   simp only [Int.toNat_natCast] at hz2
   refine Ycv hz2 rfl ?_
   rw [w64 (by omega) (by omega)]
   (repeat' (first | (with_reducible refine Ya7 ?_; intro _) | with_reducible refine Ybr (fun _ => ?_) (fun _ => ?_)))
   ·rename_i hj
    rw [if_pos ⟨hol, hj⟩] at hnext
    refine Vei (l := o) (Rd.vec .last) (by omega) (by rw [Int.toNat_natCast]; exact hix) fun z3 hz3 => ?_
    simp only [Int.toNat_natCast] at hz3
    refine Ycv hz3 rfl ?_
    rw [w64 (by omega) (by omega)]
    refine Vhn (l := o) .last (by omega) (by rw [Int.toNat_natCast]; exact hix) ?_
    simp only [Int.toNat_natCast]
    exact hnext out
   ·rename_i hj _
    rw [if_neg (fun h => hj h.2)] at hnext
    refine Yk9 (vs := prs o) (new := [.int .i64 i, .int .i64 1]) Vhl rfl rfl (by rw [Yhr]; omega) fun s' => ?_
    have := hnext s'
    rw [Yt9] at this
    exact this
  ·rename_i heq hpos _
   rw [if_neg (by omega), if_neg (by omega)] at hnext
   refine Yk9 (vs := prs o) (new := [.int .i64 i, .int .i64 1]) Vhl rfl rfl (by rw [Yhr]; omega) fun s' => ?_
   have := hnext s'
   rw [Yt9] at this
   exact this
 ·rename_i hge
  have hi : i = hs.length := by omega
  subst hi
  exact hk out
theorem Yrs {a d : Nat} {g : Int} {hs : List Hd} (hl : 1 ≤ hs.length) (hl2 : hs.length ≤ 2 ^ 20) {k : Sl → K} (hk : ∀ s, T B (R * Tab a d g hs * vec 152 2 s (prs (spS hs hs.length))) (k s)) : T B (R * Tab a d g hs) (Yeg (da a) k) := by
 refine Yaq (Yk5 _ k) ?_
 unfold da
 refine Yi5 fun s => ?_
 (repeat (first | with_reducible refine Yam ?_ | ((with_reducible apply Yaz); (focus rfl); (focus exact hasA); (focus rfl))))
 refine Yth hl hl2 (Rd.vec (E := 143) (s := s) (.init .last)) fun s' => ?_
 refine Yaa (X := vec 143 3 s (hds hs)) (.init (.init .last)) ?_
 refine Yaa (X := pt a (.cells [.pointer (da d), .int .i64 g, s.v].toArray 125)) (.init (.init .last)) ?_
 refine Yfe ?_
 refine T.perm ?_ (hk s')
 ac_rfl
end
def nts (l : List Nat) : List Int := l.map fun (n : Nat) => (n : Int)
def Uof (ws : List Nat) (a : Nat) : Bool := (ws.getD (a / 64) 0).testBit (a % 64)
structure BmOk (lim : Nat) (U : Nat → Bool) (ws : List Nat) : Prop where
 len : ws.length = (lim + 63) / 64
 big : lim ≤ 2 ^ 40
 lt : ∀ w ∈ ws, w < 2 ^ 64
 eq : ∀ a, U a = Uof ws a
 off : ∀ a, lim ≤ a → U a = false
abbrev BmX := Sl × List Nat × Int
def BmQ (s lim : Nat) (x : BmX) : SL := vec 109 1 x.1 (wds (nts x.2.1)) * pt s (.cells [x.1.v, .int .i64 lim, .int .i64 x.2.2].toArray 191)
def Bm (s lim : Nat) (U : Nat → Bool) : SL := ex fun x : BmX => BmQ s lim x * pu (BmOk lim U x.2.1)
theorem Vej {a b : Nat} (ha : a < 2 ^ 64) (hb : b < 2 ^ 64) : ∃ m : Nat, bitI .andNot .u64 a b = m ∧ m < 2 ^ 64 ∧ ∀ j, j < 64 → m.testBit j = (a.testBit j && !b.testBit j) := by
 refine ⟨(BitVec.ofInt 64 a &&& ~~~ BitVec.ofInt 64 b).toNat, ?_, (BitVec.ofInt 64 a &&& ~~~ BitVec.ofInt 64 b).isLt, fun j hj => ?_⟩
 ·exact wu64n _ (BitVec.ofInt 64 a &&& ~~~ BitVec.ofInt 64 b).isLt
 ·rw [← BitVec.getLsbD, BitVec.getLsbD_and, BitVec.getLsbD_not, BitVec.ofInt_natCast, BitVec.ofInt_natCast, BitVec.getLsbD_ofNat, BitVec.getLsbD_ofNat]
  simp [hj]
section
variable {B : World} {P R : SL} {t : K}
theorem Yi6 {s lim : Nat} {U : Nat → Bool} (h : ∀ (q : Sl) (ws : List Nat) (m : Int), BmOk lim U ws → T B (R * vec 109 1 q (wds (nts ws)) * pt s (.cells [q.v, .int .i64 lim, .int .i64 m].toArray 191)) t) : T B (R * Bm s lim U) t := by
 refine Ywt fun x => ?_
 rw [← Yad]
 refine Yz5 fun ok => T.perm ?_ (h x.1 x.2.1 x.2.2 ok)
 unfold BmQ; simp only [Yad]
theorem Yes {s lim : Nat} {U : Nat → Bool} {q : Sl} {ws : List Nat} {m : Int} (ok : BmOk lim U ws) (h : T B (R * Bm s lim U) t) : T B (R * vec 109 1 q (wds (nts ws)) * pt s (.cells [q.v, .int .i64 lim, .int .i64 m].toArray 191)) t := by
 have h2 : T B (R * (BmQ s lim (q, ws, m) * pu (BmOk lim U ws))) t := Yjt (X := fun x : BmX => BmQ s lim x * pu (BmOk lim U x.2.1)) (q, ws, m) h
 rw [← Yad] at h2
 refine T.perm ?_ (Ysu ok h2)
 unfold BmQ; simp only [Yad]
theorem Yla {lim : Nat} (hl : lim ≤ 2 ^ 40) {k : Option Addr → K} (hk : ∀ s, T B (R * Bm s lim (fun _ => false)) (k (da s))) : T B R (Yfv lim k) := by
 refine Yaq (Yvf lim k) ?_
 have e0 : max2I (lim : Int) 0 = lim := by unfold max2I; split <;> omega
 (dsimp only [Yua, Zdi0, Zdi1])
 rw [e0]
 refine Yrj (by omega) (by omega) (by omega) ?_
 have e1 : ((lim : Int) + 64 - 1) / 64 = (((lim + 63) / 64 : Nat) : Int) := by omega
 rw [e1]
 refine Ysv Yp6 (by omega) (by omega) (by omega) fun b => ?_
 rw [Int.toNat_natCast, Yu8]
 (repeat ((with_reducible refine Ya7 ?_; intro _)))
 rename_i s
 have e2 : List.replicate ((lim + 63) / 64) (0 : Int) = nts (List.replicate ((lim + 63) / 64) 0) := by simp [nts]
 rw [e2]
 refine Yes (q := ⟨some ⟨b, 0, none⟩, (lim + 63) / 64, (lim + 63) / 64⟩) ⟨by simp, hl, fun w hw => ?_, fun a => ?_, fun a _ => rfl⟩ (hk s)
 ·rw [List.eq_of_mem_replicate hw]; exact Nat.two_pow_pos _
 ·unfold Uof
  rw [List.getD_eq_getElem?_getD, List.getElem?_replicate]
  split <;> simp
theorem Yrt {s lim : Nat} {U : Nat → Bool} {a : Int} {k : Bool → K} (hk : T B (R * Bm s lim U) (k (decide (0 ≤ a ∧ a < lim)))) : T B (R * Bm s lim U) (Ye5 (da s) a k) := by
 refine Yaq (Yqr _ a k) ?_
 unfold da
 (repeat' (first | with_reducible refine Yam ?_ | with_reducible refine Yai (fun _ => ?_) (fun _ => ?_)))
 ·rename_i h
  refine Yi6 fun q ws m ok => ?_
  (repeat (((with_reducible apply Yaf); (focus rfl); (focus exact hasA); (focus rfl))))
  refine Yes ok ?_
  have e : decide (a < (lim : Int)) = decide (0 ≤ a ∧ a < lim) := by simp; omega
  rw [e]; exact hk
 ·rename_i h
  have e : decide (0 ≤ a ∧ a < (lim : Int)) = false := by simp; omega
  rw [e] at hk; exact hk
def has (U : Nat → Bool) (a : Int) : Bool := decide (0 ≤ a) && U a.toNat
theorem Yxc {ws : List Nat} {i : Nat} (h : i < ws.length) : (wds (nts ws))[i]? = some (.int .u64 (ws[i] : Nat)) := by simp [wds, nts, h]
theorem Yc7 {s lim : Nat} {U : Nat → Bool} {a : Int} {k : Bool → K} (hk : T B (R * Bm s lim U) (k (has U a))) : T B (R * Bm s lim U) (Yaw (da s) a k) := by
 refine Yaq (Ypi _ a k) ?_
 refine Yrt ?_
 unfold da has at *
 by_cases h0 : 0 ≤ a ∧ a < (lim : Int)
 ·rw [decide_eq_true h0]
  rw [decide_eq_true h0.1, Bool.true_and] at hk
  (repeat (first | with_reducible refine Yam ?_ | with_reducible refine Yal ?_))
  refine Yi6 fun q ws m ok => ?_
  obtain ⟨n, rfl⟩ := Int.eq_ofNat_of_zero_le h0.1
  have hb := ok.big
  have hlen := ok.len
  have hlt : n / 64 < ws.length := by omega
  (repeat (((with_reducible apply Yaz); (focus rfl); (focus exact hasA); (focus rfl))))
  have e1 : IntKind.wrap .i64 (Int.tdiv (n : Int) 64) = ((n / 64 : Nat) : Int) := by rw [Int.tdiv_eq_ediv_of_nonneg (by omega), w64 (by omega) (by omega)]; omega
  have e2 : IntKind.wrap .u64 (Int.tmod (n : Int) 64) = ((n % 64 : Nat) : Int) := by rw [Int.tmod_eq_emod_of_nonneg (by omega), wu64 (by omega) (by omega)]; omega
  rw [e1]
  refine Yej (Rd.vec (E := 109) (s := q) (vs := wds (nts ws)) (.init .last)) (by omega) (by rw [Int.toNat_natCast]; exact Yxc hlt) ?_
  rw [e2]
  refine Ymc (by omega) ?_
  have hw : ws[n / 64] < 2 ^ 64 := ok.lt _ (List.getElem_mem hlt)
  have e3 : (bitI .and .u64 (shrI .u64 ((ws[n / 64] : Nat) : Int) ((n % 64 : Nat) : Int)) 1 == 1) = U n := by
   rw [ok.eq n, Vf8 (by omega)]
   have := Yu5 (a := ws[n / 64] / 2 ^ (n % 64)) (b := 1) (Nat.lt_of_le_of_lt (Nat.div_le_self _ _) hw) (by omega)
   rw [show ((1 : Nat) : Int) = 1 from rfl] at this
   rw [this, Nat.and_one_is_mod]
   unfold Uof
   rw [List.getD_eq_getElem?_getD, List.getElem?_eq_getElem hlt, Option.getD_some, Nat.testBit_eq_decide_div_mod_eq]
   rw [Bool.eq_iff_iff]; simp only [beq_iff_eq, decide_eq_true_eq]; omega
  (dsimp only [Ymh, Zch0, Zch1])
  rw [e3]
  refine Yes ok ?_
  rw [Int.toNat_natCast] at hk; exact hk
 ·rw [decide_eq_false h0]
  (repeat (with_reducible refine Yau ?_))
  by_cases h1 : 0 ≤ a
  ·refine Yi6 fun q ws m ok => ?_
   have := ok.off a.toNat (by omega)
   rw [this, Bool.and_false] at hk
   exact Yes ok hk
  ·rw [decide_eq_false h1, Bool.false_and] at hk; exact hk
end
def uAdd (U : Nat → Bool) (a : Nat) : Nat → Bool := fun x => x == a || U x
def uDrop (U : Nat → Bool) (a : Nat) : Nat → Bool := fun x => x != a && U x
theorem Vcx (ws : List Nat) (i m : Nat) : (wds (nts ws)).set i (.int .u64 (m : Int)) = wds (nts (ws.set i m)) := by simp [wds, nts, List.map_set]
theorem Vgh {ws : List Nat} {i m : Nat} (h : i < ws.length) (a : Nat) : Uof (ws.set i m) a = if a / 64 = i then m.testBit (a % 64) else Uof ws a := by
 unfold Uof
 rw [List.getD_eq_getElem?_getD, List.getElem?_set]
 by_cases e : a / 64 = i
 ·rw [if_pos e, if_pos e.symm, if_pos (by omega)]; rfl
 ·rw [if_neg e, if_neg (Ne.symm e), List.getD_eq_getElem?_getD]
theorem BmOk.set {lim : Nat} {U U' : Nat → Bool} {ws : List Nat} (ok : BmOk lim U ws) {a m : Nat} (ha : a < lim) (hm : m < 2 ^ 64)
  (h1 : ∀ j, j < 64 → j ≠ a % 64 → m.testBit j = (ws.getD (a / 64) 0).testBit j) (h2 : U' a = m.testBit (a % 64)) (h3 : ∀ x, x ≠ a → U' x = U x) : BmOk lim U' (ws.set (a / 64) m) := by
 have hlt : a / 64 < ws.length := by have := ok.len; omega
 refine ⟨by rw [List.length_set]; exact ok.len, ok.big, fun w hw => ?_, fun x => ?_, fun x hx => ?_⟩
 ·rcases List.mem_or_eq_of_mem_set hw with h | h
  ·exact ok.lt w h
  ·rw [h]; exact hm
 ·rw [Vgh hlt]
  by_cases e : x = a
  ·subst e; rw [if_pos rfl]; exact h2
  ·rw [h3 x e, ok.eq x]
   split
   ·rename_i e2
    rw [h1 (x % 64) (by omega) (by omega), ← e2]; rfl
   ·rfl
 ·rw [h3 x (by omega)]; exact ok.off x hx
section
variable {B : World} {P R : SL} {t : K}
theorem Yf0 {s lim : Nat} {U : Nat → Bool} {a : Int} {k : Bool → K} (h0 : ¬ (0 ≤ a ∧ a < lim ∧ U a.toNat = false) → T B (R * Bm s lim U) (k false))
  (h1 : 0 ≤ a → a < lim → U a.toNat = false → T B (R * Bm s lim (uAdd U a.toNat)) (k true)) : T B (R * Bm s lim U) (Ybl (da s) a k) := by
 refine Yaq (Ypk _ a k) ?_
 refine Yrt ?_
 by_cases hin : 0 ≤ a ∧ a < (lim : Int)
 ·rw [decide_eq_true hin]
  skip
  simp only [Bool.not_true]
  (repeat (with_reducible refine Yau ?_))
  refine Yc7 ?_
  obtain ⟨n, rfl⟩ := Int.eq_ofNat_of_zero_le hin.1
  rw [Int.toNat_natCast] at h1 h0
  have hh : has U (n : Int) = U n := by unfold has; rw [decide_eq_true hin.1, Bool.true_and, Int.toNat_natCast]
  rw [hh]
  cases hu : U n
  ·have hk := h1 hin.1 hin.2 hu
   unfold da
   (repeat (first | with_reducible refine Yam ?_ | with_reducible refine Yau ?_))
   refine Yi6 fun q ws m ok => ?_
   have hb := ok.big
   have hlen := ok.len
   have hlt : n / 64 < ws.length := by omega
   (repeat (((with_reducible apply Yaz); (focus rfl); (focus exact hasA); (focus rfl))))
   have e1 : IntKind.wrap .i64 (Int.tdiv (n : Int) 64) = ((n / 64 : Nat) : Int) := by rw [Int.tdiv_eq_ediv_of_nonneg (by omega), w64 (by omega) (by omega)]; omega
   have e2 : IntKind.wrap .u64 (Int.tmod (n : Int) 64) = ((n % 64 : Nat) : Int) := by rw [Int.tmod_eq_emod_of_nonneg (by omega), wu64 (by omega) (by omega)]; omega
   rw [e1]
   refine Yej (Rd.vec (E := 109) (s := q) (vs := wds (nts ws)) (.init .last)) (by omega) (by rw [Int.toNat_natCast]; exact Yxc hlt) ?_
   rw [e2]
   refine Ymc (by omega) ?_
   have hw : ws[n / 64] < 2 ^ 64 := ok.lt _ (List.getElem_mem hlt)
   have h2p : 1 * 2 ^ (n % 64) < 2 ^ 64 := by rw [Nat.one_mul]; exact Nat.pow_lt_pow_right (by omega) (by omega)
   have e3 : shlI .u64 1 ((n % 64 : Nat) : Int) = ((1 * 2 ^ (n % 64) : Nat) : Int) := Yy3 (a := 1) (by omega) h2p
   rw [e3, Vcl hw h2p]
   refine Ywv (E := 109) (i := ((n / 64 : Nat) : Int)) (s := q) (vs := wds (nts ws)) (.init .last) (by omega) (by rw [Int.toNat_natCast]; simp [wds, nts]; omega) ?_
   rw [Int.toNat_natCast, Vcx]
   have hg : ws.getD (n / 64) 0 = ws[n / 64] := by rw [List.getD_eq_getElem?_getD, List.getElem?_eq_getElem hlt]; rfl
   have ok' : BmOk lim (uAdd U n) (ws.set (n / 64) (ws[n / 64] ||| 1 * 2 ^ (n % 64))) := by
    refine ok.set (by omega) (Nat.or_lt_two_pow hw h2p) (fun j hj hne => ?_) ?_ (fun x hx => ?_)
    ·rw [hg, Nat.testBit_or, Nat.one_mul, Nat.testBit_two_pow_of_ne (Ne.symm hne), Bool.or_false]
    ·unfold uAdd; rw [Nat.testBit_or, Nat.one_mul, Nat.testBit_two_pow_self]; simp
    ·unfold uAdd; simp [hx]
   (repeat (first | with_reducible refine Yam ?_ | ((with_reducible apply Yaf); (focus rfl); (focus exact hasA); (focus rfl)) | ((with_reducible apply Ybc); (focus rfl); (focus exact updA); (focus simp); simp only [List.set, Nat.zero_add, Nat.reduceAdd])))
   refine Yaa (X := pt s (.cells [q.v, .int .i64 lim, .int .i64 (IntKind.wrap .i64 (m + 1))].toArray 191)) (.init .last) ?_
   exact Yes ok' hk
  ·(repeat (with_reducible refine Yal ?_))
   exact h0 (fun h => by rw [hu] at h; cases h.2.2)
 ·rw [decide_eq_false hin]
  simp only [Bool.not_false]
  (repeat (with_reducible refine Yal ?_))
  exact h0 (fun h => hin ⟨h.1, h.2.1⟩)
theorem Ygp {s lim : Nat} {U : Nat → Bool} {a : Int} {k : Bool → K} (h0 : has U a = false → T B (R * Bm s lim U) (k false))
  (h1 : 0 ≤ a → U a.toNat = true → T B (R * Bm s lim (uDrop U a.toNat)) (k true)) : T B (R * Bm s lim U) (Yb6 (da s) a k) := by
 refine Yaq (Yob _ a k) ?_
 refine Yc7 ?_
 cases hu : has U a
 ·simp only [Bool.not_false]
  (repeat (with_reducible refine Yal ?_))
  exact h0 hu
 ·simp only [Bool.not_true]
  unfold has at hu
  simp only [Bool.and_eq_true, decide_eq_true_eq] at hu
  obtain ⟨hin, hu⟩ := hu
  obtain ⟨n, rfl⟩ := Int.eq_ofNat_of_zero_le hin
  rw [Int.toNat_natCast] at h1 hu
  have hk := h1 hin hu
  unfold da
  (repeat (first | with_reducible refine Yam ?_ | with_reducible refine Yau ?_))
  refine Yi6 fun q ws m ok => ?_
  have hb := ok.big
  have hlen := ok.len
  have hnl : n < lim := by
   rcases Nat.lt_or_ge n lim with h | h
   ·exact h
   ·rw [ok.off n h] at hu; cases hu
  have hlt : n / 64 < ws.length := by omega
  (repeat (((with_reducible apply Yaz); (focus rfl); (focus exact hasA); (focus rfl))))
  have e1 : IntKind.wrap .i64 (Int.tdiv (n : Int) 64) = ((n / 64 : Nat) : Int) := by rw [Int.tdiv_eq_ediv_of_nonneg (by omega), w64 (by omega) (by omega)]; omega
  have e2 : IntKind.wrap .u64 (Int.tmod (n : Int) 64) = ((n % 64 : Nat) : Int) := by rw [Int.tmod_eq_emod_of_nonneg (by omega), wu64 (by omega) (by omega)]; omega
  rw [e1]
  refine Yej (Rd.vec (E := 109) (s := q) (vs := wds (nts ws)) (.init .last)) (by omega) (by rw [Int.toNat_natCast]; exact Yxc hlt) ?_
  rw [e2]
  refine Ymc (by omega) ?_
  have hw : ws[n / 64] < 2 ^ 64 := ok.lt _ (List.getElem_mem hlt)
  have h2p : 1 * 2 ^ (n % 64) < 2 ^ 64 := by rw [Nat.one_mul]; exact Nat.pow_lt_pow_right (by omega) (by omega)
  have e3 : shlI .u64 1 ((n % 64 : Nat) : Int) = ((1 * 2 ^ (n % 64) : Nat) : Int) := Yy3 (a := 1) (by omega) h2p
  obtain ⟨w', e4, e5, e6⟩ := Vej hw h2p
  rw [e3, e4]
  refine Ywv (E := 109) (i := ((n / 64 : Nat) : Int)) (s := q) (vs := wds (nts ws)) (.init .last) (by omega) (by rw [Int.toNat_natCast]; simp [wds, nts]; omega) ?_
  rw [Int.toNat_natCast, Vcx]
  have hg : ws.getD (n / 64) 0 = ws[n / 64] := by rw [List.getD_eq_getElem?_getD, List.getElem?_eq_getElem hlt]; rfl
  have ok' : BmOk lim (uDrop U n) (ws.set (n / 64) w') := by
   refine ok.set hnl e5 (fun j hj hne => ?_) ?_ (fun x hx => ?_)
   ·rw [hg, e6 j hj, Nat.one_mul, Nat.testBit_two_pow_of_ne (Ne.symm hne)]; simp
   ·unfold uDrop; rw [e6 _ (by omega), Nat.one_mul, Nat.testBit_two_pow_self]; simp
   ·unfold uDrop; simp [hx]
  (repeat (first | with_reducible refine Yam ?_ | ((with_reducible apply Yaf); (focus rfl); (focus exact hasA); (focus rfl)) | ((with_reducible apply Ybc); (focus rfl); (focus exact updA); (focus simp); simp only [List.set, Nat.zero_add, Nat.reduceAdd])))
  refine Yaa (X := pt s (.cells [q.v, .int .i64 lim, .int .i64 (IntKind.wrap .i64 (m - 1))].toArray 191)) (.init .last) ?_
  exact Yes ok' hk
end
def cnt0 (w : Int) : Int := IntKind.wrap .u64 (w - (bitI .and .u64 (shrI .u64 w 1) 6148914691236517205))
def cnt1 (w : Int) : Int := IntKind.wrap .u64 ((bitI .and .u64 w 3689348814741910323) + (bitI .and .u64 (shrI .u64 w 2) 3689348814741910323))
def cnt2 (w : Int) : Int := bitI .and .u64 (IntKind.wrap .u64 (w + (shrI .u64 w 4))) 1085102592571150095
def cnt3 (w : Int) : Int := IntKind.wrap .i64 (shrI .u64 (IntKind.wrap .u64 (w * 72340172838076673)) 56)
def cnt (w : Int) : Int := cnt3 (cnt2 (cnt1 (cnt0 w)))
theorem Vek : ∀ i : Fin 64, cnt ((2 ^ i.val - 1 : Nat) : Int) = ((i.val : Nat) : Int) := by decide +kernel
theorem Vgi {w i : Nat} (hw : w < 2 ^ 64) (hi : i < 64) (h0 : ∀ j, j < i → w.testBit j = false) (h1 : w.testBit i = true) : w &&& (2 ^ 64 - w) = 2 ^ i := by
 have hpos : 0 < w := by
  rcases Nat.eq_zero_or_pos w with h | h
  ·subst h; simp at h1
  ·exact h
 obtain ⟨m, hm⟩ : ∃ m, w = 2 ^ i * m := by
  refine ⟨w / 2 ^ i, ?_⟩
  have : w % 2 ^ i = 0 := by
   apply Nat.eq_of_testBit_eq
   intro j
   rw [Nat.testBit_mod_two_pow, Nat.zero_testBit]
   by_cases hj : j < i
   ·rw [h0 j hj, Bool.and_false]
   ·simp [hj]
  have := Nat.div_add_mod w (2 ^ i)
  omega
 have hodd : m.testBit 0 = true := by
  have := h1
  rw [hm, Nat.testBit_two_pow_mul] at this
  simpa using this
 have hm1 : m % 2 = 1 := by simpa [Nat.testBit_zero] using hodd
 have hw1 : w - 1 = 2 ^ i * (m - 1) + (2 ^ i - 1) := by
  have hp : 0 < 2 ^ i := Nat.two_pow_pos i
  rw [hm, Nat.mul_sub, Nat.mul_one]
  have : 2 ^ i * 1 ≤ 2 ^ i * m := Nat.mul_le_mul_left _ (by omega)
  omega
 apply Nat.eq_of_testBit_eq
 intro j
 rw [Nat.testBit_and, show 2 ^ 64 - w = 2 ^ 64 - ((w - 1) + 1) by omega, Nat.testBit_two_pow_sub_succ (by omega)]
 rcases Nat.lt_trichotomy j i with h | h | h
 ·rw [h0 j h, Bool.false_and, Nat.testBit_two_pow_of_ne (by omega)]
 ·subst h
  rw [h1, Nat.testBit_two_pow_self]
  have : (w - 1).testBit j = false := by
   rw [hw1, Nat.testBit_two_pow_mul_add _ (by have := Nat.two_pow_pos j; omega)]
   simp only [Nat.lt_irrefl, if_false, Nat.sub_self, Nat.testBit_zero, decide_eq_false_iff_not]
   omega
  rw [this]; simp [hi]
 ·rw [Nat.testBit_two_pow_of_ne (by omega)]
  have : (w - 1).testBit j = w.testBit j := by
   rw [hw1, Nat.testBit_two_pow_mul_add _ (by have := Nat.two_pow_pos i; omega), if_neg (by omega)]
   rw [hm, Nat.testBit_two_pow_mul]
   obtain ⟨c, hc⟩ : ∃ c, j - i = c + 1 := ⟨j - i - 1, by omega⟩
   rw [hc, Nat.testBit_succ, Nat.testBit_succ, show (m - 1) / 2 = m / 2 by omega]
   simp; omega
  rw [this]
  cases w.testBit j <;> simp
section
variable {B : World} {P R : SL} {t : K}
theorem Yxd {w : Int} {k : Int → K} (hk : T B R (k (cnt w))) : T B R (Ykk w k) := Yaq (Yu1 w k) hk
theorem Yvk {w i : Nat} (hw : w < 2 ^ 64) (hi : i < 64) (h0 : ∀ j, j < i → w.testBit j = false) (h1 : w.testBit i = true) {k : Int → K} (hk : T B R (k i)) : T B R (Yiz w k) := by
 refine Yaq (Ys2 w k) ?_
 have hpos : 0 < w := by
  rcases Nat.eq_zero_or_pos w with h | h
  ·subst h; simp at h1
  ·exact h
 have e1 : IntKind.wrap .u64 (0 - (w : Int)) = ((2 ^ 64 - w : Nat) : Int) := by
  unfold IntKind.wrap
  simp only [IntKind.bits, IntKind.signed, Bool.false_and, Bool.false_eq_true, if_false]
  omega
 (dsimp only [Yrh, Zbg0, Zbg1])
 rw [e1, Yu5 hw (by omega), Vgi hw hi h0 h1]
 have hp : 1 ≤ 2 ^ i := Nat.two_pow_pos i
 have hlt : 2 ^ i < 2 ^ 64 := Nat.pow_lt_pow_right (by omega) hi
 rw [wu64 (by omega) (by omega), show ((2 ^ i : Nat) : Int) - 1 = ((2 ^ i - 1 : Nat) : Int) by omega]
 refine Yxd ?_
 rw [Vek ⟨i, hi⟩]
 exact hk
end
theorem least {p : Nat → Bool} {n : Nat} (h : p n = true) : ∃ m, m ≤ n ∧ p m = true ∧ ∀ j, j < m → p j = false := by
 induction n using Nat.strongRecOn with
 |ind n ih =>
  by_cases hx : ∃ j, j < n ∧ p j = true
  ·obtain ⟨j, h1, h2⟩ := hx
   obtain ⟨m, h3, h4, h5⟩ := ih j h1 h2
   exact ⟨m, by omega, h4, h5⟩
  ·refine ⟨n, Nat.le_refl _, h, fun j hj => ?_⟩
   cases hp : p j
   ·rfl
   ·exact absurd ⟨j, hj, hp⟩ hx
theorem Vho {w : Nat} (hw : w < 2 ^ 64) (h : w ≠ 0) : ∃ i, i < 64 ∧ w.testBit i = true ∧ ∀ j, j < i → w.testBit j = false := by
 obtain ⟨i, hi⟩ : ∃ i, w.testBit i = true := by
  refine Classical.byContradiction fun hn => h ?_
  apply Nat.eq_of_testBit_eq
  intro i
  rw [Nat.zero_testBit]
  cases hb : w.testBit i
  ·rfl
  ·exact absurd ⟨i, hb⟩ hn
 obtain ⟨m, h1, h2, h3⟩ := least (p := w.testBit) hi
 refine ⟨m, ?_, h2, h3⟩
 rcases Nat.lt_or_ge m 64 with hm | hm
 ·exact hm
 ·rw [Nat.testBit_lt_two_pow (Nat.lt_of_lt_of_le hw (Nat.pow_le_pow_right (by omega) hm))] at h2; cases h2
section
variable {B : World} {P R : SL} {t : K}
theorem Yd4 {s lim : Nat} {U : Nat → Bool} {a : Int} {k : Int × Bool → K} (h0 : (∀ x : Nat, a ≤ x → U x = false) → T B (R * Bm s lim U) (k (0, false)))
  (h1 : ∀ x : Nat, a ≤ x → U x = true → x < lim → (∀ y : Nat, a ≤ y → y < x → U y = false) → T B (R * Bm s lim U) (k ((x : Int), true))) : T B (R * Bm s lim U) (Yap (da s) a k) := by
 refine Yaq (Yoj _ a k) ?_
 obtain ⟨n, hn, hna⟩ : ∃ n : Nat, max2I a 0 = n ∧ ∀ x : Nat, a ≤ x ↔ n ≤ x := by
  refine ⟨a.toNat, ?_, fun x => by omega⟩
  unfold max2I; split <;> omega
 simp only [hna] at h0 h1
 (dsimp only [Yfd, Zdl0, Zdl1, Zdl2, Zdl3, Zdl4, Zdl5, Zdl6, Zdl7, Zdl8, Zdl9, Zdl10, Zdl11, Zdl12])
 rw [hn]
 unfold da
 refine Yi6 fun q ws m ok => ?_
 have hb := ok.big
 have hlen := ok.len
 (repeat' (first | with_reducible refine Yam ?_ | ((with_reducible apply Yaf); (focus rfl); (focus exact hasA); (focus rfl)) | ((with_reducible apply Yaz); (focus rfl); (focus exact hasA); (focus rfl)) | with_reducible refine Yai (fun _ => ?_) (fun _ => ?_)))
 ·rename_i hge
  exact Yes ok (h0 fun x hx => ok.off x (by omega))
 rename_i hlt0
 have hnl : n < lim := by omega
 have e1 : IntKind.wrap .i64 (Int.tdiv (n : Int) 64) = ((n / 64 : Nat) : Int) := by rw [Int.tdiv_eq_ediv_of_nonneg (by omega), w64 (by omega) (by omega)]; omega
 have e2 : IntKind.wrap .u64 (Int.tmod (n : Int) 64) = ((n % 64 : Nat) : Int) := by rw [Int.tmod_eq_emod_of_nonneg (by omega), wu64 (by omega) (by omega)]; omega
 have hlt : n / 64 < ws.length := by omega
 rw [e1]
 refine Yej (Rd.vec (E := 109) (s := q) (vs := wds (nts ws)) (.init .last)) (by omega) (by rw [Int.toNat_natCast]; exact Yxc hlt) ?_
 rw [e2]
 refine Ymc (by omega) ?_
 refine Ymc (by omega) ?_
 have hw : ws[n / 64] < 2 ^ 64 := ok.lt _ (List.getElem_mem hlt)
 have hsl : ws[n / 64] / 2 ^ (n % 64) * 2 ^ (n % 64) ≤ ws[n / 64] := Nat.div_mul_le_self _ _
 rw [Vf8 (by omega), Yy3 (by omega) (by omega)]
 have hU : ∀ x : Nat, x / 64 < ws.length → U x = (ws.getD (x / 64) 0).testBit (x % 64) := fun x _ => ok.eq x
 refine Ycz (fun _ _ => R * vec 109 1 q (wds (nts ws)) * pt s (.cells [q.v, .int .i64 lim, .int .i64 m].toArray 191))
  (fun mm (st : Int × Int × Unit) => ∃ i w : Nat, st.1 = i ∧ st.2.1 = w ∧ n / 64 ≤ i ∧ i < ws.length ∧ w < 2 ^ 64 ∧ mm = ws.length - i ∧ (∀ x : Nat, n ≤ x → x / 64 < i → U x = false) ∧ (∀ x : Nat, x / 64 = i → w.testBit (x % 64) = (decide (n ≤ x) && U x))) (ws.length - n / 64) rfl
  ⟨n / 64, _, rfl, rfl, Nat.le_refl _, hlt, by omega, rfl, fun x hx h => by omega, fun x hx => ?_⟩ ?_
 ·rw [ok.eq x]; unfold Uof
  rw [hx, List.getD_eq_getElem?_getD, List.getElem?_eq_getElem hlt, Option.getD_some, Nat.testBit_mul_two_pow, Nat.testBit_div_two_pow]
  by_cases hnx : n ≤ x
  ·rw [decide_eq_true hnx, decide_eq_true (show n % 64 ≤ x % 64 by omega)]
   rw [show x % 64 - n % 64 + n % 64 = x % 64 by omega]
  ·rw [decide_eq_false hnx, decide_eq_false (show ¬ n % 64 ≤ x % 64 by omega)]; simp
 rintro mm ⟨s1, s2, u⟩ c ⟨i, w, f1, f2, f8, f3, f4, f5, f6, f7⟩ hc
 simp only at f1 f2
 subst f1 f2 f5
 refine Yc0 (E := 109) (sz := 1) (s := q) (vs := wds (nts ws)) (.init .last) fun hq => ?_
 have hqn : q.n = ws.length := by simpa [wds, nts] using hq
 (repeat' (first | with_reducible refine Yam ?_ | ((with_reducible apply Yaz); (focus rfl); (focus exact hasA); (focus rfl)) | with_reducible refine Yai (fun _ => ?_) (fun _ => ?_) | with_reducible refine Ybr (fun _ => ?_) (fun _ => ?_)))
 ·rename_i hz hge
  refine Yes ok (h0 fun x hx => ?_)
  rw [w64 (by omega) (by omega)] at hge
  by_cases hxl : x < lim
  ·rcases Nat.lt_trichotomy (x / 64) i with h | h | h
   ·exact f6 x hx h
   ·have := f7 x h
    have hw0 : w = 0 := by simp only at hz; omega
    rw [hw0, decide_eq_true hx, Bool.true_and, Nat.zero_testBit] at this
    exact this.symm
   ·omega
  ·exact ok.off x (by omega)
 ·rename_i hz hlt2
  have hw0 : w = 0 := by simp only at hz; omega
  rw [w64 (by omega) (by omega)] at hlt2
  have hi : i + 1 < ws.length := by omega
  have e3 : IntKind.wrap .i64 ((i : Int) + 1) = ((i + 1 : Nat) : Int) := by rw [w64 (by omega) (by omega)]; omega
  (dsimp only [Yfd, Zdl0, Zdl1, Zdl2, Zdl3, Zdl4, Zdl5, Zdl6, Zdl7, Zdl8, Zdl9, Zdl10, Zdl11, Zdl12])
  rw [e3]
  refine Yej (Rd.vec (E := 109) (s := q) (vs := wds (nts ws)) (.init .last)) (by omega) (by rw [Int.toNat_natCast]; exact Yxc hi) ?_
  refine hc (ws.length - (i + 1)) _ (by omega) ⟨i + 1, ws[i + 1], rfl, rfl, by omega, hi, ok.lt _ (List.getElem_mem hi), rfl, fun x hx hxi => ?_, fun x hx => ?_⟩
  ·by_cases hxe : x / 64 = i
   ·have := f7 x hxe
    rw [hw0, decide_eq_true hx, Bool.true_and, Nat.zero_testBit] at this
    exact this.symm
   ·exact f6 x hx (by omega)
  ·rw [ok.eq x]; unfold Uof
   rw [hx, List.getD_eq_getElem?_getD, List.getElem?_eq_getElem hi, Option.getD_some, decide_eq_true (show n ≤ x by omega), Bool.true_and]
 ·rename_i hne
  have hw0 : w ≠ 0 := by simp only at hne; omega
  obtain ⟨j, g1, g2, g3⟩ := Vho f4 hw0
  refine Yvk f4 g1 g3 g2 ?_
  (dsimp only [Yfd, Zdl0, Zdl1, Zdl2, Zdl3, Zdl4, Zdl5, Zdl6, Zdl7, Zdl8, Zdl9, Zdl10, Zdl11, Zdl12])
  have e3 : IntKind.wrap .i64 ((IntKind.wrap .i64 ((i : Int) * 64)) + j) = ((64 * i + j : Nat) : Int) := by rw [w64 (n := (i : Int) * 64) (by omega) (by omega), w64 (by omega) (by omega)]; omega
  rw [e3]
  have hx := f7 (64 * i + j) (by omega)
  rw [show (64 * i + j) % 64 = j by omega, g2] at hx
  have hx' := (Bool.and_eq_true_iff.1 hx.symm)
  have hnx : n ≤ 64 * i + j := by simpa using hx'.1
  refine Yes ok (h1 _ hnx hx'.2 ?_ fun y hy hyx => ?_)
  ·rcases Nat.lt_or_ge (64 * i + j) lim with h | h
   ·exact h
   ·rw [ok.off _ h] at hx'; cases hx'.2
  ·by_cases hyi : y / 64 < i
   ·exact f6 y hy hyi
   ·have := f7 y (by omega)
    rw [g3 _ (by omega), decide_eq_true hy, Bool.true_and] at this
    exact this.symm
end
section
set_option maxRecDepth 100000
abbrev Zdw0 (k : (Sl → K)) (x2 : Sl) : K :=
 k x2
abbrev Zdw1 (a : OA) (k : (Sl → K)) : K :=
 nn a fun x4 =>
 ldP (x4.add 3) fun x6 =>
 Yhz x6 fun x7 =>
 Zdw0 k x7
abbrev Yi7 (a : OA) : M Sl := fun k =>
 Zdw1 a k
theorem Yd7 (a : OA) (k : Sl → K) (w : World) (h_ : Yi7 a k w) : Yan a k w :=
 Yae (P := Tryz.prog) Tryz.func12 rfl (by kernel_rfl)
 (Qs [] [0] (fun z_ => Zdw1 a k)
 Qz
 (fun _ => Qs [(2, .slice)] [] (fun z_ => Zdw0 k z_.1)
 Qz
 (fun (x2, _) => Qr))) h_
abbrev Zdx0 (k : (Int → K)) (x6 : Int) : K :=
 k x6
abbrev Zdx1 (x0 : OA) (x1 : Int) (x2 : Int) (k : (Int → K)) (x9 : Int) : K :=
 nn x0 fun x76 =>
 ldP (x76.add 4) fun x78 =>
 Yga x78 x1 x9 x2 fun x82 =>
 Zdx0 k x82
abbrev Zdx2 (k : (Int → K)) (x6_1 : Int) : K :=
 k x6_1
abbrev Zdx3 (x0 : OA) (x2 : Int) (k : (Int → K)) (x9 : Int) : K :=
 nn x0 fun x69 =>
 ldP (x69.add 4) fun x71 =>
 Yc4 x71 x9 x2 fun x74 =>
 Zdx2 k x74
abbrev Zdx4 (x0 : OA) (x1 : Int) (x2 : Int) (k : (Int → K)) (x9 : Int) (x67 : Bool) : K :=
 brK x67
 (Zdx3 x0 x2 k x9)
 (Zdx1 x0 x1 x2 k x9)
abbrev Zdx5 (x0 : OA) (x1 : Int) (x2 : Int) (k : (Int → K)) (x9 : Int) : K :=
 brK (decide (x1 < 0))
 (Zdx4 x0 x1 x2 k x9 true)
 (Zdx4 x0 x1 x2 k x9 (decide (x1 ≥ 4)))
abbrev Zdx6 (x0 : OA) (x1 : Int) (x2 : Int) (k : (Int → K)) (x9 : Int) : K :=
 nn x0 fun x57 =>
 ldP (x57.add 3) fun x59 =>
 Yb6 x59 x2 fun x61 =>
 Zdx5 x0 x1 x2 k x9
abbrev Zdx7 (k : (Int → K)) (x6_2 : Int) : K :=
 k x6_2
abbrev Zdx8 (x0 : OA) (x2 : Int) (k : (Int → K)) : K :=
 nn x0 fun x51 =>
 ldP (x51.add 3) fun x53 =>
 Yb6 x53 x2 fun x55 =>
 Zdx7 k 0
abbrev Zdx9 (k : (Int → K)) (x6_3 : Int) : K :=
 k x6_3
abbrev Zdx10 (x0 : OA) (x2 : Int) (k : (Int → K)) (x11 : Int) (x48 : Bool) : K :=
 brK x48
 (Zdx9 k x11)
 (Zdx8 x0 x2 k)
abbrev Zdx11 (x0 : OA) (x2 : Int) (k : (Int → K)) (x11 : Int) : K :=
 Zdx10 x0 x2 k x11 (x11 != 0)
abbrev Zdx12 (x0 : OA) (x2 : Int) (k : (Int → K)) : K :=
 tick fun _ =>
 nn x0 fun x37 =>
 ldP (x37.add 0) fun x39 =>
 nn x0 fun x41 =>
 ldI .i64 (Addr.add (x41.add 2) 0) fun x43_0 =>
 Ya3 x43_0 x2 fun x45 =>
 chk [.cell (x37.add 0) (.pointer x39)] fun _ =>
 Ych x39 x45 fun x46 =>
 Zdx11 x0 x2 k x46
abbrev Zdx13 (x0 : OA) (x1 : Int) (x2 : Int) (k : (Int → K)) (x9 : Int) (x35 : Bool) : K :=
 brK x35
 (Zdx12 x0 x2 k)
 (Zdx6 x0 x1 x2 k x9)
abbrev Zdx14 (x0 : OA) (x1 : Int) (x2 : Int) (k : (Int → K)) (x9 : Int) (x10 : Bool) : K :=
 Zdx13 x0 x1 x2 k x9 (!x10)
abbrev Zdx15 (x0 : OA) (x1 : Int) (x2 : Int) (k : (Int → K)) (x7 : Addr) : K :=
 ldI .i64 (x7.add 0) fun x30_0 =>
 ldI .i64 (x7.add 1) fun x30_1 =>
 Ybj (x30_0, x30_1) fun x31 =>
 Zdx14 x0 x1 x2 k x31.1 x31.2
abbrev Zdx16 (k : (Int → K)) (x6_4 : Int) : K :=
 k x6_4
abbrev Zdx17 (x0 : OA) (x1 : Int) (x2 : Int) (k : (Int → K)) (x7 : Addr) (x28 : Bool) : K :=
 brK x28
 (Zdx16 k 42)
 (Zdx15 x0 x1 x2 k x7)
abbrev Zdx18 (x0 : OA) (x1 : Int) (x2 : Int) (k : (Int → K)) (x7 : Addr) (x8 : Bool) : K :=
 brK (!x8)
 (Zdx17 x0 x1 x2 k x7 true)
 (nn x0 fun x22 =>
 ldP (x22.add 3) fun x24 =>
 Yaw x24 x2 fun x26 =>
 Zdx17 x0 x1 x2 k x7 (!x26))
abbrev Zdx19 (x0 : OA) (x1 : Int) (x2 : Int) (k : (Int → K)) : K :=
 Yb4 x0 x2 fun x15 =>
 alK (.cells #[.int .i64 0, .int .i64 0] 68) fun b =>
 stK (Addr.add ⟨b, 0, none⟩ 0) (.int .i64 x15.1.1) <|
 stK (Addr.add ⟨b, 0, none⟩ 1) (.int .i64 x15.1.2) <|
 Zdx18 x0 x1 x2 k ⟨b, 0, none⟩ x15.2
abbrev Yb1 (x0 : OA) (x1 : Int) (x2 : Int) : M Int := fun k =>
 Zdx19 x0 x1 x2 k
theorem Yi8 (x0 : OA) (x1 : Int) (x2 : Int) (k : Int → K) (w : World) (h_ : Yb1 x0 x1 x2 k w) : Ybo x0 x1 x2 k w :=
 Yae (P := Tryz.prog) Tryz.func24 rfl (by kernel_rfl)
 (Qs [] [0, 1, 2] (fun z_ => Zdx19 x0 x1 x2 k)
 Qz
 (fun _ => Qs [(7, .addr), (8, .bool)] [0, 1, 2] (fun z_ => Zdx18 x0 x1 x2 k z_.1 z_.2.1)
 Qz
 (fun (x7, x8, _) => Qs [] [0, 1, 2, 7] (fun z_ => Zdx15 x0 x1 x2 k x7)
 (Qs [(28, .bool)] [0, 1, 2, 7] (fun z_ => Zdx17 x0 x1 x2 k x7 z_.1)
 (Qp [2])
 (fun (x28, _) => Qc (x28) (Zdx16 k 42) (Zdx15 x0 x1 x2 k x7) (Qs [(6, .int .i64)] [] (fun z_ => Zdx16 k z_.1)
 Qz
 (fun (x6_4, _) => Qr)) Qk))
 (fun _ => Qs [(9, .int .i64), (10, .bool)] [0, 1, 2] (fun z_ => Zdx14 x0 x1 x2 k z_.1 z_.2.1)
 Qz
 (fun (x9, x10, _) => Qs [] [0, 1, 2, 9] (fun z_ => Zdx6 x0 x1 x2 k x9)
 (Qs [(35, .bool)] [0, 1, 2, 9] (fun z_ => Zdx13 x0 x1 x2 k x9 z_.1)
 Qz
 (fun (x35, _) => Qc (x35) (Zdx12 x0 x2 k) (Zdx6 x0 x1 x2 k x9) (Qs [] [0, 2] (fun z_ => Zdx8 x0 x2 k)
 (Qs [(11, .int .i64)] [0, 2] (fun z_ => Zdx11 x0 x2 k z_.1)
 (RefK.draw [] [0, 1, 3, 7, 0, 16, 48, 112, 0, 496, 1023, 2047] [0, 1, 2, 3, 4, 5, 6, 7, 8, 9, 10, 11] [0, 1, 2, 3, 4, 5, 6, 7, 8, 9, 10, 11] (by kernel_rfl) (by kernel_rfl))
 (fun (x11, _) => Qs [(48, .bool)] [0, 2, 11] (fun z_ => Zdx10 x0 x2 k x11 z_.1)
 Qz
 (fun (x48, _) => Qc (x48) (Zdx9 k x11) (Zdx8 x0 x2 k) (Qs [(6, .int .i64)] [] (fun z_ => Zdx9 k z_.1)
 Qz
 (fun (x6_3, _) => Qr)) Qk)))
 (fun _ => Qs [] [] (fun z_ => Zdx7 k 0)
 Qz
 (fun _ => Qs [(6, .int .i64)] [] (fun z_ => Zdx7 k z_.1)
 Qz
 (fun (x6_2, _) => Qr)))) Qk))
 (fun _ => Qs [] [0, 1, 2, 9] (fun z_ => Zdx5 x0 x1 x2 k x9)
 Qz
 (fun _ => Qs [] [0, 1, 2, 9] (fun z_ => Zdx1 x0 x1 x2 k x9)
 (Qs [(67, .bool)] [0, 1, 2, 9] (fun z_ => Zdx4 x0 x1 x2 k x9 z_.1)
 (Qp [2])
 (fun (x67, _) => Qc (x67) (Zdx3 x0 x2 k x9) (Zdx1 x0 x1 x2 k x9) (Qs [(6, .int .i64)] [] (fun z_ => Zdx2 k z_.1)
 Qz
 (fun (x6_1, _) => Qr)) Qk))
 (fun _ => Qs [(6, .int .i64)] [] (fun z_ => Zdx0 k z_.1)
 Qz
 (fun (x6, _) => Qr))))))))) h_
abbrev Zdy0 (k : (Bool → K)) (x4 : Bool) : K :=
 k x4
abbrev Zdy1 (a : OA) (at_1 : Int) (k : (Bool → K)) : K :=
 nn a fun x6 =>
 ldP (x6.add 3) fun x8 =>
 Yaw x8 at_1 fun x10 =>
 Zdy0 k x10
abbrev Yl6 (a : OA) (at_1 : Int) : M Bool := fun k =>
 Zdy1 a at_1 k
theorem Yi9 (a : OA) (at_1 : Int) (k : Bool → K) (w : World) (h_ : Yl6 a at_1 k w) : Ybp a at_1 k w :=
 Yae (P := Tryz.prog) Tryz.func27 rfl (by kernel_rfl)
 (Qs [] [0, 1] (fun z_ => Zdy1 a at_1 k)
 Qz
 (fun _ => Qs [(4, .bool)] [] (fun z_ => Zdy0 k z_.1)
 Qz
 (fun (x4, _) => Qr))) h_
abbrev Zdz0 (k : ((Int × Int) → K)) (x8 : Int) (x9 : Int) : K :=
 k (x8, x9)
abbrev Zdz1 (x0 : OA) (k : ((Int × Int) → K)) (x11 : Int) : K :=
 nn x0 fun x59 =>
 ldP (x59.add 3) fun x61 =>
 Ybl x61 x11 fun x63 =>
 Zdz0 k x11 0
abbrev Zdz2 (k : ((Int × Int) → K)) (x8_1 : Int) (x9_1 : Int) : K :=
 k (x8_1, x9_1)
abbrev Zdz3 (x0 : OA) (k : ((Int × Int) → K)) (x11 : Int) (x13 : Int) (x56 : Bool) : K :=
 brK x56
 (Zdz2 k 0 x13)
 (Zdz1 x0 k x11)
abbrev Zdz4 (x0 : OA) (k : ((Int × Int) → K)) (x11 : Int) (x13 : Int) : K :=
 Zdz3 x0 k x11 x13 (x13 != 0)
abbrev Zdz5 (x0 : OA) (k : ((Int × Int) → K)) (x10 : Addr) (x11 : Int) : K :=
 tick fun _ =>
 nn x0 fun x49 =>
 ldP (x49.add 1) fun x51 =>
 ldI .i64 (x10.add 0) fun x53_0 =>
 ldI .i64 (x10.add 1) fun x53_1 =>
 Yir x51 x11 (x53_0, x53_1) fun x54 =>
 Zdz4 x0 k x11 x54
abbrev Zdz6 (k : ((Int × Int) → K)) (x8_2 : Int) (x9_2 : Int) : K :=
 k (x8_2, x9_2)
abbrev Zdz7 (x0 : OA) (k : ((Int × Int) → K)) (x10 : Addr) (x11 : Int) (x12 : Int) (x46 : Bool) : K :=
 brK x46
 (Zdz6 k 0 x12)
 (Zdz5 x0 k x10 x11)
abbrev Zdz8 (x0 : OA) (k : ((Int × Int) → K)) (x10 : Addr) (x11 : Int) (x12 : Int) : K :=
 Zdz7 x0 k x10 x11 x12 (x12 != 0)
abbrev Zdz9 (x0 : OA) (x1 : Int) (k : ((Int × Int) → K)) (x10 : Addr) : K :=
 ldI .i64 (x10.add 0) fun x41_0 =>
 ldI .i64 (x10.add 1) fun x41_1 =>
 Yci x0 x1 (x41_0, x41_1) fun x42 =>
 Zdz8 x0 k x10 x42.1 x42.2
abbrev Zdz10 (k : ((Int × Int) → K)) (x8_3 : Int) (x9_3 : Int) : K :=
 k (x8_3, x9_3)
abbrev Zdz11 (k : ((Int × Int) → K)) (x8_4 : Int) (x9_4 : Int) : K :=
 k (x8_4, x9_4)
abbrev Zdz12 (x0 : OA) (x1 : Int) (k : ((Int × Int) → K)) (x10 : Addr) (x24 : Bool) : K :=
 brK x24
 (Zdz11 k 0 5)
 (Zdz9 x0 x1 k x10)
abbrev Zdz13 (x0 : OA) (x1 : Int) (k : ((Int × Int) → K)) (x10 : Addr) : K :=
 tick fun _ =>
 ldI .i64 (x10.add 0) fun x25_0 =>
 ldI .i64 (x10.add 1) fun x25_1 =>
 Yav (x25_0, x25_1) fun x26 =>
 brK (x26 == 0)
 (Zdz12 x0 x1 k x10 true)
 (ldI .i64 (x10.add 0) fun x29_0 =>
 ldI .i64 (x10.add 1) fun x29_1 =>
 nn x0 fun x32 =>
 ldI .i64 (Addr.add (x32.add 2) 0) fun x34_0 =>
 Yav (x29_0, x29_1) fun x30 =>
 chk [.cell (Addr.add (x32.add 2) 0) (.int .i64 x34_0)] fun _ =>
 Yeb x34_0 fun x35 =>
 Zdz12 x0 x1 k x10 (decide (x30 > x35)))
abbrev Zdz14 (x0 : OA) (x1 : Int) (k : ((Int × Int) → K)) (x10 : Addr) (x17 : Bool) : K :=
 brK x17
 (Zdz10 k 0 1)
 (Zdz13 x0 x1 k x10)
abbrev Zdz15 (x0 : OA) (x1 : Int) (k : ((Int × Int) → K)) (x10 : Addr) : K :=
 brK (decide (x1 < 0))
 (Zdz14 x0 x1 k x10 true)
 (Zdz14 x0 x1 k x10 (decide (x1 ≥ 4)))
abbrev Zdz16 (x0 : OA) (x1 : Int) (x2 : Int) (x3 : Int) (k : ((Int × Int) → K)) : K :=
 alK (.cells #[.int .i64 0, .int .i64 0] 68) fun b =>
 stK (Addr.add ⟨b, 0, none⟩ 0) (.int .i64 x2) <|
 stK (Addr.add ⟨b, 0, none⟩ 1) (.int .i64 x3) <|
 Zdz15 x0 x1 k ⟨b, 0, none⟩
abbrev Ylb (x0 : OA) (x1 : Int) (x2 : Int) (x3 : Int) : M (Int × Int) := fun k =>
 Zdz16 x0 x1 x2 x3 k
theorem Yia (x0 : OA) (x1 : Int) (x2 : Int) (x3 : Int) (k : (Int × Int) → K) (w : World) (h_ : Ylb x0 x1 x2 x3 k w) : Yb3 x0 x1 x2 x3 k w :=
 Yae (P := Tryz.prog) Tryz.func32 rfl (by kernel_rfl)
 (Qs [] [0, 1, 2, 3] (fun z_ => Zdz16 x0 x1 x2 x3 k)
 Qz
 (fun _ => Qs [(10, .addr)] [0, 1] (fun z_ => Zdz15 x0 x1 k z_.1)
 Qz
 (fun (x10, _) => Qs [] [0, 1, 10] (fun z_ => Zdz9 x0 x1 k x10)
 (Qb (Qs [(17, .bool)] [0, 1, 10] (fun z_ => Zdz14 x0 x1 k x10 z_.1)
 (Qp [2])
 (fun (x17, _) => Qc (x17) (Zdz10 k 0 1) (Zdz13 x0 x1 k x10) (Qs [(8, .int .i64), (9, .int .i64)] [] (fun z_ => Zdz10 k z_.1 z_.2.1)
 Qz
 (fun (x8_3, x9_3, _) => Qr)) (Qs [(24, .bool)] [0, 1, 10] (fun z_ => Zdz12 x0 x1 k x10 z_.1)
 (RefK.draw [3] [0, 1, 3, 7, 15, 31, 15, 79, 207, 463, 1023, 2047, 4095, 8191] [0, 1, 2, 3, 4, 6, 7, 8, 9, 5, 10, 11, 12, 13] [0, 1, 2, 3, 4, 5, 6, 7, 8, 9, 10, 11, 12, 13] (by kernel_rfl) (by kernel_rfl))
 (fun (x24, _) => Qc (x24) (Zdz11 k 0 5) (Zdz9 x0 x1 k x10) (Qs [(8, .int .i64), (9, .int .i64)] [] (fun z_ => Zdz11 k z_.1 z_.2.1)
 Qz
 (fun (x8_4, x9_4, _) => Qr)) Qk)))))
 (fun _ => Qs [(11, .int .i64), (12, .int .i64)] [0, 10] (fun z_ => Zdz8 x0 k x10 z_.1 z_.2.1)
 Qz
 (fun (x11, x12, _) => Qs [] [0, 10, 11] (fun z_ => Zdz5 x0 k x10 x11)
 (Qs [(46, .bool)] [0, 10, 11, 12] (fun z_ => Zdz7 x0 k x10 x11 x12 z_.1)
 Qz
 (fun (x46, _) => Qc (x46) (Zdz6 k 0 x12) (Zdz5 x0 k x10 x11) (Qs [(8, .int .i64), (9, .int .i64)] [] (fun z_ => Zdz6 k z_.1 z_.2.1)
 Qz
 (fun (x8_2, x9_2, _) => Qr)) Qk))
 (fun _ => Qs [] [0, 11] (fun z_ => Zdz1 x0 k x11)
 (Qs [(13, .int .i64)] [0, 11] (fun z_ => Zdz4 x0 k x11 z_.1)
 (RefK.draw [] [0, 1, 3, 7, 0, 0, 63, 127] [0, 1, 2, 3, 4, 5, 6, 7] [0, 1, 2, 3, 4, 5, 6, 7] (by kernel_rfl) (by kernel_rfl))
 (fun (x13, _) => Qs [(56, .bool)] [0, 11, 13] (fun z_ => Zdz3 x0 k x11 x13 z_.1)
 Qz
 (fun (x56, _) => Qc (x56) (Zdz2 k 0 x13) (Zdz1 x0 k x11) (Qs [(8, .int .i64), (9, .int .i64)] [] (fun z_ => Zdz2 k z_.1 z_.2.1)
 Qz
 (fun (x8_1, x9_1, _) => Qr)) Qk)))
 (fun _ => Qs [] [11] (fun z_ => Zdz0 k x11 0)
 Qz
 (fun _ => Qs [(8, .int .i64), (9, .int .i64)] [] (fun z_ => Zdz0 k z_.1 z_.2.1)
 Qz
 (fun (x8, x9, _) => Qr))))))))) h_
abbrev Zea0 (k : (((Int × Int) × Int) → K)) (x4 : Addr) (x5 : Int) : K :=
 ldI .i64 (x4.add 0) fun x4_0 =>
 ldI .i64 (x4.add 1) fun x4_1 =>
 k ((x4_0, x4_1), x5)
abbrev Zea1 (k : (((Int × Int) × Int) → K)) (x4 : Addr) (o : Addr) : K :=
 ldI .i64 (o.add 0) fun x37_0 =>
 ldI .i64 (o.add 1) fun x37_1 =>
 stK (x4.add 0) (.int .i64 x37_0) <|
 stK (x4.add 1) (.int .i64 x37_1) <|
 Zea0 k x4 0
abbrev Zea2 (k : (((Int × Int) × Int) → K)) (x4 : Addr) (x5_1 : Int) : K :=
 ldI .i64 (x4.add 0) fun x4_0_1 =>
 ldI .i64 (x4.add 1) fun x4_1_1 =>
 k ((x4_0_1, x4_1_1), x5_1)
abbrev Zea3 (k : (((Int × Int) × Int) → K)) (x4 : Addr) : K :=
 stK (x4.add 0) (.int .i64 0) <|
 stK (x4.add 1) (.int .i64 0) <|
 Zea2 k x4 22
abbrev Zea4 (k : (((Int × Int) × Int) → K)) (x4 : Addr) (o : Addr) (x35 : Bool) : K :=
 brK x35
 (Zea3 k x4)
 (Zea1 k x4 o)
abbrev Zea5 (d : OA) (at_1 : Int) (k : (((Int × Int) × Int) → K)) (x4 : Addr) (o : Addr) (e : Int) : K :=
 brK (e != 0)
 (Zea4 k x4 o true)
 (ldI .i64 (o.add 0) fun x28_0 =>
 ldI .i64 (o.add 1) fun x28_1 =>
 Yav (x28_0, x28_1) fun x29 =>
 Yat d fun x31 =>
 Zea4 k x4 o (decide (x29 > (IntKind.wrap .i64 (x31 - at_1)))))
abbrev Zea6 (d : OA) (at_1 : Int) (k : (((Int × Int) × Int) → K)) (x4 : Addr) : K :=
 Ybw d at_1 fun x21 =>
 Yhl at_1 x21 fun x22 =>
 alK (.cells #[.int .i64 0, .int .i64 0] 68) fun b =>
 stK (Addr.add ⟨b, 0, none⟩ 0) (.int .i64 x22.1.1) <|
 stK (Addr.add ⟨b, 0, none⟩ 1) (.int .i64 x22.1.2) <|
 Zea5 d at_1 k x4 ⟨b, 0, none⟩ x22.2
abbrev Zea7 (k : (((Int × Int) × Int) → K)) (x4 : Addr) (x5_2 : Int) : K :=
 ldI .i64 (x4.add 0) fun x4_0_2 =>
 ldI .i64 (x4.add 1) fun x4_1_2 =>
 k ((x4_0_2, x4_1_2), x5_2)
abbrev Zea8 (k : (((Int × Int) × Int) → K)) (x4 : Addr) : K :=
 stK (x4.add 0) (.int .i64 0) <|
 stK (x4.add 1) (.int .i64 0) <|
 Zea7 k x4 22
abbrev Zea9 (d : OA) (at_1 : Int) (k : (((Int × Int) × Int) → K)) (x4 : Addr) (x15 : Bool) : K :=
 brK x15
 (Zea8 k x4)
 (Zea6 d at_1 k x4)
abbrev Zea10 (d : OA) (at_1 : Int) (k : (((Int × Int) × Int) → K)) (x4 : Addr) : K :=
 brK (decide (at_1 < 0))
 (Zea9 d at_1 k x4 true)
 (Yat d fun x13 =>
 Zea9 d at_1 k x4 (decide (at_1 ≥ x13)))
abbrev Yru (d : OA) (at_1 : Int) : M ((Int × Int) × Int) := fun k =>
 alK (.cells #[.int .i64 0, .int .i64 0] 68) fun b_1 =>
 Zea10 d at_1 k ⟨b_1, 0, none⟩
theorem Yti (d : OA) (at_1 : Int) (k : ((Int × Int) × Int) → K) (w : World) (h_ : Yru d at_1 k w) : Ye0 d at_1 k w :=
 Yae (P := Tryz.prog) Tryz.func55 rfl (by kernel_rfl)
 (Qs [(4, .addr)] [0, 1] (fun z_ => Zea10 d at_1 k z_.1)
 Qz
 (fun (x4, _) => Qs [] [0, 1, 4] (fun z_ => Zea6 d at_1 k x4)
 (Qs [(15, .bool)] [0, 1, 4] (fun z_ => Zea9 d at_1 k x4 z_.1)
 (Qp [2])
 (fun (x15, _) => Qc (x15) (Zea8 k x4) (Zea6 d at_1 k x4) (Qs [(5, .int .i64)] [4] (fun z_ => Zea7 k x4 z_.1)
 Qz
 (fun (x5_2, _) => Qr)) Qk))
 (fun _ => Qs [(6, .addr), (7, .int .i64)] [0, 1, 4] (fun z_ => Zea5 d at_1 k x4 z_.1 z_.2.1)
 Qz
 (fun (o, e, _) => Qs [] [4, 6] (fun z_ => Zea1 k x4 o)
 (Qs [(35, .bool)] [4, 6] (fun z_ => Zea4 k x4 o z_.1)
 (Qp [2])
 (fun (x35, _) => Qc (x35) (Zea3 k x4) (Zea1 k x4 o) (Qs [(5, .int .i64)] [4] (fun z_ => Zea2 k x4 z_.1)
 Qz
 (fun (x5_1, _) => Qr)) Qk))
 (fun _ => Qs [(5, .int .i64)] [4] (fun z_ => Zea0 k x4 z_.1)
 Qz
 (fun (x5, _) => Qr)))))) h_
abbrev Zeb0 (k : (((Int × Int) × Bool) → K)) (x8 : Addr) (x9 : Bool) : K :=
 ldI .i64 (x8.add 0) fun x8_0 =>
 ldI .i64 (x8.add 1) fun x8_1 =>
 k ((x8_0, x8_1), x9)
abbrev Zeb1 (x3 : Int) (k : (((Int × Int) × Bool) → K)) (x5 : Addr) (x8 : Addr) (x10 : Int) (x11 : Addr) (x18 : Int) (x19 : Bool) : K :=
 tick fun _ =>
 ldI .i64 (x11.add 0) fun x72_0 =>
 ldI .i64 (x11.add 1) fun x72_1 =>
 brK x19
 (ldI .i64 (x5.add 0) fun x76_0 =>
 Yba x76_0 x10 fun x78 =>
 chk [.cell (x11.add 0) (.int .i64 x72_0), .cell (x11.add 1) (.int .i64 x72_1)] fun _ =>
 brK (x3 == x78)
 (ldI .i64 (x11.add 0) fun x83_0 =>
 ldI .i64 (x11.add 1) fun x83_1 =>
 Ycn (x83_0, x83_1) fun x84 =>
 chk [.cell (x11.add 0) (.int .i64 x72_0), .cell (x11.add 1) (.int .i64 x72_1)] fun _ =>
 stK (x8.add 0) (.int .i64 x72_0) <|
 stK (x8.add 1) (.int .i64 x72_1) <|
 Zeb0 k x8 (x18 == x84))
 (stK (x8.add 0) (.int .i64 x72_0) <|
 stK (x8.add 1) (.int .i64 x72_1) <|
 Zeb0 k x8 false))
 (stK (x8.add 0) (.int .i64 x72_0) <|
 stK (x8.add 1) (.int .i64 x72_1) <|
 Zeb0 k x8 false)
abbrev Zeb2 (x2 : Sl) (x3 : Int) (k : (((Int × Int) × Bool) → K)) (x5 : Addr) (x8 : Addr) (x10 : Int) (x11 : Addr) : K :=
 Ygl x2 x10 fun x69 =>
 Zeb1 x3 k x5 x8 x10 x11 x69.1 x69.2
abbrev Zeb3 (k : (((Int × Int) × Bool) → K)) (x8 : Addr) (x9_1 : Bool) : K :=
 ldI .i64 (x8.add 0) fun x8_0_1 =>
 ldI .i64 (x8.add 1) fun x8_1_1 =>
 k ((x8_0_1, x8_1_1), x9_1)
abbrev Zeb4 (k : (((Int × Int) × Bool) → K)) (x8 : Addr) (x11 : Addr) (x13 : Addr) (x14 : Int) (x17 : Bool) : K :=
 tick fun _ =>
 ldI .i64 (x11.add 0) fun x58_0 =>
 ldI .i64 (x11.add 1) fun x58_1 =>
 brK x17
 (ldI .i64 (x13.add 0) fun x61_0 =>
 ldI .i64 (x13.add 1) fun x61_1 =>
 ldI .i64 (x13.add 2) fun x61_2 =>
 stK (x8.add 0) (.int .i64 x58_0) <|
 stK (x8.add 1) (.int .i64 x58_1) <|
 chk [.cell (x13.add 0) (.int .i64 x61_0), .cell (x13.add 1) (.int .i64 x61_1), .cell (x13.add 2) (.int .i64 x61_2)] fun _ =>
 Zeb3 k x8 ((x61_0 == 1) && ((x61_1 == x14) && ((x61_2 == 0) && true))))
 (stK (x8.add 0) (.int .i64 x58_0) <|
 stK (x8.add 1) (.int .i64 x58_1) <|
 Zeb3 k x8 false)
abbrev Zeb5 (x3 : Int) (k : (((Int × Int) × Bool) → K)) (x5 : Addr) (x8 : Addr) (x11 : Addr) (x13 : Addr) (x14 : Int) : K :=
 ldI .i64 (x5.add 0) fun x52_0 =>
 Yo6 x52_0 x14 x3 fun x55 =>
 alK (.cells #[.int .i64 0, .int .i64 0] 168) fun b =>
 stK (Addr.add ⟨b, 0, none⟩ 0) (.int .i64 x55.1.1) <|
 stK (Addr.add ⟨b, 0, none⟩ 1) (.int .i64 x55.1.2) <|
 Zeb4 k x8 x11 x13 x14 x55.2
abbrev Zeb6 (x2 : Sl) (x3 : Int) (k : (((Int × Int) × Bool) → K)) (x5 : Addr) (x8 : Addr) (x10 : Int) (x11 : Addr) (x13 : Addr) (x14 : Int) (x50 : Bool) : K :=
 brK x50
 (Zeb5 x3 k x5 x8 x11 x13 x14)
 (Zeb2 x2 x3 k x5 x8 x10 x11)
abbrev Zeb7 (x2 : Sl) (x3 : Int) (k : (((Int × Int) × Bool) → K)) (x5 : Addr) (x8 : Addr) (x10 : Int) (x11 : Addr) (x13 : Addr) (x14 : Int) (x15 : Bool) : K :=
 Zeb6 x2 x3 k x5 x8 x10 x11 x13 x14 x15
abbrev Zeb8 (x2 : Sl) (x3 : Int) (k : (((Int × Int) × Bool) → K)) (x5 : Addr) (x8 : Addr) (x10 : Int) (x11 : Addr) (x13 : Addr) : K :=
 ldI .i64 (x11.add 0) fun x46_0 =>
 ldI .i64 (x11.add 1) fun x46_1 =>
 Ybj (x46_0, x46_1) fun x47 =>
 Zeb7 x2 x3 k x5 x8 x10 x11 x13 x47.1 x47.2
abbrev Zeb9 (x2 : Sl) (x3 : Int) (k : (((Int × Int) × Bool) → K)) (x5 : Addr) (x8 : Addr) (x10 : Int) (x11 : Addr) : K :=
 ixS x2.p x2.n x10 3 fun x43 =>
 ldI .i64 (x43.add 0) fun x44_0 =>
 ldI .i64 (x43.add 1) fun x44_1 =>
 ldI .i64 (x43.add 2) fun x44_2 =>
 alK (.cells #[.int .i64 0, .int .i64 0, .int .i64 0] 143) fun b_1 =>
 stK (Addr.add ⟨b_1, 0, none⟩ 0) (.int .i64 x44_0) <|
 stK (Addr.add ⟨b_1, 0, none⟩ 1) (.int .i64 x44_1) <|
 stK (Addr.add ⟨b_1, 0, none⟩ 2) (.int .i64 x44_2) <|
 Zeb8 x2 x3 k x5 x8 x10 x11 ⟨b_1, 0, none⟩
abbrev Zeb10 (k : (((Int × Int) × Bool) → K)) (x8 : Addr) (x9_2 : Bool) : K :=
 ldI .i64 (x8.add 0) fun x8_0_2 =>
 ldI .i64 (x8.add 1) fun x8_1_2 =>
 k ((x8_0_2, x8_1_2), x9_2)
abbrev Zeb11 (k : (((Int × Int) × Bool) → K)) (x8 : Addr) : K :=
 stK (x8.add 0) (.int .i64 0) <|
 stK (x8.add 1) (.int .i64 0) <|
 Zeb10 k x8 false
abbrev Zeb12 (x2 : Sl) (x3 : Int) (k : (((Int × Int) × Bool) → K)) (x5 : Addr) (x8 : Addr) (x10 : Int) (x11 : Addr) (x39 : Bool) : K :=
 brK x39
 (Zeb11 k x8)
 (Zeb9 x2 x3 k x5 x8 x10 x11)
abbrev Zeb13 (x2 : Sl) (x3 : Int) (k : (((Int × Int) × Bool) → K)) (x5 : Addr) (x8 : Addr) (x10 : Int) (x11 : Addr) (x12 : Int) : K :=
 Zeb12 x2 x3 k x5 x8 x10 x11 (x12 != 0)
abbrev Zeb14 (x0 : OA) (x2 : Sl) (x3 : Int) (k : (((Int × Int) × Bool) → K)) (x5 : Addr) (x8 : Addr) (x10 : Int) : K :=
 Ye0 x0 x3 fun x35 =>
 alK (.cells #[.int .i64 0, .int .i64 0] 68) fun b_2 =>
 stK (Addr.add ⟨b_2, 0, none⟩ 0) (.int .i64 x35.1.1) <|
 stK (Addr.add ⟨b_2, 0, none⟩ 1) (.int .i64 x35.1.2) <|
 Zeb13 x2 x3 k x5 x8 x10 ⟨b_2, 0, none⟩ x35.2
abbrev Zeb15 (k : (((Int × Int) × Bool) → K)) (x8 : Addr) (x9_3 : Bool) : K :=
 ldI .i64 (x8.add 0) fun x8_0_3 =>
 ldI .i64 (x8.add 1) fun x8_1_3 =>
 k ((x8_0_3, x8_1_3), x9_3)
abbrev Zeb16 (k : (((Int × Int) × Bool) → K)) (x8 : Addr) : K :=
 stK (x8.add 0) (.int .i64 0) <|
 stK (x8.add 1) (.int .i64 0) <|
 Zeb15 k x8 false
abbrev Zeb17 (x0 : OA) (x2 : Sl) (x3 : Int) (k : (((Int × Int) × Bool) → K)) (x5 : Addr) (x8 : Addr) (x10 : Int) (x30 : Bool) : K :=
 brK x30
 (Zeb16 k x8)
 (Zeb14 x0 x2 x3 k x5 x8 x10)
abbrev Zeb18 (x0 : OA) (x2 : Sl) (x3 : Int) (k : (((Int × Int) × Bool) → K)) (x5 : Addr) (x8 : Addr) (x10 : Int) : K :=
 brK (decide (x10 < 1))
 (Zeb17 x0 x2 x3 k x5 x8 x10 true)
 (Zeb17 x0 x2 x3 k x5 x8 x10 (decide (x10 ≥ ((x2.n : Nat) : Int))))
abbrev Zeb19 (x0 : OA) (x2 : Sl) (x3 : Int) (k : (((Int × Int) × Bool) → K)) (x5 : Addr) (x8 : Addr) : K :=
 ldI .i64 (x5.add 0) fun x20_0 =>
 Ya3 x20_0 x3 fun x22 =>
 Zeb18 x0 x2 x3 k x5 x8 x22
abbrev Yxe (x0 : OA) (x1 : Int) (x2 : Sl) (x3 : Int) : M ((Int × Int) × Bool) := fun k =>
 alK (.cells #[.int .i64 x1] 43) fun b_3 =>
 alK (.cells #[.int .i64 0, .int .i64 0] 68) fun b_4 =>
 Zeb19 x0 x2 x3 k ⟨b_3, 0, none⟩ ⟨b_4, 0, none⟩
theorem Yrv (x0 : OA) (x1 : Int) (x2 : Sl) (x3 : Int) (k : ((Int × Int) × Bool) → K) (w : World) (h_ : Yxe x0 x1 x2 x3 k w) : Yhk x0 x1 x2 x3 k w :=
 Yae (P := Tryz.prog) Tryz.func56 rfl (by kernel_rfl)
 (Qs [(5, .addr), (8, .addr)] [0, 2, 3] (fun z_ => Zeb19 x0 x2 x3 k z_.1 z_.2.1)
 Qz
 (fun (x5, x8, _) => Qs [(10, .int .i64)] [0, 2, 3, 5, 8] (fun z_ => Zeb18 x0 x2 x3 k x5 x8 z_.1)
 Qz
 (fun (x10, _) => Qs [] [0, 2, 3, 5, 8, 10] (fun z_ => Zeb14 x0 x2 x3 k x5 x8 x10)
 (Qs [(30, .bool)] [0, 2, 3, 5, 8, 10] (fun z_ => Zeb17 x0 x2 x3 k x5 x8 x10 z_.1)
 (Qp [2])
 (fun (x30, _) => Qc (x30) (Zeb16 k x8) (Zeb14 x0 x2 x3 k x5 x8 x10) (Qs [(9, .bool)] [8] (fun z_ => Zeb15 k x8 z_.1)
 Qz
 (fun (x9_3, _) => Qr)) Qk))
 (fun _ => Qs [(11, .addr), (12, .int .i64)] [2, 3, 5, 8, 10] (fun z_ => Zeb13 x2 x3 k x5 x8 x10 z_.1 z_.2.1)
 Qz
 (fun (x11, x12, _) => Qs [] [2, 3, 5, 8, 10, 11] (fun z_ => Zeb9 x2 x3 k x5 x8 x10 x11)
 (Qs [(39, .bool)] [2, 3, 5, 8, 10, 11] (fun z_ => Zeb12 x2 x3 k x5 x8 x10 x11 z_.1)
 Qz
 (fun (x39, _) => Qc (x39) (Zeb11 k x8) (Zeb9 x2 x3 k x5 x8 x10 x11) (Qs [(9, .bool)] [8] (fun z_ => Zeb10 k x8 z_.1)
 Qz
 (fun (x9_2, _) => Qr)) Qk))
 (fun _ => Qs [(13, .addr)] [2, 3, 5, 8, 10, 11] (fun z_ => Zeb8 x2 x3 k x5 x8 x10 x11 z_.1)
 Qz
 (fun (x13, _) => Qs [(14, .int .i64), (15, .bool)] [2, 3, 5, 8, 10, 11, 13] (fun z_ => Zeb7 x2 x3 k x5 x8 x10 x11 x13 z_.1 z_.2.1)
 Qz
 (fun (x14, x15, _) => Qs [] [2, 3, 5, 8, 10, 11] (fun z_ => Zeb2 x2 x3 k x5 x8 x10 x11)
 (Qs [(50, .bool)] [2, 3, 5, 8, 10, 11, 13, 14] (fun z_ => Zeb6 x2 x3 k x5 x8 x10 x11 x13 x14 z_.1)
 Qz
 (fun (x50, _) => Qc (x50) (Zeb5 x3 k x5 x8 x11 x13 x14) (Zeb2 x2 x3 k x5 x8 x10 x11) (Qs [(17, .bool)] [8, 11, 13, 14] (fun z_ => Zeb4 k x8 x11 x13 x14 z_.1)
 Qz
 (fun (x17, _) => Qs [(9, .bool)] [8] (fun z_ => Zeb3 k x8 z_.1)
 (RefK.draw [2] [0, 0, 2, 6, 6, 22, 62, 126, 7, 511] [0, 1, 2, 3, 4, 5, 6, 7, 8, 9] [0, 1, 2, 8, 3, 4, 5, 6, 7, 9] (by kernel_rfl) (by kernel_rfl))
 (fun (x9_1, _) => Qr))) Qk))
 (fun _ => Qs [(18, .int .i64), (19, .bool)] [3, 5, 8, 10, 11] (fun z_ => Zeb1 x3 k x5 x8 x10 x11 z_.1 z_.2.1)
 Qz
 (fun (x18, x19, _) => Qs [(9, .bool)] [8] (fun z_ => Zeb0 k x8 z_.1)
 (RefK.draw [2, 9] [0, 0, 2, 6, 6, 6, 54, 126, 254, 510, 1022, 1022, 3070, 8190, 16382, 7167, 65535] [0, 1, 2, 3, 4, 5, 6, 7, 8, 9, 10, 11, 12, 13, 14, 15, 16] [0, 1, 2, 3, 4, 5, 6, 7, 8, 9, 11, 12, 15, 10, 13, 14, 16] (by kernel_rfl) (by kernel_rfl))
 (fun (x9, _) => Qr))))))))))) h_
abbrev Zec0 (k : ((Int × Int) → K)) (x6 : Int) (x7 : Int) : K :=
 k (x6, x7)
abbrev Zec1 (d : OA) (k : ((Int × Int) → K)) (p : Int) : K :=
 Ybw d p fun x22 =>
 Zec0 k (IntKind.wrap .i64 (min2I x22 1099511627776)) 0
abbrev Zec2 (k : ((Int × Int) → K)) (x6_1 : Int) (x7_1 : Int) : K :=
 k (x6_1, x7_1)
abbrev Zec3 (d : OA) (k : ((Int × Int) → K)) (p : Int) (e : Int) (x18 : Bool) : K :=
 brK x18
 (Zec2 k 0 e)
 (Zec1 d k p)
abbrev Zec4 (d : OA) (k : ((Int × Int) → K)) (p : Int) (e : Int) : K :=
 Zec3 d k p e (e != 0)
abbrev Zec5 (d : OA) (at_1 : Int) (i : Int) (k : ((Int × Int) → K)) : K :=
 Yfo d at_1 i false fun x14 =>
 Zec4 d k x14.1 x14.2
abbrev Yub (d : OA) (at_1 : Int) (i : Int) : M (Int × Int) := fun k =>
 Zec5 d at_1 i k
theorem Yvl (d : OA) (at_1 : Int) (i : Int) (k : (Int × Int) → K) (w : World) (h_ : Yub d at_1 i k w) : Yfu d at_1 i k w :=
 Yae (P := Tryz.prog) Tryz.func64 rfl (by kernel_rfl)
 (Qs [] [0, 1, 2] (fun z_ => Zec5 d at_1 i k)
 Qz
 (fun _ => Qs [(8, .int .i64), (9, .int .i64)] [0] (fun z_ => Zec4 d k z_.1 z_.2.1)
 Qz
 (fun (p, e, _) => Qs [] [0, 8] (fun z_ => Zec1 d k p)
 (Qs [(18, .bool)] [0, 8, 9] (fun z_ => Zec3 d k p e z_.1)
 Qz
 (fun (x18, _) => Qc (x18) (Zec2 k 0 e) (Zec1 d k p) (Qs [(6, .int .i64), (7, .int .i64)] [] (fun z_ => Zec2 k z_.1 z_.2.1)
 Qz
 (fun (x6_1, x7_1, _) => Qr)) Qk))
 (fun _ => Qs [(6, .int .i64), (7, .int .i64)] [] (fun z_ => Zec0 k z_.1 z_.2.1)
 Qz
 (fun (x6, x7, _) => Qr))))) h_
abbrev Zed0 (k : (Int → K)) (x8 : Int) : K :=
 k x8
abbrev Zed1 (d : OA) (to : Int) (k : (Int → K)) (p : Int) : K :=
 Ya5 d p (IntKind.wrap .u64 to) fun x29 =>
 Zed0 k x29
abbrev Zed2 (k : (Int → K)) (x8_1 : Int) : K :=
 k x8_1
abbrev Zed3 (k : (Int → K)) (x8_2 : Int) : K :=
 k x8_2
abbrev Zed4 (d : OA) (to : Int) (k : (Int → K)) (p : Int) (x22 : Bool) : K :=
 brK x22
 (Zed3 k 1)
 (Zed1 d to k p)
abbrev Zed5 (d : OA) (to : Int) (k : (Int → K)) (p : Int) (e : Int) (x18 : Bool) : K :=
 brK x18
 (Zed2 k e)
 (Zed4 d to k p (decide (to < 0)))
abbrev Zed6 (d : OA) (to : Int) (k : (Int → K)) (p : Int) (e : Int) : K :=
 Zed5 d to k p e (e != 0)
abbrev Zed7 (d : OA) (at_1 : Int) (i : Int) (to : Int) (k : (Int → K)) : K :=
 Yfo d at_1 i false fun x15 =>
 Zed6 d to k x15.1 x15.2
abbrev Yom (d : OA) (at_1 : Int) (i : Int) (to : Int) : M Int := fun k =>
 Zed7 d at_1 i to k
theorem Yqt (d : OA) (at_1 : Int) (i : Int) (to : Int) (k : Int → K) (w : World) (h_ : Yom d at_1 i to k w) : Ye1 d at_1 i to k w :=
 Yae (P := Tryz.prog) Tryz.func66 rfl (by kernel_rfl)
 (Qs [] [0, 1, 2, 3] (fun z_ => Zed7 d at_1 i to k)
 Qz
 (fun _ => Qs [(9, .int .i64), (10, .int .i64)] [0, 3] (fun z_ => Zed6 d to k z_.1 z_.2.1)
 Qz
 (fun (p, e, _) => Qs [] [0, 3, 9] (fun z_ => Zed1 d to k p)
 (Qb (Qs [(18, .bool)] [0, 3, 9, 10] (fun z_ => Zed5 d to k p e z_.1)
 Qz
 (fun (x18, _) => Qc (x18) (Zed2 k e) (Zed4 d to k p (decide (to < 0))) (Qs [(8, .int .i64)] [] (fun z_ => Zed2 k z_.1)
 Qz
 (fun (x8_1, _) => Qr)) (Qs [(22, .bool)] [0, 3, 9] (fun z_ => Zed4 d to k p z_.1)
 Qz
 (fun (x22, _) => Qc (x22) (Zed3 k 1) (Zed1 d to k p) (Qs [(8, .int .i64)] [] (fun z_ => Zed3 k z_.1)
 Qz
 (fun (x8_2, _) => Qr)) Qk)))))
 (fun _ => Qs [(8, .int .i64)] [] (fun z_ => Zed0 k z_.1)
 Qz
 (fun (x8, _) => Qr))))) h_
abbrev Zee0 (k : (((Int × Int) × Bool) → K)) (x4 : Addr) (x5 : Bool) : K :=
 ldI .i64 (x4.add 0) fun x4_0 =>
 ldI .i64 (x4.add 1) fun x4_1 =>
 k ((x4_0, x4_1), x5)
abbrev Zee1 (a : OA) (at_1 : Int) (k : (((Int × Int) × Bool) → K)) (x4 : Addr) : K :=
 tick fun _ =>
 nn a fun x7 =>
 ldP (x7.add 1) fun x9 =>
 nn a fun x11 =>
 ldI .i64 (Addr.add (x11.add 2) 0) fun x13_0 =>
 nn a fun x15 =>
 ldP (x15.add 0) fun x17 =>
 nn x17 fun x18 =>
 ldP (x18.add 0) fun x20 =>
 Ydp x20 fun x21 =>
 chk [.cell (Addr.add (x11.add 2) 0) (.int .i64 x13_0), .cell (x7.add 1) (.pointer x9)] fun _ =>
 Yhk x9 x13_0 x21 at_1 fun x23 =>
 stK (x4.add 0) (.int .i64 x23.1.1) <|
 stK (x4.add 1) (.int .i64 x23.1.2) <|
 Zee0 k x4 x23.2
abbrev Ylc (a : OA) (at_1 : Int) : M ((Int × Int) × Bool) := fun k =>
 alK (.cells #[.int .i64 0, .int .i64 0] 68) fun b =>
 Zee1 a at_1 k ⟨b, 0, none⟩
theorem Yib (a : OA) (at_1 : Int) (k : ((Int × Int) × Bool) → K) (w : World) (h_ : Ylc a at_1 k w) : Yb4 a at_1 k w :=
 Yae (P := Tryz.prog) Tryz.func76 rfl (by kernel_rfl)
 (Qs [(4, .addr)] [0, 1] (fun z_ => Zee1 a at_1 k z_.1)
 Qz
 (fun (x4, _) => Qs [(5, .bool)] [4] (fun z_ => Zee0 k x4 z_.1)
 (RefK.draw [] [0, 1, 3, 7, 0, 16, 48, 112, 0, 256, 768, 1792, 3840, 7936, 16128, 32512, 0, 131071, 262143, 262143, 1048575, 2097151] [0, 1, 2, 3, 4, 5, 6, 7, 8, 9, 10, 11, 12, 13, 14, 16, 15, 17, 18, 19, 20, 21] [0, 1, 2, 3, 4, 5, 6, 7, 8, 9, 10, 11, 12, 13, 14, 15, 16, 17, 18, 19, 20, 21] (by kernel_rfl) (by kernel_rfl))
 (fun (x5, _) => Qr))) h_
abbrev Zef0 (k : ((Int × Int) → K)) (x6 : Int) (x7 : Int) : K :=
 k (x6, x7)
abbrev Zef1 (x0 : OA) (x1 : Int) (k : ((Int × Int) → K)) (x8 : Int) : K :=
 Yb5 x0 x1 x8 fun x86 =>
 Zef0 k x86.1 x86.2
abbrev Zef2 (k : ((Int × Int) → K)) (x6_1 : Int) (x7_1 : Int) : K :=
 k (x6_1, x7_1)
abbrev Zef3 (x0 : OA) (x1 : Int) (k : ((Int × Int) → K)) (x8 : Int) : K :=
 nn x0 fun x72 =>
 ldP (x72.add 4) fun x74 =>
 Yc6 x74 x1 x8 fun x77 =>
 Zef2 k x77.1 x77.2
abbrev Zef4 (k : ((Int × Int) → K)) (x6_2 : Int) (x7_2 : Int) : K :=
 k (x6_2, x7_2)
abbrev Zef5 (x0 : OA) (x1 : Int) (k : ((Int × Int) → K)) (x8 : Int) (x15 : Int) (x81 : Bool) : K :=
 brK x81
 (Zef4 k 0 x15)
 (Zef1 x0 x1 k x8)
abbrev Zef6 (x0 : OA) (x1 : Int) (k : ((Int × Int) → K)) (x8 : Int) (x14 : Int) : K :=
 Ybh x0 x14 x8 fun x70 =>
 Zef3 x0 x1 k x8
abbrev Zef7 (x0 : OA) (x1 : Int) (k : ((Int × Int) → K)) (x8 : Int) (x14 : Int) (x15 : Int) (x66 : Bool) : K :=
 brK x66
 (Zef6 x0 x1 k x8 x14)
 (Zef5 x0 x1 k x8 x15 (x15 != 4))
abbrev Zef8 (x0 : OA) (x1 : Int) (k : ((Int × Int) → K)) (x8 : Int) (x14 : Int) (x15 : Int) : K :=
 Zef7 x0 x1 k x8 x14 x15 (x15 == 0)
abbrev Zef9 (x0 : OA) (x1 : Int) (k : ((Int × Int) → K)) (x8 : Int) : K :=
 nn x0 fun x58 =>
 ldP (x58.add 0) fun x60 =>
 Yed x60 x8 fun x62 =>
 Zef8 x0 x1 k x8 x62.1 x62.2
abbrev Zef10 (k : ((Int × Int) → K)) (x6_3 : Int) (x7_3 : Int) : K :=
 k (x6_3, x7_3)
abbrev Zef11 (x0 : OA) (x1 : Int) (k : ((Int × Int) → K)) (x8 : Int) (x12 : Int) (x13 : Int) (x53 : Bool) : K :=
 brK x53
 (Zef10 k x12 x13)
 (Zef9 x0 x1 k x8)
abbrev Zef12 (x0 : OA) (x1 : Int) (k : ((Int × Int) → K)) (x8 : Int) (x12 : Int) (x13 : Int) : K :=
 Zef11 x0 x1 k x8 x12 x13 (x13 == 0)
abbrev Zef13 (x0 : OA) (x1 : Int) (k : ((Int × Int) → K)) (x8 : Int) : K :=
 nn x0 fun x44 =>
 ldP (x44.add 4) fun x46 =>
 Yc6 x46 x1 x8 fun x49 =>
 Zef12 x0 x1 k x8 x49.1 x49.2
abbrev Zef14 (k : ((Int × Int) → K)) (x6_4 : Int) (x7_4 : Int) : K :=
 k (x6_4, x7_4)
abbrev Zef15 (x0 : OA) (k : ((Int × Int) → K)) (x10 : Int) : K :=
 nn x0 fun x37 =>
 ldI .i64 (Addr.add (x37.add 2) 0) fun x39_0 =>
 Yba x39_0 x10 fun x41 =>
 Zef14 k x41 0
abbrev Zef16 (k : ((Int × Int) → K)) (x6_5 : Int) (x7_5 : Int) : K :=
 k (x6_5, x7_5)
abbrev Zef17 (x0 : OA) (k : ((Int × Int) → K)) (x10 : Int) (x11 : Int) (x34 : Bool) : K :=
 brK x34
 (Zef16 k 0 x11)
 (Zef15 x0 k x10)
abbrev Zef18 (x0 : OA) (k : ((Int × Int) → K)) (x10 : Int) (x11 : Int) : K :=
 Zef17 x0 k x10 x11 (x11 != 0)
abbrev Zef19 (x0 : OA) (k : ((Int × Int) → K)) (x5 : Addr) : K :=
 tick fun _ =>
 nn x0 fun x25 =>
 ldP (x25.add 0) fun x27 =>
 ldI .i64 (x5.add 0) fun x28_0 =>
 ldI .i64 (x5.add 1) fun x28_1 =>
 Ycn (x28_0, x28_1) fun x29 =>
 chk [.cell (x25.add 0) (.pointer x27)] fun _ =>
 Yec x27 x29 fun x30 =>
 Zef18 x0 k x30.1 x30.2
abbrev Zef20 (x0 : OA) (x1 : Int) (k : ((Int × Int) → K)) (x5 : Addr) (x8 : Int) (x22 : Bool) : K :=
 brK x22
 (Zef19 x0 k x5)
 (Zef13 x0 x1 k x8)
abbrev Zef21 (x0 : OA) (x1 : Int) (k : ((Int × Int) → K)) (x5 : Addr) (x8 : Int) (x9 : Bool) : K :=
 Zef20 x0 x1 k x5 x8 (!x9)
abbrev Zef22 (x0 : OA) (x1 : Int) (k : ((Int × Int) → K)) (x5 : Addr) : K :=
 ldI .i64 (x5.add 0) fun x17_0 =>
 ldI .i64 (x5.add 1) fun x17_1 =>
 Ybj (x17_0, x17_1) fun x18 =>
 Zef21 x0 x1 k x5 x18.1 x18.2
abbrev Yeh (x0 : OA) (x1 : Int) (x2 : (Int × Int)) : M (Int × Int) := fun k =>
 alK (.cells #[.int .i64 x2.1, .int .i64 x2.2] 68) fun b =>
 Zef22 x0 x1 k ⟨b, 0, none⟩
theorem Yff (x0 : OA) (x1 : Int) (x2 : (Int × Int)) (k : (Int × Int) → K) (w : World) (h_ : Yeh x0 x1 x2 k w) : Yci x0 x1 x2 k w :=
 Yae (P := Tryz.prog) Tryz.func89 rfl (by kernel_rfl)
 (Qs [(5, .addr)] [0, 1] (fun z_ => Zef22 x0 x1 k z_.1)
 Qz
 (fun (x5, _) => Qs [(8, .int .i64), (9, .bool)] [0, 1, 5] (fun z_ => Zef21 x0 x1 k x5 z_.1 z_.2.1)
 Qz
 (fun (x8, x9, _) => Qs [] [0, 1, 8] (fun z_ => Zef13 x0 x1 k x8)
 (Qs [(22, .bool)] [0, 1, 5, 8] (fun z_ => Zef20 x0 x1 k x5 x8 z_.1)
 Qz
 (fun (x22, _) => Qc (x22) (Zef19 x0 k x5) (Zef13 x0 x1 k x8) (Qs [(10, .int .i64), (11, .int .i64)] [0] (fun z_ => Zef18 x0 k z_.1 z_.2.1)
 (RefK.draw [] [0, 1, 3, 7, 0, 16, 63, 127, 255, 255, 511, 2047] [0, 1, 2, 3, 4, 5, 6, 7, 8, 9, 10, 11] [0, 1, 2, 3, 4, 5, 6, 7, 8, 10, 9, 11] (by kernel_rfl) (by kernel_rfl))
 (fun (x10, x11, _) => Qs [] [0, 10] (fun z_ => Zef15 x0 k x10)
 (Qs [(34, .bool)] [0, 10, 11] (fun z_ => Zef17 x0 k x10 x11 z_.1)
 Qz
 (fun (x34, _) => Qc (x34) (Zef16 k 0 x11) (Zef15 x0 k x10) (Qs [(6, .int .i64), (7, .int .i64)] [] (fun z_ => Zef16 k z_.1 z_.2.1)
 Qz
 (fun (x6_5, x7_5, _) => Qr)) Qk))
 (fun _ => Qs [(6, .int .i64), (7, .int .i64)] [] (fun z_ => Zef14 k z_.1 z_.2.1)
 Qz
 (fun (x6_4, x7_4, _) => Qr)))) Qk))
 (fun _ => Qs [] [0, 1, 8] (fun z_ => Zef9 x0 x1 k x8)
 (Qs [(12, .int .i64), (13, .int .i64)] [0, 1, 8] (fun z_ => Zef12 x0 x1 k x8 z_.1 z_.2.1)
 Qz
 (fun (x12, x13, _) => Qs [(53, .bool)] [0, 1, 8, 12, 13] (fun z_ => Zef11 x0 x1 k x8 x12 x13 z_.1)
 Qz
 (fun (x53, _) => Qc (x53) (Zef10 k x12 x13) (Zef9 x0 x1 k x8) (Qs [(6, .int .i64), (7, .int .i64)] [] (fun z_ => Zef10 k z_.1 z_.2.1)
 Qz
 (fun (x6_3, x7_3, _) => Qr)) Qk)))
 (fun _ => Qs [] [0, 1, 8] (fun z_ => Zef1 x0 x1 k x8)
 (Qs [(14, .int .i64), (15, .int .i64)] [0, 1, 8] (fun z_ => Zef8 x0 x1 k x8 z_.1 z_.2.1)
 Qz
 (fun (x14, x15, _) => Qs [(66, .bool)] [0, 1, 8, 14, 15] (fun z_ => Zef7 x0 x1 k x8 x14 x15 z_.1)
 Qz
 (fun (x66, _) => Qc (x66) (Zef6 x0 x1 k x8 x14) (Zef5 x0 x1 k x8 x15 (x15 != 4)) (Qs [] [0, 1, 8] (fun z_ => Zef3 x0 x1 k x8)
 Qz
 (fun _ => Qs [(6, .int .i64), (7, .int .i64)] [] (fun z_ => Zef2 k z_.1 z_.2.1)
 Qz
 (fun (x6_1, x7_1, _) => Qr))) (Qs [(81, .bool)] [0, 1, 8, 15] (fun z_ => Zef5 x0 x1 k x8 x15 z_.1)
 Qz
 (fun (x81, _) => Qc (x81) (Zef4 k 0 x15) (Zef1 x0 x1 k x8) (Qs [(6, .int .i64), (7, .int .i64)] [] (fun z_ => Zef4 k z_.1 z_.2.1)
 Qz
 (fun (x6_2, x7_2, _) => Qr)) Qk)))))
 (fun _ => Qs [(6, .int .i64), (7, .int .i64)] [] (fun z_ => Zef0 k z_.1 z_.2.1)
 Qz
 (fun (x6, x7, _) => Qr))))))) h_
abbrev Zeg0 (k : (Int → K)) (x6 : Int) : K :=
 k x6
abbrev Zeg1 (d : OA) (at_1 : Int) (k : (Int → K)) (o_1 : Addr) : K :=
 ldI .i64 (o_1.add 0) fun x47_0 =>
 ldI .i64 (o_1.add 1) fun x47_1 =>
 Ycs (x47_0, x47_1) at_1 fun x49 =>
 Ya5 d at_1 x49 fun x50 =>
 Zeg0 k x50
abbrev Zeg2 (k : (Int → K)) (x6_1 : Int) : K :=
 k x6_1
abbrev Zeg3 (k : (Int → K)) (i_1 : Int) (c : ((Int × Unit) → K)) (e : Int) (x43 : Bool) : K :=
 brK x43
 (Zeg2 k e)
 (c ((IntKind.wrap .i64 (i_1 + 1)), ()))
abbrev Zeg4 (k : (Int → K)) (i_1 : Int) (c : ((Int × Unit) → K)) (e : Int) : K :=
 Zeg3 k i_1 c e (e != 0)
abbrev Zeg5 (d : OA) (at_1 : Int) (k : (Int → K)) (i_1 : Int) (c : ((Int × Unit) → K)) : K :=
 Ya5 d (IntKind.wrap .i64 (at_1 + i_1)) 0 fun x41 =>
 Zeg4 k i_1 c x41
abbrev Zeg6 (d : OA) (at_1 : Int) (k : (Int → K)) (o_1 : Addr) (i_1 : Int) (c : ((Int × Unit) → K)) (x34 : Bool) : K :=
 brK x34
 (Zeg5 d at_1 k i_1 c)
 (Zeg1 d at_1 k o_1)
abbrev Zeg7 (d : OA) (at_1 : Int) (k : (Int → K)) (o_1 : Addr) (n : Int) (i_1 : Int) (c : ((Int × Unit) → K)) : K :=
 Zeg6 d at_1 k o_1 i_1 c (decide (i_1 < n))
abbrev Zeg8 (d : OA) (at_1 : Int) (k : (Int → K)) (o_1 : Addr) (n : Int) (i : Int) : K :=
 lp (fun (z_ : (Int × Unit)) c_ => Zeg7 d at_1 k o_1 n z_.1 c_) (i, ())
abbrev Zeg9 (k : (Int → K)) (x6_2 : Int) : K :=
 k x6_2
abbrev Zeg10 (k : (Int → K)) (x6_3 : Int) : K :=
 k x6_3
abbrev Zeg11 (d : OA) (at_1 : Int) (k : (Int → K)) (o_1 : Addr) (n : Int) (x15 : Bool) : K :=
 brK x15
 (Zeg10 k 2)
 (Zeg8 d at_1 k o_1 n 1)
abbrev Zeg12 (d : OA) (at_1 : Int) (k : (Int → K)) (o_1 : Addr) (n : Int) : K :=
 brK (decide (at_1 < 0))
 (Zeg11 d at_1 k o_1 n true)
 (Yat d fun x21 =>
 brK (decide (at_1 ≥ x21))
 (Zeg11 d at_1 k o_1 n true)
 (Yat d fun x27 =>
 Zeg11 d at_1 k o_1 n (decide (n > (IntKind.wrap .i64 (x27 - at_1))))))
abbrev Zeg13 (d : OA) (at_1 : Int) (k : (Int → K)) (o_1 : Addr) (n : Int) (x12 : Bool) : K :=
 brK x12
 (Zeg9 k 5)
 (Zeg12 d at_1 k o_1 n)
abbrev Zeg14 (d : OA) (at_1 : Int) (k : (Int → K)) (o_1 : Addr) (n : Int) : K :=
 Zeg13 d at_1 k o_1 n (n == 0)
abbrev Zeg15 (d : OA) (at_1 : Int) (k : (Int → K)) (o_1 : Addr) : K :=
 ldI .i64 (o_1.add 0) fun x10_0 =>
 ldI .i64 (o_1.add 1) fun x10_1 =>
 Yav (x10_0, x10_1) fun x11 =>
 Zeg14 d at_1 k o_1 x11
abbrev Yrw (d : OA) (at_1 : Int) (o : (Int × Int)) : M Int := fun k =>
 alK (.cells #[.int .i64 o.1, .int .i64 o.2] 68) fun b =>
 Zeg15 d at_1 k ⟨b, 0, none⟩
theorem Ytj (d : OA) (at_1 : Int) (o : (Int × Int)) (k : Int → K) (w : World) (h_ : Yrw d at_1 o k w) : Yir d at_1 o k w :=
 Yae (P := Tryz.prog) Tryz.func90 rfl (by kernel_rfl)
 (Qs [(5, .addr)] [0, 1] (fun z_ => Zeg15 d at_1 k z_.1)
 Qz
 (fun (o_1, _) => Qs [(7, .int .i64)] [0, 1, 5] (fun z_ => Zeg14 d at_1 k o_1 z_.1)
 Qz
 (fun (n, _) => Qs [] [0, 1, 5, 7] (fun z_ => Zeg8 d at_1 k o_1 n 1)
 (Qb (Qs [(12, .bool)] [0, 1, 5, 7] (fun z_ => Zeg13 d at_1 k o_1 n z_.1)
 Qz
 (fun (x12, _) => Qc (x12) (Zeg9 k 5) (Zeg12 d at_1 k o_1 n) (Qs [(6, .int .i64)] [] (fun z_ => Zeg9 k z_.1)
 Qz
 (fun (x6_2, _) => Qr)) (Qs [(15, .bool)] [0, 1, 5, 7] (fun z_ => Zeg11 d at_1 k o_1 n z_.1)
 (Qp [2, 8])
 (fun (x15, _) => Qc (x15) (Zeg10 k 2) (Zeg8 d at_1 k o_1 n 1) (Qs [(6, .int .i64)] [] (fun z_ => Zeg10 k z_.1)
 Qz
 (fun (x6_3, _) => Qr)) Qk)))))
 (fun _ => Qs [] [0, 1, 5] (fun z_ => Zeg1 d at_1 k o_1)
 (Qs [(8, .int .i64)] [0, 1, 5, 7] (fun z_ => Zeg8 d at_1 k o_1 n z_.1)
 Qz
 (fun (i, _) => Qb (Ql [(8, .int .i64)] [0, 1, 5, 7] (fun (z_ : (Int × Unit)) c_ => Zeg7 d at_1 k o_1 n z_.1 c_) (i, ())
 (fun (i_1, _) c => Qs [] [0, 1, 5, 7, 8] (fun z_ => Zeg5 d at_1 k i_1 c)
 (Qs [(34, .bool)] [0, 1, 5, 7, 8] (fun z_ => Zeg6 d at_1 k o_1 i_1 c z_.1)
 Qz
 (fun (x34, _) => Qc (x34) (Zeg5 d at_1 k i_1 c) (Zeg1 d at_1 k o_1) Qk Qx))
 (fun _ => Qs [] [0, 1, 5, 7, 8] (fun z_ => c ((IntKind.wrap .i64 (i_1 + 1)), ()))
 (Qb (Qs [(9, .int .i64)] [0, 1, 5, 7, 8] (fun z_ => Zeg4 k i_1 c z_.1)
 Qz
 (fun (e, _) => Qs [(43, .bool)] [0, 1, 5, 7, 8, 9] (fun z_ => Zeg3 k i_1 c e z_.1)
 Qz
 (fun (x43, _) => Qc (x43) (Zeg2 k e) (c ((IntKind.wrap .i64 (i_1 + 1)), ())) (Qs [(6, .int .i64)] [] (fun z_ => Zeg2 k z_.1)
 Qz
 (fun (x6_1, _) => Qr)) Qk))))
 (fun _ => Qz))))))
 (fun _ => Qs [(6, .int .i64)] [] (fun z_ => Zeg0 k z_.1)
 Qz
 (fun (x6, _) => Qr)))))) h_
abbrev Zeh0 (k : ((Bool × Int) → K)) (x4 : Bool) (x5 : Int) : K :=
 k (x4, x5)
abbrev Zeh1 (k : ((Bool × Int) → K)) (x4_1 : Bool) (x5_1 : Int) : K :=
 k (x4_1, x5_1)
abbrev Zeh2 (k : ((Bool × Int) → K)) (e : Int) (x55 : Bool) : K :=
 brK x55
 (Zeh1 k false e)
 (Zeh0 k true 0)
abbrev Zeh3 (k : ((Bool × Int) → K)) (e : Int) : K :=
 Zeh2 k e (e != 0)
abbrev Zeh4 (a : OA) (block : Int) (k : ((Bool × Int) → K)) : K :=
 nn a fun x49 =>
 ldP (x49.add 0) fun x51 =>
 Ych x51 block fun x53 =>
 Zeh3 k x53
abbrev Zeh5 (a : OA) (block : Int) (k : ((Bool × Int) → K)) (h : Addr) (from_1 : Int) : K :=
 tick fun _ =>
 nn a fun x39 =>
 ldP (x39.add 4) fun x41 =>
 ldI .i64 (h.add 1) fun x43 =>
 Yev x41 x43 from_1 (IntKind.wrap .i64 (from_1 + 512)) fun x47 =>
 Zeh4 a block k
abbrev Zeh6 (k : ((Bool × Int) → K)) (x4_2 : Bool) (x5_2 : Int) : K :=
 k (x4_2, x5_2)
abbrev Zeh7 (a : OA) (block : Int) (k : ((Bool × Int) → K)) (h : Addr) (from_1 : Int) (x37 : Bool) : K :=
 brK x37
 (Zeh6 k false 0)
 (Zeh5 a block k h from_1)
abbrev Zeh8 (a : OA) (block : Int) (k : ((Bool × Int) → K)) (h : Addr) (from_1 : Int) : K :=
 ldI .i64 (h.add 0) fun x25 =>
 brK (x25 != 1)
 (Zeh7 a block k h from_1 true)
 (nn a fun x29 =>
 ldP (x29.add 3) fun x31 =>
 Yee x31 from_1 (IntKind.wrap .i64 (from_1 + 512)) fun x35 =>
 Zeh7 a block k h from_1 (decide (x35 > 0)))
abbrev Zeh9 (a : OA) (block : Int) (k : ((Bool × Int) → K)) (h : Addr) : K :=
 nn a fun x19 =>
 ldI .i64 (Addr.add (x19.add 2) 0) fun x21_0 =>
 Yba x21_0 block fun x23 =>
 Zeh8 a block k h x23
abbrev Zeh10 (a : OA) (block : Int) (k : ((Bool × Int) → K)) : K :=
 nn a fun x10 =>
 ldP (x10.add 0) fun x12 =>
 nn x12 fun x13 =>
 ldP (x13.add 0) fun x15 =>
 Ycr x15 block fun x17 =>
 alK (.cells #[.int .i64 0, .int .i64 0, .int .i64 0] 143) fun b =>
 stK (Addr.add ⟨b, 0, none⟩ 0) (.int .i64 x17.1) <|
 stK (Addr.add ⟨b, 0, none⟩ 1) (.int .i64 x17.2.1) <|
 stK (Addr.add ⟨b, 0, none⟩ 2) (.int .i64 x17.2.2) <|
 Zeh9 a block k ⟨b, 0, none⟩
abbrev Ygf (a : OA) (block : Int) : M (Bool × Int) := fun k =>
 Zeh10 a block k
theorem Yja (a : OA) (block : Int) (k : (Bool × Int) → K) (w : World) (h_ : Ygf a block k w) : Ydl a block k w :=
 Yae (P := Tryz.prog) Tryz.func104 rfl (by kernel_rfl)
 (Qs [] [0, 1] (fun z_ => Zeh10 a block k)
 Qz
 (fun _ => Qs [(6, .addr)] [0, 1] (fun z_ => Zeh9 a block k z_.1)
 Qz
 (fun (h, _) => Qs [(7, .int .i64)] [0, 1, 6] (fun z_ => Zeh8 a block k h z_.1)
 Qz
 (fun (from_1, _) => Qs [] [0, 1, 6, 7] (fun z_ => Zeh5 a block k h from_1)
 (Qs [(37, .bool)] [0, 1, 6, 7] (fun z_ => Zeh7 a block k h from_1 z_.1)
 (Qp [3])
 (fun (x37, _) => Qc (x37) (Zeh6 k false 0) (Zeh5 a block k h from_1) (Qs [(4, .bool), (5, .int .i64)] [] (fun z_ => Zeh6 k z_.1 z_.2.1)
 Qz
 (fun (x4_2, x5_2, _) => Qr)) Qk))
 (fun _ => Qs [] [0, 1] (fun z_ => Zeh4 a block k)
 (RefK.draw [] [0, 1, 3, 7, 0, 16, 0, 0, 128, 511] [0, 1, 2, 3, 4, 5, 6, 7, 8, 9] [0, 1, 2, 3, 4, 5, 6, 7, 8, 9] (by kernel_rfl) (by kernel_rfl))
 (fun _ => Qs [] [] (fun z_ => Zeh0 k true 0)
 (Qs [(8, .int .i64)] [] (fun z_ => Zeh3 k z_.1)
 Qz
 (fun (e, _) => Qs [(55, .bool)] [8] (fun z_ => Zeh2 k e z_.1)
 Qz
 (fun (x55, _) => Qc (x55) (Zeh1 k false e) (Zeh0 k true 0) (Qs [(4, .bool), (5, .int .i64)] [] (fun z_ => Zeh1 k z_.1 z_.2.1)
 Qz
 (fun (x4_1, x5_1, _) => Qr)) Qk)))
 (fun _ => Qs [(4, .bool), (5, .int .i64)] [] (fun z_ => Zeh0 k z_.1 z_.2.1)
 Qz
 (fun (x4, x5, _) => Qr)))))))) h_
abbrev Zei0 (k : (OA → K)) (x2 : OA) : K :=
 k x2
abbrev Zei1 (a : OA) (k : (OA → K)) : K :=
 nn a fun x4 =>
 ldP (x4.add 1) fun x6 =>
 Zei0 k x6
abbrev Yjz (a : OA) : M OA := fun k =>
 Zei1 a k
theorem Yht (a : OA) (k : OA → K) (w : World) (h_ : Yjz a k w) : Ybu a k w :=
 Yae (P := Tryz.prog) Tryz.func106 rfl (by kernel_rfl)
 (Qs [] [0] (fun z_ => Zei1 a k)
 Qz
 (fun _ => Qs [(2, .ptr)] [] (fun z_ => Zei0 k z_.1)
 Qz
 (fun (x2, _) => Qr))) h_
abbrev Zej0 (k : ((OA × Int) → K)) (x6 : Addr) (x7 : Int) : K :=
 k ((some x6), x7)
abbrev Zej1 (x8 : Addr) (x13_1 : Int) (c : ((Int × Unit) → K)) (x14 : Addr) : K :=
 ldI .i64 (x14.add 1) fun x68 =>
 Ybh (some x8) x13_1 x68 fun x69 =>
 c ((IntKind.wrap .i64 (x13_1 + 1)), ())
abbrev Zej2 (x8 : Addr) (x13_1 : Int) (c : ((Int × Unit) → K)) (x14 : Addr) (x64 : Bool) : K :=
 brK x64
 (Zej1 x8 x13_1 c x14)
 (c ((IntKind.wrap .i64 (x13_1 + 1)), ()))
abbrev Zej3 (x8 : Addr) (x13_1 : Int) (c : ((Int × Unit) → K)) (x14 : Addr) : K :=
 ldI .i64 (x14.add 0) fun x63 =>
 Zej2 x8 x13_1 c x14 (x63 == 1)
abbrev Zej4 (x1 : OA) (x8 : Addr) (x13_1 : Int) (c : ((Int × Unit) → K)) : K :=
 nn x1 fun x57 =>
 ldP (x57.add 0) fun x59 =>
 Ycr x59 x13_1 fun x61 =>
 alK (.cells #[.int .i64 0, .int .i64 0, .int .i64 0] 143) fun b =>
 stK (Addr.add ⟨b, 0, none⟩ 0) (.int .i64 x61.1) <|
 stK (Addr.add ⟨b, 0, none⟩ 1) (.int .i64 x61.2.1) <|
 stK (Addr.add ⟨b, 0, none⟩ 2) (.int .i64 x61.2.2) <|
 Zej3 x8 x13_1 c ⟨b, 0, none⟩
abbrev Zej5 (x1 : OA) (k : ((OA × Int) → K)) (x8 : Addr) (x13_1 : Int) (c : ((Int × Unit) → K)) (x53 : Bool) : K :=
 brK x53
 (Zej4 x1 x8 x13_1 c)
 (Zej0 k x8 0)
abbrev Zej6 (x1 : OA) (k : ((OA × Int) → K)) (x8 : Addr) (x13_1 : Int) (c : ((Int × Unit) → K)) : K :=
 nn x1 fun x49 =>
 ldP (x49.add 0) fun x51 =>
 Ybf x51 fun x52 =>
 Zej5 x1 k x8 x13_1 c (decide (x13_1 < x52))
abbrev Zej7 (x1 : OA) (k : ((OA × Int) → K)) (x8 : Addr) (x13 : Int) : K :=
 lp (fun (z_ : (Int × Unit)) c_ => Zej6 x1 k x8 z_.1 c_) (x13, ())
abbrev Zej8 (k : ((OA × Int) → K)) (x6_1 : OA) (x7_1 : Int) : K :=
 k (x6_1, x7_1)
abbrev Zej9 (k : ((OA × Int) → K)) (x27_1 : Int) (c_1 : ((Int × Unit) → K)) (x45 : Bool) : K :=
 brK x45
 (Zej8 k none 41)
 (c_1 ((IntKind.wrap .i64 (x27_1 + 1)), ()))
abbrev Zej10 (k : ((OA × Int) → K)) (x8 : Addr) (x27_1 : Int) (c_1 : ((Int × Unit) → K)) (x10 : Int) : K :=
 ldP (x8.add 3) fun x42 =>
 Ybl x42 x10 fun x44 =>
 Zej9 k x27_1 c_1 (!x44)
abbrev Zej11 (k : ((OA × Int) → K)) (x6_2 : OA) (x7_2 : Int) : K :=
 k (x6_2, x7_2)
abbrev Zej12 (k : ((OA × Int) → K)) (x8 : Addr) (x27_1 : Int) (c_1 : ((Int × Unit) → K)) (x10 : Int) (x38 : Bool) : K :=
 brK x38
 (Zej11 k none 22)
 (Zej10 k x8 x27_1 c_1 x10)
abbrev Zej13 (k : ((OA × Int) → K)) (x8 : Addr) (x27_1 : Int) (c_1 : ((Int × Unit) → K)) (x10 : Int) (x12 : Bool) : K :=
 Zej12 k x8 x27_1 c_1 x10 (!x12)
abbrev Zej14 (k : ((OA × Int) → K)) (x8 : Addr) (x27_1 : Int) (c_1 : ((Int × Unit) → K)) (x10 : Int) : K :=
 Yb4 (some x8) x10 fun x34 =>
 alK (.cells #[.int .i64 0, .int .i64 0] 68) fun b_1 =>
 stK (Addr.add ⟨b_1, 0, none⟩ 0) (.int .i64 x34.1.1) <|
 stK (Addr.add ⟨b_1, 0, none⟩ 1) (.int .i64 x34.1.2) <|
 Zej13 k x8 x27_1 c_1 x10 x34.2
abbrev Zej15 (k : ((OA × Int) → K)) (x8 : Addr) (x25 : Sl) (x27_1 : Int) (c_1 : ((Int × Unit) → K)) : K :=
 ixS x25.p x25.n x27_1 1 fun x29 =>
 ldI .i64 x29 fun x30 =>
 Zej14 k x8 x27_1 c_1 x30
abbrev Zej16 (x1 : OA) (k : ((OA × Int) → K)) (x8 : Addr) (x25 : Sl) (x27_1 : Int) (c_1 : ((Int × Unit) → K)) (x28 : Bool) : K :=
 brK x28
 (Zej15 k x8 x25 x27_1 c_1)
 (Zej7 x1 k x8 1)
abbrev Zej17 (x1 : OA) (k : ((OA × Int) → K)) (x8 : Addr) (x25 : Sl) (x26 : Int) (x27_1 : Int) (c_1 : ((Int × Unit) → K)) : K :=
 Zej16 x1 k x8 x25 x27_1 c_1 (decide (x27_1 < x26))
abbrev Zej18 (x1 : OA) (k : ((OA × Int) → K)) (x8 : Addr) (x25 : Sl) (x26 : Int) (x27 : Int) : K :=
 lp (fun (z_ : (Int × Unit)) c_ => Zej17 x1 k x8 x25 x26 z_.1 c_) (x27, ())
abbrev Zej19 (x1 : OA) (x2 : Sl) (k : ((OA × Int) → K)) (x8 : Addr) : K :=
 Zej18 x1 k x8 x2 ((x2.n : Nat) : Int) 0
abbrev Zej20 (x0 : OA) (x1 : OA) (x2 : Sl) (k : ((OA × Int) → K)) : K :=
 Ydc x1 fun x18 =>
 Yat x0 fun x20 =>
 Yfv x20 fun x21 =>
 Yo9 fun x22 =>
 alK (.cells #[.pointer x1, .pointer x0, .int .i64 x18, .pointer x21, .pointer x22] 47) fun b_2 =>
 Zej19 x1 x2 k ⟨b_2, 0, none⟩
abbrev Yxf (x0 : OA) (x1 : OA) (x2 : Sl) : M (OA × Int) := fun k =>
 Zej20 x0 x1 x2 k
theorem Yxg (x0 : OA) (x1 : OA) (x2 : Sl) (k : (OA × Int) → K) (w : World) (h_ : Yxf x0 x1 x2 k w) : Ymq x0 x1 x2 k w :=
 Yae (P := Tryz.prog) Tryz.func124 rfl (by kernel_rfl)
 (Qs [] [0, 1, 2] (fun z_ => Zej20 x0 x1 x2 k)
 Qz
 (fun _ => Qs [(8, .addr)] [1, 2] (fun z_ => Zej19 x1 x2 k z_.1)
 Qz
 (fun (x8, _) => Qs [] [1, 8] (fun z_ => Zej7 x1 k x8 1)
 (Qs [(25, .slice), (26, .int .i64), (27, .int .i64)] [1, 8] (fun z_ => Zej18 x1 k x8 z_.1 z_.2.1 z_.2.2.1)
 Qz
 (fun (x25, x26, x27, _) => Qb (Ql [(27, .int .i64)] [1, 8, 25, 26] (fun (z_ : (Int × Unit)) c_ => Zej17 x1 k x8 x25 x26 z_.1 c_) (x27, ())
 (fun (x27_1, _) c_1 => Qs [(28, .bool)] [1, 8, 25, 26, 27] (fun z_ => Zej16 x1 k x8 x25 x27_1 c_1 z_.1)
 Qz
 (fun (x28, _) => Qs [] [1, 8, 25, 26, 27] (fun z_ => Zej15 k x8 x25 x27_1 c_1)
 (Qc (x28) (Zej15 k x8 x25 x27_1 c_1) (Zej7 x1 k x8 1) Qk Qx)
 (fun _ => Qs [] [1, 8, 25, 26, 27] (fun z_ => c_1 ((IntKind.wrap .i64 (x27_1 + 1)), ()))
 (Qb (Qs [(10, .int .i64)] [1, 8, 25, 26, 27] (fun z_ => Zej14 k x8 x27_1 c_1 z_.1)
 Qz
 (fun (x10, _) => Qs [] [1, 8, 10, 25, 26, 27] (fun z_ => Zej10 k x8 x27_1 c_1 x10)
 (Qs [(12, .bool)] [1, 8, 10, 25, 26, 27] (fun z_ => Zej13 k x8 x27_1 c_1 x10 z_.1)
 Qz
 (fun (x12, _) => Qs [(38, .bool)] [1, 8, 10, 25, 26, 27] (fun z_ => Zej12 k x8 x27_1 c_1 x10 z_.1)
 Qz
 (fun (x38, _) => Qc (x38) (Zej11 k none 22) (Zej10 k x8 x27_1 c_1 x10) (Qs [(6, .ptr), (7, .int .i64)] [] (fun z_ => Zej11 k z_.1 z_.2.1)
 Qz
 (fun (x6_2, x7_2, _) => Qr)) Qk)))
 (fun _ => Qs [(45, .bool)] [1, 8, 25, 26, 27] (fun z_ => Zej9 k x27_1 c_1 z_.1)
 Qz
 (fun (x45, _) => Qc (x45) (Zej8 k none 41) (c_1 ((IntKind.wrap .i64 (x27_1 + 1)), ())) (Qs [(6, .ptr), (7, .int .i64)] [] (fun z_ => Zej8 k z_.1 z_.2.1)
 Qz
 (fun (x6_1, x7_1, _) => Qr)) Qk)))))
 (fun _ => Qz)))))))
 (fun _ => Qs [] [8] (fun z_ => Zej0 k x8 0)
 (Qs [(13, .int .i64)] [1, 8] (fun z_ => Zej7 x1 k x8 z_.1)
 Qz
 (fun (x13, _) => Qb (Ql [(13, .int .i64)] [1, 8] (fun (z_ : (Int × Unit)) c_ => Zej6 x1 k x8 z_.1 c_) (x13, ())
 (fun (x13_1, _) c => Qs [] [1, 8, 13] (fun z_ => Zej4 x1 x8 x13_1 c)
 (Qs [(53, .bool)] [1, 8, 13] (fun z_ => Zej5 x1 k x8 x13_1 c z_.1)
 Qz
 (fun (x53, _) => Qc (x53) (Zej4 x1 x8 x13_1 c) (Zej0 k x8 0) Qk Qx))
 (fun _ => Qs [] [1, 8, 13] (fun z_ => c ((IntKind.wrap .i64 (x13_1 + 1)), ()))
 (Qb (Qs [(14, .addr)] [1, 8, 13] (fun z_ => Zej3 x8 x13_1 c z_.1)
 Qz
 (fun (x14, _) => Qs [(64, .bool)] [1, 8, 13, 14] (fun z_ => Zej2 x8 x13_1 c x14 z_.1)
 Qz
 (fun (x64, _) => Qc (x64) (Zej1 x8 x13_1 c x14) (c ((IntKind.wrap .i64 (x13_1 + 1)), ())) Qz Qk))))
 (fun _ => Qz))))))
 (fun _ => Qs [(6, .addr), (7, .int .i64)] [] (fun z_ => Zej0 k z_.1 z_.2.1)
 Qz
 (fun (x6, x7, _) => Qr)))))) h_
abbrev Zek0 (k : ((Int × Int) → K)) (x8 : Int) (x9 : Int) : K :=
 k (x8, x9)
abbrev Zek1 (k : ((Int × Int) → K)) (x8_1 : Int) (x9_1 : Int) : K :=
 k (x8_1, x9_1)
abbrev Zek2 (at_1 : Int) (k : ((Int × Int) → K)) (n_1 : Int) (x37 : Bool) : K :=
 brK x37
 (Zek1 k 0 7)
 (Zek0 k (IntKind.wrap .i64 (at_1 + n_1)) 0)
abbrev Zek3 (at_1 : Int) (k : ((Int × Int) → K)) (n_1 : Int) (ok_1 : Bool) : K :=
 Zek2 at_1 k n_1 (!ok_1)
abbrev Zek4 (at_1 : Int) (i : Int) (k : ((Int × Int) → K)) (o : Addr) : K :=
 ldI .i64 (o.add 0) fun x31_0 =>
 ldI .i64 (o.add 1) fun x31_1 =>
 Ymt (x31_0, x31_1) i fun x33 =>
 Zek3 at_1 k x33.1 x33.2
abbrev Zek5 (at_1 : Int) (i : Int) (k : ((Int × Int) → K)) (o : Addr) (n : Int) (ok : Bool) (x29 : Bool) : K :=
 brK x29
 (Zek4 at_1 i k o)
 (Zek3 at_1 k n ok)
abbrev Zek6 (at_1 : Int) (i : Int) (data : Bool) (k : ((Int × Int) → K)) (o : Addr) (n : Int) (ok : Bool) : K :=
 Zek5 at_1 i k o n ok data
abbrev Zek7 (at_1 : Int) (i : Int) (data : Bool) (k : ((Int × Int) → K)) (o : Addr) : K :=
 ldI .i64 (o.add 0) fun x24_0 =>
 ldI .i64 (o.add 1) fun x24_1 =>
 Yha (x24_0, x24_1) i fun x26 =>
 Zek6 at_1 i data k o x26.1 x26.2
abbrev Zek8 (k : ((Int × Int) → K)) (x8_2 : Int) (x9_2 : Int) : K :=
 k (x8_2, x9_2)
abbrev Zek9 (at_1 : Int) (i : Int) (data : Bool) (k : ((Int × Int) → K)) (o : Addr) (e : Int) (x21 : Bool) : K :=
 brK x21
 (Zek8 k 0 e)
 (Zek7 at_1 i data k o)
abbrev Zek10 (at_1 : Int) (i : Int) (data : Bool) (k : ((Int × Int) → K)) (o : Addr) (e : Int) : K :=
 Zek9 at_1 i data k o e (e != 0)
abbrev Zek11 (d : OA) (at_1 : Int) (i : Int) (data : Bool) (k : ((Int × Int) → K)) : K :=
 Ye0 d at_1 fun x17 =>
 alK (.cells #[.int .i64 0, .int .i64 0] 68) fun b =>
 stK (Addr.add ⟨b, 0, none⟩ 0) (.int .i64 x17.1.1) <|
 stK (Addr.add ⟨b, 0, none⟩ 1) (.int .i64 x17.1.2) <|
 Zek10 at_1 i data k ⟨b, 0, none⟩ x17.2
abbrev Yp9 (d : OA) (at_1 : Int) (i : Int) (data : Bool) : M (Int × Int) := fun k =>
 Zek11 d at_1 i data k
theorem Yrx (d : OA) (at_1 : Int) (i : Int) (data : Bool) (k : (Int × Int) → K) (w : World) (h_ : Yp9 d at_1 i data k w) : Yfo d at_1 i data k w :=
 Yae (P := Tryz.prog) Tryz.func128 rfl (by kernel_rfl)
 (Qs [] [0, 1, 2, 3] (fun z_ => Zek11 d at_1 i data k)
 Qz
 (fun _ => Qs [(10, .addr), (11, .int .i64)] [1, 2, 3] (fun z_ => Zek10 at_1 i data k z_.1 z_.2.1)
 Qz
 (fun (o, e, _) => Qs [] [1, 2, 3, 10] (fun z_ => Zek7 at_1 i data k o)
 (Qs [(21, .bool)] [1, 2, 3, 10, 11] (fun z_ => Zek9 at_1 i data k o e z_.1)
 Qz
 (fun (x21, _) => Qc (x21) (Zek8 k 0 e) (Zek7 at_1 i data k o) (Qs [(8, .int .i64), (9, .int .i64)] [] (fun z_ => Zek8 k z_.1 z_.2.1)
 Qz
 (fun (x8_2, x9_2, _) => Qr)) Qk))
 (fun _ => Qs [(12, .int .i64), (13, .bool)] [1, 2, 3, 10] (fun z_ => Zek6 at_1 i data k o z_.1 z_.2.1)
 Qz
 (fun (n, ok, _) => Qs [(12, .int .i64), (13, .bool)] [1] (fun z_ => Zek3 at_1 k z_.1 z_.2.1)
 (Qs [(29, .bool)] [1, 2, 10, 12, 13] (fun z_ => Zek5 at_1 i k o n ok z_.1)
 Qz
 (fun (x29, _) => Qc (x29) (Zek4 at_1 i k o) (Zek3 at_1 k n ok) Qz Qk))
 (fun (n_1, ok_1, _) => Qs [] [1, 12] (fun z_ => Zek0 k (IntKind.wrap .i64 (at_1 + n_1)) 0)
 (Qs [(37, .bool)] [1, 12] (fun z_ => Zek2 at_1 k n_1 z_.1)
 Qz
 (fun (x37, _) => Qc (x37) (Zek1 k 0 7) (Zek0 k (IntKind.wrap .i64 (at_1 + n_1)) 0) (Qs [(8, .int .i64), (9, .int .i64)] [] (fun z_ => Zek1 k z_.1 z_.2.1)
 Qz
 (fun (x8_1, x9_1, _) => Qr)) Qk))
 (fun _ => Qs [(8, .int .i64), (9, .int .i64)] [] (fun z_ => Zek0 k z_.1 z_.2.1)
 Qz
 (fun (x8, x9, _) => Qr)))))))) h_
abbrev Zel0 (a : OA) (k_1 : Int) (i_1 : Int) (c : ((Int × Unit) → K)) (at_1 : Int) : K :=
 nn a fun x32 =>
 ldP (x32.add 4) fun x34 =>
 Yc4 x34 k_1 at_1 fun x37 =>
 c ((IntKind.wrap .i64 (i_1 - 1)), ())
abbrev Zel1 (a : OA) (k_1 : Int) (i_1 : Int) (c : ((Int × Unit) → K)) (at_1 : Int) (x30 : Bool) : K :=
 brK x30
 (Zel0 a k_1 i_1 c at_1)
 (c ((IntKind.wrap .i64 (i_1 - 1)), ()))
abbrev Zel2 (a : OA) (k_1 : Int) (i_1 : Int) (c : ((Int × Unit) → K)) (at_1 : Int) : K :=
 nn a fun x25 =>
 ldP (x25.add 3) fun x27 =>
 Yaw x27 at_1 fun x29 =>
 Zel1 a k_1 i_1 c at_1 (!x29)
abbrev Zel3 (a : OA) (block : Int) (k_1 : Int) (i_1 : Int) (c : ((Int × Unit) → K)) : K :=
 nn a fun x16 =>
 ldI .i64 (Addr.add (x16.add 2) 0) fun x18_0 =>
 Ye6 x18_0 k_1 (block, i_1) fun x23 =>
 Zel2 a k_1 i_1 c x23
abbrev Zel4 (a : OA) (block : Int) (k_1 : Int) (k : (Unit → K)) (i_1 : Int) (c : ((Int × Unit) → K)) (x12 : Bool) : K :=
 brK x12
 (Zel3 a block k_1 i_1 c)
 (k ())
abbrev Zel5 (a : OA) (block : Int) (k_1 : Int) (k : (Unit → K)) (i_1 : Int) (c : ((Int × Unit) → K)) : K :=
 Zel4 a block k_1 k i_1 c (decide (i_1 ≥ 0))
abbrev Zel6 (a : OA) (block : Int) (k_1 : Int) (k : (Unit → K)) (i : Int) : K :=
 lp (fun (z_ : (Int × Unit)) c_ => Zel5 a block k_1 k z_.1 c_) (i, ())
abbrev Yf1 (a : OA) (block : Int) (k_1 : Int) : M Unit := fun k =>
 Ygk k_1 fun x9 =>
 Zel6 a block k_1 k (IntKind.wrap .i64 (x9 - 1))
theorem Yic (a : OA) (block : Int) (k_1 : Int) (k : Unit → K) (w : World) (h_ : Yf1 a block k_1 k w) : Ybh a block k_1 k w :=
 Yae (P := Tryz.prog) Tryz.func152 rfl (by kernel_rfl)
 (Qs [(6, .int .i64)] [0, 1, 2] (fun z_ => Zel6 a block k_1 k z_.1)
 Qz
 (fun (i, _) => Qb (Ql [(6, .int .i64)] [0, 1, 2] (fun (z_ : (Int × Unit)) c_ => Zel5 a block k_1 k z_.1 c_) (i, ())
 (fun (i_1, _) c => Qs [] [0, 1, 2, 6] (fun z_ => Zel3 a block k_1 i_1 c)
 (Qs [(12, .bool)] [0, 1, 2, 6] (fun z_ => Zel4 a block k_1 k i_1 c z_.1)
 Qz
 (fun (x12, _) => Qc (x12) (Zel3 a block k_1 i_1 c) (k ()) Qk Qx))
 (fun _ => Qs [] [0, 1, 2, 6] (fun z_ => c ((IntKind.wrap .i64 (i_1 - 1)), ()))
 (Qb (Qs [(7, .int .i64)] [0, 1, 2, 6] (fun z_ => Zel2 a k_1 i_1 c z_.1)
 Qz
 (fun (at_1, _) => Qs [(30, .bool)] [0, 1, 2, 6, 7] (fun z_ => Zel1 a k_1 i_1 c at_1 z_.1)
 Qz
 (fun (x30, _) => Qc (x30) (Zel0 a k_1 i_1 c at_1) (c ((IntKind.wrap .i64 (i_1 - 1)), ())) Qz Qk))))
 (fun _ => Qz)))))) h_
abbrev Zem0 (k : ((Int × Int) → K)) (x6 : Int) (x7 : Int) : K :=
 k (x6, x7)
abbrev Zem1 (k : ((Int × Int) → K)) (x6_1 : Int) (x7_1 : Int) : K :=
 k (x6_1, x7_1)
abbrev Zem2 (a : OA) (mutator : Int) (k_1 : Int) (k : ((Int × Int) → K)) : K :=
 nn a fun x27 =>
 ldP (x27.add 4) fun x29 =>
 Yc6 x29 mutator k_1 fun x32 =>
 Zem1 k x32.1 x32.2
abbrev Zem3 (a : OA) (mutator : Int) (k_1 : Int) (k : ((Int × Int) → K)) (m : Int) : K :=
 nn a fun x21 =>
 ldP (x21.add 4) fun x23 =>
 Ye7 x23 m fun x25 =>
 Zem2 a mutator k_1 k
abbrev Zem4 (a : OA) (mutator : Int) (k_1 : Int) (k : ((Int × Int) → K)) (x9_1 : Int) (c : ((Int × Unit) → K)) (m : Int) (x19 : Bool) : K :=
 brK x19
 (Zem3 a mutator k_1 k m)
 (c ((IntKind.wrap .i64 (x9_1 + 1)), ()))
abbrev Zem5 (a : OA) (mutator : Int) (k_1 : Int) (k : ((Int × Int) → K)) (x9_1 : Int) (c : ((Int × Unit) → K)) (m : Int) : K :=
 nn a fun x13 =>
 ldP (x13.add 4) fun x15 =>
 Ygd x15 m k_1 fun x18 =>
 Zem4 a mutator k_1 k x9_1 c m (decide (x18 > 0))
abbrev Zem6 (a : OA) (mutator : Int) (k_1 : Int) (k : ((Int × Int) → K)) (x9_1 : Int) (c : ((Int × Unit) → K)) (x10 : Bool) : K :=
 brK x10
 (Zem5 a mutator k_1 k x9_1 c x9_1)
 (Zem0 k 0 4)
abbrev Zem7 (a : OA) (mutator : Int) (k_1 : Int) (k : ((Int × Int) → K)) (x9_1 : Int) (c : ((Int × Unit) → K)) : K :=
 Zem6 a mutator k_1 k x9_1 c (decide (x9_1 < 4))
abbrev Zem8 (a : OA) (mutator : Int) (k_1 : Int) (k : ((Int × Int) → K)) (x9 : Int) : K :=
 lp (fun (z_ : (Int × Unit)) c_ => Zem7 a mutator k_1 k z_.1 c_) (x9, ())
abbrev Yf2 (a : OA) (mutator : Int) (k_1 : Int) : M (Int × Int) := fun k =>
 Zem8 a mutator k_1 k 0
theorem Yid (a : OA) (mutator : Int) (k_1 : Int) (k : (Int × Int) → K) (w : World) (h_ : Yf2 a mutator k_1 k w) : Yb5 a mutator k_1 k w :=
 Yae (P := Tryz.prog) Tryz.func153 rfl (by kernel_rfl)
 (Qs [] [0, 1, 2] (fun z_ => Zem8 a mutator k_1 k 0)
 Qz
 (fun _ => Qs [] [] (fun z_ => Zem0 k 0 4)
 (Qs [(9, .int .i64)] [0, 1, 2] (fun z_ => Zem8 a mutator k_1 k z_.1)
 Qz
 (fun (x9, _) => Qb (Ql [(9, .int .i64)] [0, 1, 2] (fun (z_ : (Int × Unit)) c_ => Zem7 a mutator k_1 k z_.1 c_) (x9, ())
 (fun (x9_1, _) c => Qs [(10, .bool)] [0, 1, 2, 9] (fun z_ => Zem6 a mutator k_1 k x9_1 c z_.1)
 Qz
 (fun (x10, _) => Qs [] [0, 1, 2, 9] (fun z_ => Zem5 a mutator k_1 k x9_1 c x9_1)
 (Qc (x10) (Zem5 a mutator k_1 k x9_1 c x9_1) (Zem0 k 0 4) Qk Qx)
 (fun _ => Qs [] [0, 1, 2, 9] (fun z_ => c ((IntKind.wrap .i64 (x9_1 + 1)), ()))
 (Qb (Qs [(8, .int .i64)] [0, 1, 2, 9] (fun z_ => Zem5 a mutator k_1 k x9_1 c z_.1)
 Qz
 (fun (m, _) => Qs [(19, .bool)] [0, 1, 2, 8, 9] (fun z_ => Zem4 a mutator k_1 k x9_1 c m z_.1)
 Qz
 (fun (x19, _) => Qc (x19) (Zem3 a mutator k_1 k m) (c ((IntKind.wrap .i64 (x9_1 + 1)), ())) (Qs [] [0, 1, 2] (fun z_ => Zem2 a mutator k_1 k)
 Qz
 (fun _ => Qs [(6, .int .i64), (7, .int .i64)] [] (fun z_ => Zem1 k z_.1 z_.2.1)
 Qz
 (fun (x6_1, x7_1, _) => Qr))) Qk))))
 (fun _ => Qz)))))))
 (fun _ => Qs [(6, .int .i64), (7, .int .i64)] [] (fun z_ => Zem0 k z_.1 z_.2.1)
 Qz
 (fun (x6, x7, _) => Qr)))) h_
abbrev Zen0 (k : ((Sl × Int) → K)) (x4 : Sl) (x5 : Int) : K :=
 k (x4, x5)
abbrev Zen1 (k : ((Sl × Int) → K)) (out_1 : Sl) : K :=
 Zen0 k out_1 0
abbrev Zen2 (x23_1 : Int) (c : ((Sl × Int × Unit) → K)) (out_3 : Sl) : K :=
 c (out_3, (IntKind.wrap .i64 (x23_1 + 1)), ())
abbrev Zen3 (out_2 : Sl) (x23_1 : Int) (c : ((Sl × Int × Unit) → K)) (p : Int) : K :=
 alK (.cells #[.int .i64 p] 3) fun b =>
 semT Tryz.prog (Builtin.append_ #[27, 27] 27 #[out_2.v, .slice (some ⟨b, 0, none⟩) 1 1]) (.one (.sc (.slice))) fun x36 =>
 Zen2 x23_1 c x36
abbrev Zen4 (d : OA) (at_1 : Int) (out_2 : Sl) (x23_1 : Int) (c : ((Sl × Int × Unit) → K)) (i : Int) : K :=
 Yfu d at_1 i fun x30 =>
 Zen3 out_2 x23_1 c x30.1
abbrev Zen5 (d : OA) (at_1 : Int) (k : ((Sl × Int) → K)) (out_2 : Sl) (x23_1 : Int) (c : ((Sl × Int × Unit) → K)) (x24 : Bool) : K :=
 brK x24
 (Zen4 d at_1 out_2 x23_1 c x23_1)
 (Zen1 k out_2)
abbrev Zen6 (d : OA) (at_1 : Int) (k : ((Sl × Int) → K)) (x22 : Int) (out_2 : Sl) (x23_1 : Int) (c : ((Sl × Int × Unit) → K)) : K :=
 Zen5 d at_1 k out_2 x23_1 c (decide (x23_1 < x22))
abbrev Zen7 (d : OA) (at_1 : Int) (k : ((Sl × Int) → K)) (out : Sl) (x22 : Int) (x23 : Int) : K :=
 lp (fun (z_ : (Sl × Int × Unit)) c_ => Zen6 d at_1 k x22 z_.1 z_.2.1 c_) (out, x23, ())
abbrev Zen8 (d : OA) (at_1 : Int) (k : ((Sl × Int) → K)) (o : Addr) (out : Sl) : K :=
 ldI .i64 (o.add 0) fun x22_1 =>
 Zen7 d at_1 k out x22_1 0
abbrev Zen9 (k : ((Sl × Int) → K)) (x4_1 : Sl) (x5_1 : Int) : K :=
 k (x4_1, x5_1)
abbrev Zen10 (d : OA) (at_1 : Int) (k : ((Sl × Int) → K)) (o : Addr) (e : Int) (x19 : Bool) : K :=
 brK x19
 (Zen9 k ⟨none, 0, 0⟩ e)
 (Zen8 d at_1 k o ⟨none, 0, 0⟩)
abbrev Zen11 (d : OA) (at_1 : Int) (k : ((Sl × Int) → K)) (o : Addr) (e : Int) : K :=
 Zen10 d at_1 k o e (e != 0)
abbrev Zen12 (d : OA) (at_1 : Int) (k : ((Sl × Int) → K)) : K :=
 Ye0 d at_1 fun x15 =>
 alK (.cells #[.int .i64 0, .int .i64 0] 68) fun b_1 =>
 stK (Addr.add ⟨b_1, 0, none⟩ 0) (.int .i64 x15.1.1) <|
 stK (Addr.add ⟨b_1, 0, none⟩ 1) (.int .i64 x15.1.2) <|
 Zen11 d at_1 k ⟨b_1, 0, none⟩ x15.2
abbrev Yry (d : OA) (at_1 : Int) : M (Sl × Int) := fun k =>
 Zen12 d at_1 k
theorem Ytk (d : OA) (at_1 : Int) (k : (Sl × Int) → K) (w : World) (h_ : Yry d at_1 k w) : Yiw d at_1 k w :=
 Yae (P := Tryz.prog) Tryz.func192 rfl (by kernel_rfl)
 (Qs [] [0, 1] (fun z_ => Zen12 d at_1 k)
 Qz
 (fun _ => Qs [(6, .addr), (7, .int .i64)] [0, 1] (fun z_ => Zen11 d at_1 k z_.1 z_.2.1)
 Qz
 (fun (o, e, _) => Qs [] [0, 1, 6] (fun z_ => Zen8 d at_1 k o ⟨none, 0, 0⟩)
 (Qs [(19, .bool)] [0, 1, 6, 7] (fun z_ => Zen10 d at_1 k o e z_.1)
 Qz
 (fun (x19, _) => Qc (x19) (Zen9 k ⟨none, 0, 0⟩ e) (Zen8 d at_1 k o ⟨none, 0, 0⟩) (Qs [(4, .slice), (5, .int .i64)] [] (fun z_ => Zen9 k z_.1 z_.2.1)
 Qz
 (fun (x4_1, x5_1, _) => Qr)) Qk))
 (fun _ => Qs [(8, .slice)] [0, 1, 6] (fun z_ => Zen8 d at_1 k o z_.1)
 Qz
 (fun (out, _) => Qs [(8, .slice)] [] (fun z_ => Zen1 k z_.1)
 (Qs [(22, .int .i64), (23, .int .i64)] [0, 1, 8] (fun z_ => Zen7 d at_1 k out z_.1 z_.2.1)
 Qz
 (fun (x22, x23, _) => Qb (Ql [(8, .slice), (23, .int .i64)] [0, 1, 22] (fun (z_ : (Sl × Int × Unit)) c_ => Zen6 d at_1 k x22 z_.1 z_.2.1 c_) (out, x23, ())
 (fun (out_2, x23_1, _) c => Qs [(24, .bool)] [0, 1, 8, 22, 23] (fun z_ => Zen5 d at_1 k out_2 x23_1 c z_.1)
 Qz
 (fun (x24, _) => Qs [] [0, 1, 8, 22, 23] (fun z_ => Zen4 d at_1 out_2 x23_1 c x23_1)
 (Qc (x24) (Zen4 d at_1 out_2 x23_1 c x23_1) (Zen1 k out_2) Qk Qx)
 (fun _ => Qs [(8, .slice)] [0, 1, 22, 23] (fun z_ => Zen2 x23_1 c z_.1)
 (Qb (Qs [(9, .int .i64)] [0, 1, 8, 22, 23] (fun z_ => Zen4 d at_1 out_2 x23_1 c z_.1)
 Qz
 (fun (i, _) => Qs [(10, .int .i64)] [0, 1, 8, 22, 23] (fun z_ => Zen3 out_2 x23_1 c z_.1)
 Qz
 (fun (p, _) => Qz))))
 (fun (out_3, _) => Qz)))))))
 (fun (out_1, _) => Qs [(4, .slice), (5, .int .i64)] [] (fun z_ => Zen0 k z_.1 z_.2.1)
 Qz
 (fun (x4, x5, _) => Qr))))))) h_
abbrev Zeo0 (k : ((Int × Bool) → K)) (x4 : Int) (x5 : Bool) : K :=
 k (x4, x5)
abbrev Zeo1 (a : OA) (at_1 : Int) (k : ((Int × Bool) → K)) : K :=
 nn a fun x7 =>
 ldP (x7.add 3) fun x9 =>
 Yap x9 at_1 fun x11 =>
 Zeo0 k x11.1 x11.2
abbrev Yl7 (a : OA) (at_1 : Int) : M (Int × Bool) := fun k =>
 Zeo1 a at_1 k
theorem Yjb (a : OA) (at_1 : Int) (k : (Int × Bool) → K) (w : World) (h_ : Yl7 a at_1 k w) : Ybq a at_1 k w :=
 Yae (P := Tryz.prog) Tryz.func193 rfl (by kernel_rfl)
 (Qs [] [0, 1] (fun z_ => Zeo1 a at_1 k)
 Qz
 (fun _ => Qs [(4, .int .i64), (5, .bool)] [] (fun z_ => Zeo0 k z_.1 z_.2.1)
 Qz
 (fun (x4, x5, _) => Qr))) h_
end
def oHead (c : List Int) (n : Nat) (a : Int) : Ob × Int :=
 if a < 0 ∨ a ≥ ((8 * n : Nat) : Int) ∨ (odec a (getI c a)).2 ≠ 0 ∨ oSize (odec a (getI c a)).1 > ((8 * n : Nat) : Int) - a then ((0, 0), 22) else ((odec a (getI c a)).1, 0)
section
variable {B : World} {P R : SL} {t : K}
theorem Yjc {d n : Nat} {c la : List Int} {a : Int} {k : Ob × Int → K} (hk : T B (R * LDev d n c la) (k (oHead c n a))) : T B (R * LDev d n c la) (Ye0 (da d) a k) := by
 refine Yaq (Yti _ a k) ?_
 unfold oHead at hk
 (repeat ((with_reducible refine Ya7 ?_; intro _)))
 rename_i b1
 by_cases h0 : a < 0
 ·rw [if_pos (.inl h0)] at hk
  (repeat' (first | with_reducible refine Yal ?_ | ((with_reducible apply Yaf); (focus rfl); (focus exact hasA); (focus rfl)) | ((with_reducible apply Ybc); (focus rfl); (focus exact updA); (focus simp); simp only [List.set, Nat.zero_add, Nat.reduceAdd]) | with_reducible refine Yai (fun _ => ?_) (fun _ => ?_)))
  ·refine Yac .last ?_
   exact hk
  ·exfalso; omega
 ·(repeat' (first | with_reducible refine Yal ?_ | ((with_reducible apply Yaf); (focus rfl); (focus exact hasA); (focus rfl)) | ((with_reducible apply Ybc); (focus rfl); (focus exact updA); (focus simp); simp only [List.set, Nat.zero_add, Nat.reduceAdd]) | with_reducible refine Yai (fun _ => ?_) (fun _ => ?_)))
  ·exfalso; omega
  refine Yaa (X := LDev d n c la) (.init .last) ?_
  refine Yn9 fun hl hn => ?_
  (repeat' (first | ((with_reducible apply Yaf); (focus rfl); (focus exact hasA); (focus rfl)) | ((with_reducible apply Ybc); (focus rfl); (focus exact updA); (focus simp); simp only [List.set, Nat.zero_add, Nat.reduceAdd]) | with_reducible refine Yai (fun _ => ?_) (fun _ => ?_)))
  ·rename_i h1
   rw [if_pos (.inr (.inl h1))] at hk
   refine Yac (.init .last) ?_
   exact hk
  ·rename_i h1
   refine Vaa ?_
   refine Ys4 ?_
   generalize odec a (getI c a) = r at *
   (repeat' (first | with_reducible refine Yal ?_ | ((with_reducible apply Yaf); (focus rfl); (focus exact hasA); (focus rfl)) | (with_reducible refine Ya7 ?_; intro _) | ((with_reducible apply Ybc); (focus rfl); (focus exact updA); (focus simp); simp only [List.set, Nat.zero_add, Nat.reduceAdd]) | with_reducible refine Yar (fun _ => ?_) (fun _ => ?_)))
   ·rename_i h2
    rw [if_pos (.inr (.inr (.inl h2)))] at hk
    refine Yac .last ?_
    refine Yac (.init .last) ?_
    exact hk
   ·rename_i b2 h2
    have h2' : r.2 = 0 := h2
    refine Ydw ?_
    refine Yaa (X := LDev d n c la) (.init .last) ?_
    refine Yn9 fun hl hn => ?_
    have e : IntKind.wrap .i64 (((8 * n : Nat) : Int) - a) = ((8 * n : Nat) : Int) - a := w64 (by omega) (by omega)
    (dsimp only [Yru, Zea0, Zea1, Zea2, Zea3, Zea4, Zea5, Zea6, Zea7, Zea8, Zea9, Zea10])
    rw [e]
    (repeat' (first | ((with_reducible apply Yaf); (focus rfl); (focus exact hasA); (focus rfl)) | ((with_reducible apply Ybc); (focus rfl); (focus exact updA); (focus simp); simp only [List.set, Nat.zero_add, Nat.reduceAdd]) | with_reducible refine Yai (fun _ => ?_) (fun _ => ?_)))
    ·rename_i h3
     rw [if_pos (.inr (.inr (.inr h3)))] at hk
     refine Yac (.init (.init .last)) ?_
     refine Yac (.init .last) ?_
     exact hk
    ·rename_i h3
     rw [if_neg (by rintro (h | h | h | h) <;> first | omega | exact h h2' | exact h3 h)] at hk
     refine Yac (.init (.init .last)) ?_
     refine Yac (.init .last) ?_
     exact hk
end
/-- noughts behind an address, up to one -/
def zerN (c : List Int) (a : Nat) : Nat → List Int
 |0 => c
 |1 => c
 |i + 2 => (zerN c a (i + 1)).set (a + (i + 1)) 0
theorem Vcy (c : List Int) (a : Nat) {i : Nat} (h : 1 ≤ i) : zerN c a (i + 1) = (zerN c a i).set (a + i) 0 := by
 obtain ⟨j, rfl⟩ : ∃ j, i = j + 1 := ⟨i - 1, by omega⟩
 rfl
theorem Yq2 (c : List Int) (a : Nat) : ∀ z i, (zerN c a z)[i]? = if a < i ∧ i < a + z ∧ i < c.length then some 0 else c[i]?
 |0, i => by rw [if_neg (by omega)]; rfl
 |1, i => by rw [if_neg (by omega)]; rfl
 |z + 2, i => by
  show ((zerN c a (z + 1)).set (a + (z + 1)) 0)[i]? = _
  have hl : ∀ y, (zerN c a y).length = c.length := by
   intro y
   induction y with
   |zero => rfl
   |succ y ih =>
    cases y with
    |zero => rfl
    |succ y => show ((zerN c a (y + 1)).set _ _).length = _; rw [List.length_set]; exact ih
  rw [List.getElem?_set, hl, Yq2 c a (z + 1) i]
  by_cases e : a + (z + 1) = i
  ·rw [if_pos e]
   by_cases h : a + (z + 1) < c.length
   ·rw [if_pos h, if_pos (by omega)]
   ·rw [if_neg h, if_neg (by omega), List.getElem?_eq_none (by omega)]
  ·rw [if_neg e]
   by_cases h : a < i ∧ i < a + (z + 1) ∧ i < c.length
   ·rw [if_pos h, if_pos (by omega)]
   ·rw [if_neg h, if_neg (by omega)]
section
variable {B : World} {P R : SL} {t : K}
theorem Yvm {d n a : Nat} {c la : List Int} {o : Ob} (ho : oSize o ≠ 0) (ha : (a : Int) + oSize o ≤ ((8 * n : Nat) : Int)) {k : Int → K}
  (hk : T B (R * LDev d n ((zerN c a (oSize o).toNat).set a (oenc a o)) la) (k 0)) : T B (R * LDev d n c la) (Yir (da d) a o k) := by
 refine Yaq (Ytj _ a o k) ?_
 have hr := Yem o
 (repeat (first | ((with_reducible apply Yaf); (focus rfl); (focus exact hasA); (focus rfl)) | (with_reducible refine Ya7 ?_; intro _)))
 rename_i b
 refine Ydw ?_
 (repeat' (first | with_reducible refine Yal ?_ | with_reducible refine Yai (fun _ => ?_) (fun _ => ?_) | with_reducible refine Ybr (fun _ => ?_) (fun _ => ?_)))
 ·rename_i h; exact absurd h ho
 ·exfalso; omega
 refine Yaa (X := LDev d n c la) (.init .last) ?_
 refine Yn9 fun hl hn => ?_
 (repeat' (first | with_reducible refine Yal ?_ | with_reducible refine Yai (fun _ => ?_) (fun _ => ?_)))
 ·rename_i h; exfalso; omega
 refine Yn9 fun hl hn => ?_
 have e : IntKind.wrap .i64 (((8 * n : Nat) : Int) - a) = ((8 * n : Nat) : Int) - a := w64 (by omega) (by omega)
 (dsimp only [Yrw, Zeg0, Zeg1, Zeg2, Zeg3, Zeg4, Zeg5, Zeg6, Zeg7, Zeg8, Zeg9, Zeg10, Zeg11, Zeg12, Zeg13, Zeg14, Zeg15])
 rw [e]
 obtain ⟨z, hz⟩ := Int.eq_ofNat_of_zero_le hr.1
 have hz' : oSize (o.1, o.2) = (z : Int) := hz
 rw [hz'] 
 rw [hz] at ha ho hk hr
 (repeat' (with_reducible refine Yai (fun _ => ?_) (fun _ => ?_)))
 ·rename_i h; exfalso; omega
 refine Ycz (fun _ s => R * pt b (.cells [.int .i64 o.1, .int .i64 o.2].toArray 68) * LDev d n (zerN c a s.1.toNat) la) (fun m (s : Int × Unit) => ∃ i : Nat, 1 ≤ i ∧ i ≤ z ∧ s.1 = i ∧ m = z - i) (z - 1) rfl ⟨1, by omega, by omega, rfl, rfl⟩ ?_
 rintro m ⟨s1, u⟩ cc ⟨i, h1, h2, h3, h4⟩ hc
 simp only at h3
 subst h3 h4
 simp only [Int.toNat_natCast]
 (repeat' (first | ((with_reducible apply Yaf); (focus rfl); (focus exact hasA); (focus rfl)) | with_reducible refine Yai (fun _ => ?_) (fun _ => ?_)))
 ·rename_i hlt
  have e1 : IntKind.wrap .i64 ((a : Int) + i) = ((a + i : Nat) : Int) := by rw [w64 (by omega) (by omega)]; omega
  rw [e1]
  refine Yoa (by omega) (by omega) ?_
  (repeat' (with_reducible refine Yar (fun _ => ?_) (fun _ => ?_)))
  ·rename_i hx; exact absurd rfl hx
  have := hc (z - (i + 1)) (IntKind.wrap .i64 ((i : Int) + 1), ()) (by omega) ⟨i + 1, by omega, by omega, w64 (by omega) (by omega), rfl⟩
  have e2 : (IntKind.wrap .i64 ((i : Int) + 1)).toNat = i + 1 := by rw [w64 (by omega) (by omega)]; omega
  simp only [e2] at this
  rw [Vcy c a h1] at this
  rw [Int.toNat_natCast]
  exact this
 ·rename_i hge
  have : i = z := by omega
  subst this
  refine Ymf ?_
  refine Yoa (by omega) (by omega) ?_
  rw [Int.toNat_natCast]
  rw [Int.toNat_natCast] at hk
  refine Yac (.init .last) ?_
  exact hk
end
/-- keys that are told apart -/
structure KeyD {α : Type} [DecidableEq α] (Pg : Program) (mt kt et : TypeId) (ek : α → Value) : Prop where
 und : Pg.underlying mt = some (.map kt et)
 eq : ∀ a b, keyEq Pg kt (ek a) (ek b) = some (decide (a = b))
 fine : ∀ a, keyFine Pg kt (ek a) = true
 inj : ∀ a b, ek a = ek b → a = b
 same : ∀ a, Instr.sameBits 10000 (ek a) (ek a) = true
def kv (es : List MapEntry) : List (Value × Value) := es.map fun e => (e.key, e.val)
section
variable {α β : Type} [DecidableEq α] {Pg : Program} {mt kt et : TypeId} {ek : α → Value} {ev : β → Value}
def encs (ek : α → Value) (ev : β → Value) (l : List (α × β)) : List (Value × Value) := l.map fun p => (ek p.1, ev p.2)
def lkup (l : List (α × β)) (key : α) : Option β := (l.find? fun p => decide (key = p.1)).map (·.2)
theorem Yq3 (hD : KeyD Pg mt kt et ek) {key : α} : ∀ (es : List MapEntry) (l : List (α × β)) (i : Nat), kv es = encs ek ev l →
  ∃ f, mfind Pg kt (ek key) es i = some f ∧ f.map (·.2) = (lkup l key).map ev ∧
   (f = none → l.findIdx? (fun p => decide (key = p.1)) = none) ∧ (∀ j v, f = some (j, v) → ∃ n, j = i + n ∧ l.findIdx? (fun p => decide (key = p.1)) = some n) := by
 intro es
 induction es with
 |nil =>
  intro l i h
  have : l = [] := by cases l <;> simp_all [kv, encs]
  subst this
  exact ⟨none, rfl, rfl, fun _ => rfl, fun j v h => by cases h⟩
 |cons e es ih =>
  intro l i h
  cases l with
  |nil => simp [kv, encs] at h
  |cons p l =>
   simp only [kv, encs, List.map_cons, List.cons.injEq, Prod.mk.injEq] at h
   obtain ⟨⟨hk, hv⟩, h⟩ := h
   have he := hD.eq key p.1
   simp only [mfind, hk, he]
   by_cases hkp : key = p.1
   ·rw [decide_eq_true hkp]
    refine ⟨_, rfl, by simp [lkup, hkp, hv], fun h => by simp at h, fun j v hj => ?_⟩
    simp only [Option.some.injEq, Prod.mk.injEq] at hj
    exact ⟨0, by omega, by simp [List.findIdx?_cons, hkp]⟩
   ·rw [decide_eq_false hkp]
    obtain ⟨f, h1, h2, h3, h4⟩ := ih l (i + 1) h
    refine ⟨f, h1, by rw [h2]; simp [lkup, hkp], fun hf => by simp [List.findIdx?_cons, hkp]; simpa using h3 hf, fun j v hj => ?_⟩
    obtain ⟨n, g1, g2⟩ := h4 j v hj
    exact ⟨n + 1, by omega, by simp [List.findIdx?_cons, hkp, g2]⟩
structure MpOk (ek : α → Value) (ev : β → Value) (es : Array MapEntry) (c : Nat) (l : List (α × β)) : Prop where
 kv : kv es.toList = encs ek ev l
 nod : (es.toList.map (·.born)).Nodup
 old : ∀ e ∈ es.toList, e.born < c
 keys : (l.map (·.1)).Nodup
def Mp (ek : α → Value) (ev : β → Value) (r : Nat) (l : List (α × β)) : SL := ex fun x : Array MapEntry × Nat => pt r (.map x.1 x.2) * pu (MpOk ek ev x.1 x.2 l)
variable {B : World} {P R : SL} {t : K}
theorem Vel {r : Nat} {l : List (α × β)} {es : Array MapEntry} {c : Nat} (ok : MpOk ek ev es c l) (h : T B (R * Mp ek ev r l) t) : T B (R * pt r (.map es c)) t := by
 refine Ysu ok ?_
 rw [Yad]
 exact Yjt (X := fun x : Array MapEntry × Nat => pt r (.map x.1 x.2) * pu (MpOk ek ev x.1 x.2 l)) (es, c) h
end
section
variable {B : World} {P R : SL} {t : K} {Pg : Program}
theorem Yfl {w : World} {r : Nat} {es : Array MapEntry} {c : Nat} (o' : Obj) (s : Sat B (R * pt r (.map es c)) w) : ∃ w', (setObj r o').run Pg w = .ok () w' ∧ Sat B (R * pt r o') w' := by
 have hr := (s.has (b := r) (o := .map es c) Has.last).1
 have hlt : r < w.heap.size := (Array.getElem?_eq_some_iff.1 hr).1
 refine ⟨{ w with heap := w.heap.setIfInBounds r o' }, by simp [setObj, Sem.run, hr], ?_⟩
 refine s.upd Upd.last ?_ ?_ rfl rfl rfl (by simp)
 ·simp [hlt]
 ·intro x hx; simp [Ne.symm hx]
theorem Yie {w : World} {r : Nat} {es : Array MapEntry} {c : Nat} (s : Sat B P w) (h : Has P r (.map es c)) : (getObj r).run Pg w = .ok (.map es c) w := by
 simp [getObj, Sem.run, (s.has h).1]
variable {α β : Type} [DecidableEq α] {mt kt et : TypeId} {ek : α → Value} {ev : β → Value}
theorem Yxh {es : List MapEntry} {l : List (α × β)} (h : kv es = encs ek ev l) : es.length = l.length := by
 have := congrArg List.length h
 simpa [kv, encs] using this
theorem Vem {es : List MapEntry} {l : List (α × β)} (h : kv es = encs ek ev l) {i : Nat} {e : MapEntry} {p : α × β} (h1 : es[i]? = some e) (h2 : l[i]? = some p) : e.key = ek p.1 ∧ e.val = ev p.2 := by
 have := congrArg (fun x => x[i]?) h
 simp only [kv, encs, List.getElem?_map, h1, h2, Option.map_some, Option.some.injEq, Prod.mk.injEq] at this
 exact this
/-- what a map has when an entry is asked for -/
def entL (l : List (α × β)) (k : α) (z : β) : List (α × β) := match l.findIdx? (fun p => decide (k = p.1)) with | some _ => l | none => l ++ [(k, z)]
def entI (l : List (α × β)) (k : α) : Nat := match l.findIdx? (fun p => decide (k = p.1)) with | some i => i | none => l.length
theorem Yuc (hD : KeyD Pg mt kt et ek) (hsame : ∀ a, Instr.sameBits 10000 (ek a) (ek a) = true) {z : β} (hz : zeroP Pg et = some (ev z)) {r : Nat} {l : List (α × β)} {key : α} {es : Array MapEntry} {c : Nat} (ok : MpOk ek ev es c l) {sh : Sh} {k : sh.T × Int → K} (x : sh.T)
  (hx : ev ((lkup l key).getD z) = sh.enc x)
  (ht : ∀ (stamp : Nat) es' c' e, MpOk ek ev es' c' (entL l key z) → es'[entI l key]? = some e → e.born = stamp → T B (R * pt r (.map es' c')) (k (x, (stamp : Int)))) :
  T B (R * pt r (.map es c)) (semT Pg (Instr.mapEntry mt (.map (some r)) (ek key)) (.tup [.sc sh, .sc (.int .i64)]) k) := by
 intro w s
 have hg := Yie (Pg := Pg) s Has.last
 obtain ⟨f, h1, h2, h3, h4⟩ := Yq3 hD (key := key) es.toList l 0 ok.kv
 obtain ⟨dk, hdk⟩ : ∃ d, Pg.underlying kt = some d := by
  cases hu : Pg.underlying kt with
  |none => have := hD.fine key; unfold keyFine at this; rw [hu] at this; simp at this
  |some d => exact ⟨d, rfl⟩
 have hl := Yxh ok.kv
 unfold semT
 cases f with
 |none =>
  obtain ⟨w', r1, r2⟩ := Yfl (Pg := Pg) (.map (es.push { key := ek key, val := ev z, born := c }) (c + 1)) s
  have hrun : (Instr.mapEntry mt (.map (some r)) (ek key)).run Pg w = .ok (.tuple #[ev z, goInt c]) w' := by
   simp only [Instr.mapEntry, Sem.run_bind, Ycl hD.und, Result.andThen_ok, hg, Yet (hD.fine key), Ygw hdk h1, Yns hz, r1]
   rfl
  rw [hrun]
  have hn := h3 rfl
  have hlk : lkup l key = none := by
   cases hq : lkup l key with
   |none => rfl
   |some b => rw [hq] at h2; simp at h2
  rw [hlk] at hx
  refine ⟨(x, (c : Int)), by rw [show ev z = sh.enc x from hx]; rfl, ?_⟩
  refine ht c _ (c + 1) { key := ek key, val := ev z, born := c } ?_ ?_ rfl w' r2
  ·unfold entL; rw [hn]
   have hnk : ∀ p ∈ l, key ≠ p.1 := by
    intro p hp
    have := List.findIdx?_eq_none_iff.1 hn p hp
    simpa using this
   refine ⟨?_, ?_, fun e he => ?_, ?_⟩
   ·have := ok.kv
    simp only [kv, encs, Array.toList_push, List.map_append, List.map_cons, List.map_nil] at this ⊢
    rw [this]
   ·simp only [Array.toList_push, List.map_append, List.map_cons, List.map_nil]
    rw [List.nodup_append]
    refine ⟨ok.nod, by simp, fun a ha b hb => ?_⟩
    simp only [List.mem_singleton] at hb
    obtain ⟨e, he, rfl⟩ := List.mem_map.1 ha
    have := ok.old e he
    omega
   ·simp only [Array.toList_push, List.mem_append, List.mem_singleton] at he
    rcases he with he | rfl
    ·have := ok.old e he; omega
    ·simp
   ·simp only [List.map_append, List.map_cons, List.map_nil]
    rw [List.nodup_append]
    refine ⟨ok.keys, by simp, fun a ha b hb => ?_⟩
    simp only [List.mem_singleton] at hb
    obtain ⟨p, hp, rfl⟩ := List.mem_map.1 ha
    rw [hb]; exact (hnk p hp).symm
  ·unfold entI; rw [hn]
   have : es.size = l.length := by simpa using hl
   simp only [← this, Array.getElem?_push_size]
 |some q =>
  obtain ⟨j, v⟩ := q
  obtain ⟨n, hj, hn⟩ := h4 j v rfl
  have hjn : j = n := by omega
  subst hjn
  obtain ⟨hlt, hpk, _⟩ := List.findIdx?_eq_some_iff_getElem.1 hn
  have hpk' : key = l[j].1 := by simpa using hpk
  have hlt' : j < es.size := by
   have : es.size = l.length := by simpa using hl
   omega
  obtain ⟨hk1, hv1⟩ := Vem ok.kv (i := j) (e := es[j]) (p := l[j]) (by simp [hlt']) (by simp [hlt])
  have hke : es[j].key = ek key := by rw [hk1, hpk']
  obtain ⟨b, hb, hbv⟩ : ∃ b, lkup l key = some b ∧ ev b = v := by
   cases hq : lkup l key with
   |none => rw [hq] at h2; simp at h2
   |some b => rw [hq] at h2; simp at h2; exact ⟨b, rfl, h2.symm⟩
  rw [hb] at hx
  obtain ⟨w', r1, r2⟩ := Yfl (Pg := Pg) (.map (es.modify j fun e => { e with key := ek key }) c) s
  have hstay : ∀ w, (Instr.keyThatStays (ek key) (ek key)).run Pg w = .ok (ek key) w := by
   intro w; unfold Instr.keyThatStays; rw [if_pos (hsame key)]; rfl
  have hrun : (Instr.mapEntry mt (.map (some r)) (ek key)).run Pg w = .ok (.tuple #[v, goInt es[j].born]) w' := by
   simp only [Instr.mapEntry, Sem.run_bind, Ycl hD.und, Result.andThen_ok, hg, Yet (hD.fine key), Ygw hdk h1, Array.getElem?_eq_getElem hlt', Option.map_some, Option.getD_some, hke, hstay, r1]
   rfl
  rw [hrun]
  have hmod : es.modify j (fun e => { e with key := ek key }) = es := by
   apply Array.ext (by simp)
   intro i h1 h2
   rw [Array.getElem_modify]
   split
   ·rename_i e; subst e
    generalize es[j] = y at hke
    obtain ⟨a1, a2, a3⟩ := y
    simp only at hke ⊢
    rw [hke]
   ·rfl
  rw [hmod] at r2
  refine ⟨(x, (es[j].born : Int)), by rw [← hbv, show ev b = sh.enc x from hx]; rfl, ?_⟩
  refine ht es[j].born es c es[j] ?_ ?_ rfl w' r2
  ·unfold entL; rw [hn]; exact ok
  ·unfold entI; rw [hn]; simp [hlt']
theorem Ven {es : Array MapEntry} (hn : (es.toList.map (·.born)).Nodup) {i : Nat} {e : MapEntry} (he : es[i]? = some e) : es.findIdx? (fun x => (x.born : Int) == (e.born : Int)) = some i := by
 obtain ⟨hlt, hei⟩ := Array.getElem?_eq_some_iff.1 he
 rw [Array.findIdx?_eq_some_iff_getElem]
 refine ⟨hlt, by simp [hei], fun j hj => ?_⟩
 simp only [beq_iff_eq, Int.natCast_inj, Bool.not_eq_true', beq_eq_false_iff_ne, ne_eq]
 intro hh
 have := (List.pairwise_iff_getElem.1 hn) j i (by simp; omega) (by simpa using hlt) hj
 apply this
 simp [hei, hh]
theorem Yqa {r : Nat} {l : List (α × β)} {es : Array MapEntry} {c i : Nat} {e : MapEntry} {key : α} {v0 v : β} (ok : MpOk ek ev es c l) (he : es[i]? = some e) (hi : l[i]? = some (key, v0)) {vv : Value} (hv : vv = ev v)
  (ht : T B (R * Mp ek ev r (l.set i (key, v))) t) : T B (R * pt r (.map es c)) (semU Pg (Instr.entryStore mt (.map (some r)) (.int .i64 (e.born : Int)) vv) t) := by
 subst hv
 intro w s
 have hg := Yie (Pg := Pg) s Has.last
 have hb := Ven ok.nod he
 obtain ⟨w', r1, r2⟩ := Yfl (Pg := Pg) (.map (es.modify i fun e => { e with val := ev v }) c) s
 have hrun : (Instr.entryStore mt (.map (some r)) (.int .i64 (e.born : Int)) (ev v)).run Pg w = .ok () w' := by
  simp only [Instr.entryStore, Sem.run_bind, hg, Result.andThen_ok, asInt, asIntOf]
  simp only [Sem.run_pure, Result.andThen_ok, hb, r1]
 unfold semU
 rw [hrun]
 refine Vel ?_ ht w' r2
 obtain ⟨hlt, hei⟩ := Array.getElem?_eq_some_iff.1 he
 obtain ⟨hll, hli⟩ := List.getElem?_eq_some_iff.1 hi
 have htl : (es.modify i fun e => { e with val := ev v }).toList = es.toList.set i { e with val := ev v } := by
  apply List.ext_getElem?
  intro j
  rw [Array.getElem?_toList, Array.getElem?_modify, List.getElem?_set, Array.getElem?_toList]
  by_cases hj : i = j
  ·subst hj; simp [hlt, hei]
  ·simp [hj]
 have hkey := (Vem ok.kv (i := i) (e := e) (p := (key, v0)) (by simpa using he) hi).1
 refine ⟨?_, ?_, fun x hx => ?_, ?_⟩
 ·rw [htl]
  have := ok.kv
  unfold kv encs at this ⊢
  rw [List.map_set, List.map_set, this]
  simp only [hkey]
 ·rw [htl, List.map_set]
  have : (es.toList.map (·.born)).set i e.born = es.toList.map (·.born) := by
   apply List.ext_getElem?
   intro j
   rw [List.getElem?_set]
   by_cases hj : i = j
   ·subst hj; simp [hlt, hei]
   ·simp [hj]
  simp only [this]; exact ok.nod
 ·rw [htl] at hx
  rcases List.mem_or_eq_of_mem_set hx with h | h
  ·exact ok.old x h
  ·subst h; exact ok.old e (by rw [← hei]; simp)
 ·rw [List.map_set]
  have : (l.map (·.1)).set i key = l.map (·.1) := by
   apply List.ext_getElem?
   intro j
   rw [List.getElem?_set]
   by_cases hj : i = j
   ·subst hj; simp [hll, hli]
   ·simp [hj]
  rw [this]; exact ok.keys
end
end Go.Proofs.YtdgcbapclnnkkaaGreat.X
