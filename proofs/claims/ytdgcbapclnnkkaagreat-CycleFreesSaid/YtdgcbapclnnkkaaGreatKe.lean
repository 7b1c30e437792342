/- Part 5 of the proof that the law holds for every input: the theorems of this part. Conditions: each theorem bears its own; the last has none. -/
import Derived.Test.YtdgcbapclnnkkaaGreatKd
set_option linter.all false
set_option maxRecDepth 4000
namespace Go.Proofs.YtdgcbapclnnkkaaGreat.X
open Go
section
set_option maxRecDepth 100000
abbrev Zep0 (k : (Int → K)) (x2 : Int) : K :=
 k x2
abbrev Zep1 (c : OA) (k : (Int → K)) : K :=
 tick fun _ =>
 nn c fun x4 =>
 ldP (x4.add 0) fun x6 =>
 nn c fun x11 =>
 ldP (x11.add 0) fun x13 =>
 nn x13 fun x14 =>
 ldP (x14.add 0) fun x16 =>
 nn x16 fun x17 =>
 ldP (x17.add 0) fun x19 =>
 Yan x6 fun x7 =>
 chk [.cell (x17.add 0) (.pointer x19), .cell (x14.add 0) (.pointer x16), .cell (x11.add 0) (.pointer x13)] fun _ =>
 Ybf x19 fun x20 =>
 Zep0 k (IntKind.wrap .i64 ((IntKind.wrap .i64 (2 * (IntKind.wrap .i64 ((IntKind.wrap .i64 (4 * ((x7.n : Nat) : Int))) + x20)))) + 16))
abbrev Yf6 (c : OA) : M Int := fun k =>
 Zep1 c k
theorem Yih (c : OA) (k : Int → K) (w : World) (h_ : Yf6 c k w) : Yc9 c k w :=
 Yae (P := Tryz.prog) Tryz.func14 rfl (by kernel_rfl)
 (Qs [] [0] (fun z_ => Zep1 c k)
 Qz
 (fun _ => Qs [(2, .int .i64)] [] (fun z_ => Zep0 k z_.1)
 (RefK.draw [] [0, 1, 3, 7, 15, 31, 63, 0, 128, 384, 896, 1920, 3968, 8064, 16256, 32640, 65408, 130975, 262143, 524287, 1048575, 2097151] [0, 1, 2, 3, 7, 8, 9, 10, 11, 12, 13, 14, 15, 16, 4, 5, 6, 17, 18, 19, 20, 21] [0, 1, 2, 3, 4, 5, 6, 7, 8, 9, 10, 11, 12, 13, 14, 15, 16, 17, 18, 19, 20, 21] (by kernel_rfl) (by kernel_rfl))
 (fun (x2, _) => Qr))) h_
abbrev Zeq0 (k : (Int → K)) (x2 : Int) : K :=
 k x2
abbrev Zeq1 (c : OA) (k : (Int → K)) : K :=
 nn c fun x4 =>
 ldI .i64 (x4.add 4) fun x6 =>
 Zeq0 k x6
abbrev Ylh (c : OA) : M Int := fun k =>
 Zeq1 c k
theorem Yii (c : OA) (k : Int → K) (w : World) (h_ : Ylh c k w) : Yda c k w :=
 Yae (P := Tryz.prog) Tryz.func15 rfl (by kernel_rfl)
 (Qs [] [0] (fun z_ => Zeq1 c k)
 Qz
 (fun _ => Qs [(2, .int .i64)] [] (fun z_ => Zeq0 k z_.1)
 Qz
 (fun (x2, _) => Qr))) h_
abbrev Zer0 (k : ((Bool × Int) → K)) (x4 : Bool) (x5 : Int) : K :=
 k (x4, x5)
abbrev Zer1 (k : ((Bool × Int) → K)) (x4_1 : Bool) (x5_1 : Int) : K :=
 k (x4_1, x5_1)
abbrev Zer2 (k : ((Bool × Int) → K)) (x10_1 : Int) (c_1 : ((Int × Unit) → K)) (x26 : Bool) : K :=
 brK x26
 (Zer1 k true 0)
 (c_1 ((IntKind.wrap .i64 (x10_1 + 1)), ()))
abbrev Zer3 (c : OA) (k : ((Bool × Int) → K)) (x10_1 : Int) (c_1 : ((Int × Unit) → K)) (was : Int) : K :=
 nn c fun x22 =>
 ldI .i64 (x22.add 5) fun x24 =>
 Zer2 k x10_1 c_1 (decide (x24 > was))
abbrev Zer4 (k : ((Bool × Int) → K)) (x4_2 : Bool) (x5_2 : Int) : K :=
 k (x4_2, x5_2)
abbrev Zer5 (c : OA) (k : ((Bool × Int) → K)) (x10_1 : Int) (c_1 : ((Int × Unit) → K)) (was : Int) (e : Int) (x19 : Bool) : K :=
 brK x19
 (Zer4 k false e)
 (Zer3 c k x10_1 c_1 was)
abbrev Zer6 (c : OA) (k : ((Bool × Int) → K)) (x10_1 : Int) (c_1 : ((Int × Unit) → K)) (was : Int) (e : Int) : K :=
 Zer5 c k x10_1 c_1 was e (e != 0)
abbrev Zer7 (c : OA) (k : ((Bool × Int) → K)) (x10_1 : Int) (c_1 : ((Int × Unit) → K)) (was : Int) : K :=
 Ycg c fun x17 =>
 Zer6 c k x10_1 c_1 was x17
abbrev Zer8 (c : OA) (k : ((Bool × Int) → K)) (x10_1 : Int) (c_1 : ((Int × Unit) → K)) : K :=
 nn c fun x13 =>
 ldI .i64 (x13.add 5) fun x15 =>
 Zer7 c k x10_1 c_1 x15
abbrev Zer9 (c : OA) (k : ((Bool × Int) → K)) (x10_1 : Int) (c_1 : ((Int × Unit) → K)) (x11 : Bool) : K :=
 brK x11
 (Zer8 c k x10_1 c_1)
 (Zer0 k false 0)
abbrev Zer10 (c : OA) (k : ((Bool × Int) → K)) (x9 : Int) (x10_1 : Int) (c_1 : ((Int × Unit) → K)) : K :=
 Zer9 c k x10_1 c_1 (decide (x10_1 < x9))
abbrev Zer11 (c : OA) (k : ((Bool × Int) → K)) (x9 : Int) (x10 : Int) : K :=
 lp (fun (z_ : (Int × Unit)) c_ => Zer10 c k x9 z_.1 c_) (x10, ())
abbrev Yg7 (c : OA) (steps : Int) : M (Bool × Int) := fun k =>
 Zer11 c k (min2I steps 1048576) 0
theorem Yj0 (c : OA) (steps : Int) (k : (Bool × Int) → K) (w : World) (h_ : Yg7 c steps k w) : Ya9 c steps k w :=
 Yae (P := Tryz.prog) Tryz.func16 rfl (by kernel_rfl)
 (Qs [] [0, 1] (fun z_ => Zer11 c k (min2I steps 1048576) 0)
 Qz
 (fun _ => Qs [] [] (fun z_ => Zer0 k false 0)
 (Qs [(9, .int .i64), (10, .int .i64)] [0] (fun z_ => Zer11 c k z_.1 z_.2.1)
 Qz
 (fun (x9, x10, _) => Qb (Ql [(10, .int .i64)] [0, 9] (fun (z_ : (Int × Unit)) c_ => Zer10 c k x9 z_.1 c_) (x10, ())
 (fun (x10_1, _) c_1 => Qs [(11, .bool)] [0, 9, 10] (fun z_ => Zer9 c k x10_1 c_1 z_.1)
 Qz
 (fun (x11, _) => Qs [] [0, 9, 10] (fun z_ => Zer8 c k x10_1 c_1)
 (Qc (x11) (Zer8 c k x10_1 c_1) (Zer0 k false 0) Qk Qx)
 (fun _ => Qs [] [0, 9, 10] (fun z_ => c_1 ((IntKind.wrap .i64 (x10_1 + 1)), ()))
 (Qb (Qs [(6, .int .i64)] [0, 9, 10] (fun z_ => Zer7 c k x10_1 c_1 z_.1)
 Qz
 (fun (was, _) => Qs [] [0, 6, 9, 10] (fun z_ => Zer3 c k x10_1 c_1 was)
 (Qs [(7, .int .i64)] [0, 6, 9, 10] (fun z_ => Zer6 c k x10_1 c_1 was z_.1)
 Qz
 (fun (e, _) => Qs [(19, .bool)] [0, 6, 7, 9, 10] (fun z_ => Zer5 c k x10_1 c_1 was e z_.1)
 Qz
 (fun (x19, _) => Qc (x19) (Zer4 k false e) (Zer3 c k x10_1 c_1 was) (Qs [(4, .bool), (5, .int .i64)] [] (fun z_ => Zer4 k z_.1 z_.2.1)
 Qz
 (fun (x4_2, x5_2, _) => Qr)) Qk)))
 (fun _ => Qs [(26, .bool)] [0, 9, 10] (fun z_ => Zer2 k x10_1 c_1 z_.1)
 Qz
 (fun (x26, _) => Qc (x26) (Zer1 k true 0) (c_1 ((IntKind.wrap .i64 (x10_1 + 1)), ())) (Qs [(4, .bool), (5, .int .i64)] [] (fun z_ => Zer1 k z_.1 z_.2.1)
 Qz
 (fun (x4_1, x5_1, _) => Qr)) Qk)))))
 (fun _ => Qz)))))))
 (fun _ => Qs [(4, .bool), (5, .int .i64)] [] (fun z_ => Zer0 k z_.1 z_.2.1)
 Qz
 (fun (x4, x5, _) => Qr)))) h_
abbrev Zes0 (k : (Int → K)) (x2 : Int) : K :=
 k x2
abbrev Zes1 (x0 : OA) (k : (Int → K)) : K :=
 nn x0 fun x49 =>
 stK (Addr.add (x49.add 4) 0) (.int .i64 1) <|
 nn x0 fun x51 =>
 stK (Addr.add (x51.add 6) 0) (.int .i64 1) <|
 Zes0 k 0
abbrev Zes2 (x0 : OA) (k : (Int → K)) : K :=
 Ya2 x0 fun x46 =>
 Zes1 x0 k
abbrev Zes3 (x0 : OA) (k : (Int → K)) : K :=
 nn x0 fun x77 =>
 ldP (x77.add 2) fun x79 =>
 Ydt x79 fun x80 =>
 Zes0 k 0
abbrev Zes4 (x0 : OA) (k : (Int → K)) : K :=
 nn x0 fun x74 =>
 stK (Addr.add (x74.add 4) 0) (.int .i64 2) <|
 Zes3 x0 k
abbrev Zes5 (x0 : OA) (k : (Int → K)) (x72 : Bool) : K :=
 brK x72
 (Zes4 x0 k)
 (Zes0 k 0)
abbrev Zes6 (x0 : OA) (k : (Int → K)) : K :=
 nn x0 fun x63 =>
 ldP (x63.add 1) fun x65 =>
 Ye2 x65 fun x66 =>
 brK (!x66)
 (Ya2 x0 fun x70 =>
 Zes5 x0 k (!x70))
 (Zes5 x0 k false)
abbrev Zes7 (x0 : OA) (k : (Int → K)) : K :=
 nn x0 fun x32 =>
 ldI .i64 (x32.add 5) fun x34 =>
 nn x0 fun x36 =>
 stK (Addr.add (x36.add 5) 0) (.int .i64 (IntKind.wrap .i64 (x34 + 1))) <|
 Zes0 k 0
abbrev Zes8 (x0 : OA) (k : (Int → K)) : K :=
 nn x0 fun x29 =>
 stK (Addr.add (x29.add 4) 0) (.int .i64 0) <|
 Zes7 x0 k
abbrev Zes9 (x0 : OA) (k : (Int → K)) (x27 : Bool) : K :=
 brK x27
 (Zes8 x0 k)
 (Zes0 k 0)
abbrev Zes10 (x0 : OA) (k : (Int → K)) : K :=
 nn x0 fun x24 =>
 ldP (x24.add 2) fun x26 =>
 Ycw x26 fun x27_1 =>
 Zes9 x0 k x27_1
abbrev Zes11 (k : (Int → K)) (x2_1 : Int) : K :=
 k x2_1
abbrev Zes12 (x0 : OA) (k : (Int → K)) (x3 : Int) (x21 : Bool) : K :=
 brK x21
 (Zes11 k x3)
 (Zes10 x0 k)
abbrev Zes13 (x0 : OA) (k : (Int → K)) (x3 : Int) : K :=
 Zes12 x0 k x3 (x3 != 0)
abbrev Zes14 (x0 : OA) (k : (Int → K)) : K :=
 nn x0 fun x16 =>
 ldP (x16.add 2) fun x18 =>
 Yd9 x18 fun x19 =>
 Zes13 x0 k x19
abbrev Zes15 (x0 : OA) (k : (Int → K)) : K :=
 nn x0 fun x56 =>
 ldI .i64 (x56.add 6) fun x58 =>
 nn x0 fun x60 =>
 stK (Addr.add (x60.add 6) 0) (.int .i64 (IntKind.wrap .i64 (x58 + 1))) <|
 Zes6 x0 k
abbrev Zes16 (x0 : OA) (k : (Int → K)) : K :=
 nn x0 fun x9 =>
 ldI .i64 (x9.add 6) fun x11 =>
 nn x0 fun x13 =>
 stK (Addr.add (x13.add 6) 0) (.int .i64 (IntKind.wrap .i64 (x11 + 1))) <|
 Zes14 x0 k
abbrev Zes17 (x0 : OA) (k : (Int → K)) (x53 : Bool) : K :=
 brK x53
 (Zes15 x0 k)
 (Zes16 x0 k)
abbrev Zes18 (x0 : OA) (k : (Int → K)) : K :=
 nn x0 fun x41 =>
 ldP (x41.add 1) fun x43 =>
 Yeu x43 fun x44 =>
 Zes2 x0 k
abbrev Zes19 (x0 : OA) (k : (Int → K)) (x7 : Int) (x38 : Bool) : K :=
 brK x38
 (Zes18 x0 k)
 (Zes17 x0 k (x7 == 1))
abbrev Zes20 (x0 : OA) (k : (Int → K)) (x7 : Int) : K :=
 Zes19 x0 k x7 (x7 == 0)
abbrev Zes21 (x0 : OA) (k : (Int → K)) : K :=
 nn x0 fun x5 =>
 ldI .i64 (x5.add 4) fun x7_1 =>
 Zes20 x0 k x7_1
abbrev Ygg (x0 : OA) : M Int := fun k =>
 Zes21 x0 k
theorem Yjh (x0 : OA) (k : Int → K) (w : World) (h_ : Ygg x0 k w) : Ycg x0 k w :=
 Yae (P := Tryz.prog) Tryz.func19 rfl (by kernel_rfl)
 (Qs [] [0] (fun z_ => Zes21 x0 k)
 Qz
 (fun _ => Qs [] [] (fun z_ => Zes0 k 0)
 (Qs [(7, .int .i64)] [0] (fun z_ => Zes20 x0 k z_.1)
 Qz
 (fun (x7, _) => Qb (Qs [(38, .bool)] [0, 7] (fun z_ => Zes19 x0 k x7 z_.1)
 Qz
 (fun (x38, _) => Qc (x38) (Zes18 x0 k) (Zes17 x0 k (x7 == 1)) (Qs [] [0] (fun z_ => Zes2 x0 k)
 Qz
 (fun _ => Qs [] [0] (fun z_ => Zes1 x0 k)
 Qz
 (fun _ => Qz))) (Qs [(53, .bool)] [0] (fun z_ => Zes17 x0 k z_.1)
 Qz
 (fun (x53, _) => Qc (x53) (Zes15 x0 k) (Zes16 x0 k) (Qs [] [0] (fun z_ => Zes6 x0 k)
 Qz
 (fun _ => Qs [(72, .bool)] [0] (fun z_ => Zes5 x0 k z_.1)
 (Qp [6])
 (fun (x72, _) => Qc (x72) (Zes4 x0 k) (Zes0 k 0) (Qs [] [0] (fun z_ => Zes3 x0 k)
 Qz
 (fun _ => Qz)) Qk))) (Qs [] [0] (fun z_ => Zes14 x0 k)
 Qz
 (fun _ => Qs [] [0] (fun z_ => Zes10 x0 k)
 (Qs [(3, .int .i64)] [0] (fun z_ => Zes13 x0 k z_.1)
 Qz
 (fun (x3, _) => Qs [(21, .bool)] [0, 3] (fun z_ => Zes12 x0 k x3 z_.1)
 Qz
 (fun (x21, _) => Qc (x21) (Zes11 k x3) (Zes10 x0 k) (Qs [(2, .int .i64)] [] (fun z_ => Zes11 k z_.1)
 Qz
 (fun (x2_1, _) => Qr)) Qk)))
 (fun _ => Qs [(27, .bool)] [0] (fun z_ => Zes9 x0 k z_.1)
 Qz
 (fun (x27, _) => Qc (x27) (Zes8 x0 k) (Zes0 k 0) (Qs [] [0] (fun z_ => Zes7 x0 k)
 Qz
 (fun _ => Qz)) Qk))))))))))
 (fun _ => Qs [(2, .int .i64)] [] (fun z_ => Zes0 k z_.1)
 Qz
 (fun (x2, _) => Qr)))) h_
abbrev Zet0 (k : (Int → K)) (x2 : Int) : K :=
 k x2
abbrev Zet1 (c : OA) (k : (Int → K)) : K :=
 nn c fun x4 =>
 ldI .i64 (x4.add 5) fun x6 =>
 Zet0 k x6
abbrev Yj1 (c : OA) : M Int := fun k =>
 Zet1 c k
theorem Yhv (c : OA) (k : Int → K) (w : World) (h_ : Yj1 c k w) : Yc1 c k w :=
 Yae (P := Tryz.prog) Tryz.func20 rfl (by kernel_rfl)
 (Qs [] [0] (fun z_ => Zet1 c k)
 Qz
 (fun _ => Qs [(2, .int .i64)] [] (fun z_ => Zet0 k z_.1)
 Qz
 (fun (x2, _) => Qr))) h_
abbrev Yli (c : OA) (at_1 : Int) : M Unit := fun k =>
 nn c fun x5 =>
 ldP (x5.add 1) fun x7 =>
 Yea x7 at_1 fun x9 =>
 k ()
theorem Yij (c : OA) (at_1 : Int) (k : Unit → K) (w : World) (h_ : Yli c at_1 k w) : Ydb c at_1 k w :=
 Yae (P := Tryz.prog) Tryz.func25 rfl (by kernel_rfl)
 Qz h_
abbrev Zeu0 (k : (Int → K)) (x4 : Int) : K :=
 k x4
abbrev Zeu1 (c : OA) (at_1 : Int) (k : (Int → K)) : K :=
 nn c fun x6 =>
 ldP (x6.add 1) fun x8 =>
 Ybk x8 at_1 fun x10 =>
 Zeu0 k x10
abbrev Yj2 (c : OA) (at_1 : Int) : M Int := fun k =>
 Zeu1 c at_1 k
theorem Yhw (c : OA) (at_1 : Int) (k : Int → K) (w : World) (h_ : Yj2 c at_1 k w) : Yc2 c at_1 k w :=
 Yae (P := Tryz.prog) Tryz.func26 rfl (by kernel_rfl)
 (Qs [] [0, 1] (fun z_ => Zeu1 c at_1 k)
 Qz
 (fun _ => Qs [(4, .int .i64)] [] (fun z_ => Zeu0 k z_.1)
 Qz
 (fun (x4, _) => Qr))) h_
abbrev Zev0 (k : (Int → K)) (x2 : Int) : K :=
 k x2
abbrev Zev1 (c : OA) (k : (Int → K)) : K :=
 nn c fun x4 =>
 ldI .i64 (x4.add 6) fun x6 =>
 Zev0 k x6
abbrev Ylj (c : OA) : M Int := fun k =>
 Zev1 c k
theorem Yik (c : OA) (k : Int → K) (w : World) (h_ : Ylj c k w) : Ydd c k w :=
 Yae (P := Tryz.prog) Tryz.func58 rfl (by kernel_rfl)
 (Qs [] [0] (fun z_ => Zev1 c k)
 Qz
 (fun _ => Qs [(2, .int .i64)] [] (fun z_ => Zev0 k z_.1)
 Qz
 (fun (x2, _) => Qr))) h_
abbrev Zew0 (k : (OA → K)) (x6 : Addr) : K :=
 k (some x6)
abbrev Zew1 (a : OA) (roots : Fv) (k : (OA → K)) (m : OA) : K :=
 Ymr a m fun x15 =>
 alK (.cells #[.pointer a, .pointer m, .pointer x15, roots.v, .int .i64 0, .int .i64 0, .int .i64 0] 129) fun b =>
 Zew0 k ⟨b, 0, none⟩
abbrev Zew2 (a : OA) (most : Int) (roots : Fv) (k : (OA → K)) : K :=
 Yo7 a most fun x10 =>
 Zew1 a roots k x10
abbrev Yxx (a : OA) (most : Int) (roots : Fv) : M OA := fun k =>
 Zew2 a most roots k
theorem Yxy (a : OA) (most : Int) (roots : Fv) (k : OA → K) (w : World) (h_ : Yxx a most roots k w) : Ymo a most roots k w :=
 Yae (P := Tryz.prog) Tryz.func60 rfl (by kernel_rfl)
 (Qs [] [0, 1, 2] (fun z_ => Zew2 a most roots k)
 Qz
 (fun _ => Qs [(7, .ptr)] [0, 2] (fun z_ => Zew1 a roots k z_.1)
 Qz
 (fun (m, _) => Qs [(6, .addr)] [] (fun z_ => Zew0 k z_.1)
 Qz
 (fun (x6, _) => Qr)))) h_
abbrev Zex0 (c : OA) (at_1 : Int) (k : (Unit → K)) : K :=
 nn c fun x10 =>
 ldP (x10.add 1) fun x12 =>
 Ydu x12 at_1 fun x14 =>
 k ()
abbrev Zex1 (c : OA) (at_1 : Int) (k : (Unit → K)) (x8 : Bool) : K :=
 brK x8
 (Zex0 c at_1 k)
 (k ())
abbrev Ygh (c : OA) (at_1 : Int) : M Unit := fun k =>
 nn c fun x5 =>
 ldI .i64 (x5.add 4) fun x7 =>
 Zex1 c at_1 k (x7 != 0)
theorem Yji (c : OA) (at_1 : Int) (k : Unit → K) (w : World) (h_ : Ygh c at_1 k w) : Ydk c at_1 k w :=
 Yae (P := Tryz.prog) Tryz.func63 rfl (by kernel_rfl)
 (Qs [(8, .bool)] [0, 1] (fun z_ => Zex1 c at_1 k z_.1)
 Qz
 (fun (x8, _) => Qc (x8) (Zex0 c at_1 k) (k ()) Qz Qk)) h_
abbrev Zey0 (c : OA) (at_1 : Int) (k : (Unit → K)) : K :=
 nn c fun x10 =>
 ldP (x10.add 1) fun x12 =>
 Yb9 x12 at_1 fun x14 =>
 k ()
abbrev Zey1 (c : OA) (at_1 : Int) (k : (Unit → K)) (x8 : Bool) : K :=
 brK x8
 (Zey0 c at_1 k)
 (k ())
abbrev Yfi (c : OA) (at_1 : Int) : M Unit := fun k =>
 nn c fun x5 =>
 ldI .i64 (x5.add 4) fun x7 =>
 Zey1 c at_1 k (x7 == 1)
theorem Yhx (c : OA) (at_1 : Int) (k : Unit → K) (w : World) (h_ : Yfi c at_1 k w) : Yc3 c at_1 k w :=
 Yae (P := Tryz.prog) Tryz.func65 rfl (by kernel_rfl)
 (Qs [(8, .bool)] [0, 1] (fun z_ => Zey1 c at_1 k z_.1)
 Qz
 (fun (x8, _) => Qc (x8) (Zey0 c at_1 k) (k ()) Qz Qk)) h_
abbrev Zez0 (m : OA) (k : (Unit → K)) : K :=
 nn m fun x20 =>
 ldP (x20.add 1) fun x22 =>
 Ye3 x22 fun x23 =>
 nn m fun x24 =>
 stK (Addr.add (x24.add 4) 0) (.bool false) <|
 nn m fun x26 =>
 stK (Addr.add (x26.add 5) 0) (.int .i64 x23) <|
 k ()
abbrev Zez1 (m : OA) (k : (Unit → K)) : K :=
 nn m fun x13 =>
 ldP (x13.add 3) fun x15 =>
 Ydf x15 fun x16 =>
 Zez0 m k
abbrev Zez2 (m : OA) (k : (Unit → K)) : K :=
 nn m fun x8 =>
 ldP (x8.add 2) fun x10 =>
 Ydq x10 fun x11 =>
 Zez1 m k
abbrev Ypv (m : OA) : M Unit := fun k =>
 nn m fun x3 =>
 ldP (x3.add 1) fun x5 =>
 Ydq x5 fun x6 =>
 Zez2 m k
theorem Yl8 (m : OA) (k : Unit → K) (w : World) (h_ : Ypv m k w) : Yeu m k w :=
 Yae (P := Tryz.prog) Tryz.func69 rfl (by kernel_rfl)
 (Qs [] [0] (fun z_ => Zez2 m k)
 Qz
 (fun _ => Qs [] [0] (fun z_ => Zez1 m k)
 Qz
 (fun _ => Qs [] [0] (fun z_ => Zez0 m k)
 Qz
 (fun _ => Qz)))) h_
abbrev Zfa0 (k : (Bool → K)) (x2 : Bool) : K :=
 k x2
abbrev Zfa1 (k : (Bool → K)) (more_1 : Bool) : K :=
 Zfa0 k more_1
abbrev Zfa2 (x12_1 : Int) (c_1 : ((Bool × Int × Unit) → K)) (more_3 : Bool) : K :=
 c_1 (more_3, (IntKind.wrap .i64 (x12_1 + 1)), ())
abbrev Zfa3 (more_2 : Bool) (x12_1 : Int) (c_1 : ((Bool × Int × Unit) → K)) (x21 : Bool) : K :=
 brK x21
 (Zfa2 x12_1 c_1 true)
 (Zfa2 x12_1 c_1 more_2)
abbrev Zfa4 (c : OA) (more_2 : Bool) (x12_1 : Int) (c_1 : ((Bool × Int × Unit) → K)) (at_1 : Int) : K :=
 nn c fun x17 =>
 ldP (x17.add 1) fun x19 =>
 Yb9 x19 at_1 fun x21_1 =>
 Zfa3 more_2 x12_1 c_1 x21_1
abbrev Zfa5 (c : OA) (x10 : Sl) (more_2 : Bool) (x12_1 : Int) (c_1 : ((Bool × Int × Unit) → K)) : K :=
 ixS x10.p x10.n x12_1 1 fun x14 =>
 ldI .i64 x14 fun x15 =>
 Zfa4 c more_2 x12_1 c_1 x15
abbrev Zfa6 (c : OA) (k : (Bool → K)) (x10 : Sl) (more_2 : Bool) (x12_1 : Int) (c_1 : ((Bool × Int × Unit) → K)) (x13 : Bool) : K :=
 brK x13
 (Zfa5 c x10 more_2 x12_1 c_1)
 (Zfa1 k more_2)
abbrev Zfa7 (c : OA) (k : (Bool → K)) (x10 : Sl) (x11 : Int) (more_2 : Bool) (x12_1 : Int) (c_1 : ((Bool × Int × Unit) → K)) : K :=
 Zfa6 c k x10 more_2 x12_1 c_1 (decide (x12_1 < x11))
abbrev Zfa8 (c : OA) (k : (Bool → K)) (more : Bool) (x10 : Sl) (x11 : Int) (x12 : Int) : K :=
 lp (fun (z_ : (Bool × Int × Unit)) c_ => Zfa7 c k x10 x11 z_.1 z_.2.1 c_) (more, x12, ())
abbrev Zfa9 (c : OA) (k : (Bool → K)) (more : Bool) : K :=
 nn c fun x7 =>
 ldF (x7.add 3) fun x9 =>
 dyn Tryz.prog (x9.v) #[] (.one (.sc (.slice))) fun x10_1 =>
 Zfa8 c k more x10_1 ((x10_1.n : Nat) : Int) 0
abbrev Yf7 (c : OA) : M Bool := fun k =>
 Zfa9 c k false
theorem Yil (c : OA) (k : Bool → K) (w : World) (h_ : Yf7 c k w) : Ya2 c k w :=
 Yae (P := Tryz.prog) Tryz.func70 rfl (by kernel_rfl)
 (Qs [] [0] (fun z_ => Zfa9 c k false)
 Qz
 (fun _ => Qs [(3, .bool)] [0] (fun z_ => Zfa9 c k z_.1)
 Qz
 (fun (more, _) => Qs [(3, .bool)] [] (fun z_ => Zfa1 k z_.1)
 (Qs [(10, .slice), (11, .int .i64), (12, .int .i64)] [0, 3] (fun z_ => Zfa8 c k more z_.1 z_.2.1 z_.2.2.1)
 Qz
 (fun (x10, x11, x12, _) => Qb (Ql [(3, .bool), (12, .int .i64)] [0, 10, 11] (fun (z_ : (Bool × Int × Unit)) c_ => Zfa7 c k x10 x11 z_.1 z_.2.1 c_) (more, x12, ())
 (fun (more_2, x12_1, _) c_1 => Qs [(13, .bool)] [0, 3, 10, 11, 12] (fun z_ => Zfa6 c k x10 more_2 x12_1 c_1 z_.1)
 Qz
 (fun (x13, _) => Qs [] [0, 3, 10, 11, 12] (fun z_ => Zfa5 c x10 more_2 x12_1 c_1)
 (Qc (x13) (Zfa5 c x10 more_2 x12_1 c_1) (Zfa1 k more_2) Qk Qx)
 (fun _ => Qs [(3, .bool)] [0, 10, 11, 12] (fun z_ => Zfa2 x12_1 c_1 z_.1)
 (Qb (Qs [(5, .int .i64)] [0, 3, 10, 11, 12] (fun z_ => Zfa4 c more_2 x12_1 c_1 z_.1)
 Qz
 (fun (at_1, _) => Qs [(21, .bool)] [0, 3, 10, 11, 12] (fun z_ => Zfa3 more_2 x12_1 c_1 z_.1)
 Qz
 (fun (x21, _) => Qc (x21) (Zfa2 x12_1 c_1 true) (Zfa2 x12_1 c_1 more_2) Qz Qk))))
 (fun (more_3, _) => Qz)))))))
 (fun (more_1, _) => Qs [(2, .bool)] [] (fun z_ => Zfa0 k z_.1)
 Qz
 (fun (x2, _) => Qr))))) h_
abbrev Zfb0 (k : (Bool → K)) (x2 : Bool) : K :=
 k x2
abbrev Zfb1 (k : (Bool → K)) (x2_1 : Bool) : K :=
 k x2_1
abbrev Zfb2 (m : OA) (k : (Bool → K)) : K :=
 nn m fun x44 =>
 stK (Addr.add (x44.add 4) 0) (.bool false) <|
 nn m fun x46 =>
 stK (Addr.add (x46.add 5) 0) (.int .i64 0) <|
 Zfb1 k true
abbrev Zfb3 (m : OA) (k : (Bool → K)) (x41 : Bool) : K :=
 brK x41
 (Zfb2 m k)
 (Zfb0 k false)
abbrev Zfb4 (m : OA) (k : (Bool → K)) : K :=
 nn m fun x39 =>
 ldB (x39.add 4) fun x41_1 =>
 Zfb3 m k x41_1
abbrev Zfb5 (k : (Bool → K)) (x2_2 : Bool) : K :=
 k x2_2
abbrev Zfb6 (m : OA) (k : (Bool → K)) (at_1 : Int) : K :=
 Ydr m at_1 fun x37 =>
 Zfb5 k true
abbrev Zfb7 (m : OA) (k : (Bool → K)) (at_1 : Int) : K :=
 nn m fun x33 =>
 stK (Addr.add (x33.add 5) 0) (.int .i64 (IntKind.wrap .i64 (at_1 + 1))) <|
 Zfb6 m k at_1
abbrev Zfb8 (m : OA) (k : (Bool → K)) (at_1 : Int) (x29 : Bool) : K :=
 brK x29
 (Zfb7 m k at_1)
 (Zfb4 m k)
abbrev Zfb9 (m : OA) (k : (Bool → K)) (at_1 : Int) (ok : Bool) : K :=
 Zfb8 m k at_1 ok
abbrev Zfb10 (m : OA) (k : (Bool → K)) : K :=
 Ye4 m fun x26 =>
 Zfb9 m k x26.1 x26.2
abbrev Zfb11 (k : (Bool → K)) (x2_3 : Bool) : K :=
 k x2_3
abbrev Zfb12 (m : OA) (k : (Bool → K)) (at_2 : Int) : K :=
 Ydr m at_2 fun x23 =>
 Zfb11 k true
abbrev Zfb13 (m : OA) (k : (Bool → K)) (c : (Unit → K)) (at_2 : Int) (x20 : Bool) : K :=
 brK x20
 (Zfb12 m k at_2)
 (c ())
abbrev Zfb14 (m : OA) (k : (Bool → K)) (c : (Unit → K)) (at_2 : Int) : K :=
 Ybk m at_2 fun x19 =>
 Zfb13 m k c at_2 (x19 == 1)
abbrev Zfb15 (m : OA) (k : (Bool → K)) (c : (Unit → K)) (at_2 : Int) (x16 : Bool) : K :=
 brK x16
 (Zfb10 m k)
 (Zfb14 m k c at_2)
abbrev Zfb16 (m : OA) (k : (Bool → K)) (c : (Unit → K)) (at_2 : Int) (ok_1 : Bool) : K :=
 Zfb15 m k c at_2 (!ok_1)
abbrev Zfb17 (m : OA) (k : (Bool → K)) (c : (Unit → K)) : K :=
 nn m fun x9 =>
 ldP (x9.add 3) fun x11 =>
 Ycp x11 fun x12 =>
 Zfb16 m k c x12.1 x12.2
abbrev Yjq (m : OA) : M Bool := fun k =>
 lp (fun (z_ : Unit) c_ => Zfb17 m k c_) ()
theorem Ynj (m : OA) (k : Bool → K) (w : World) (h_ : Yjq m k w) : Ye2 m k w :=
 Yae (P := Tryz.prog) Tryz.func71 rfl (by kernel_rfl)
 (Qs [] [0] (fun z_ => lp (fun (z_ : Unit) c_ => Zfb17 m k c_) ())
 Qz
 (fun _ => Qs [] [0] (fun z_ => Zfb10 m k)
 (Qb (Ql [] [0] (fun (z_ : Unit) c_ => Zfb17 m k c_) ()
 (fun _ c => Qb (Qs [(3, .int .i64), (4, .bool)] [0] (fun z_ => Zfb16 m k c z_.1 z_.2.1)
 Qz
 (fun (at_2, ok_1, _) => Qs [] [0, 3] (fun z_ => Zfb14 m k c at_2)
 (Qs [(16, .bool)] [0, 3] (fun z_ => Zfb15 m k c at_2 z_.1)
 Qz
 (fun (x16, _) => Qc (x16) (Zfb10 m k) (Zfb14 m k c at_2) Qx Qk))
 (fun _ => Qs [(20, .bool)] [0, 3] (fun z_ => Zfb13 m k c at_2 z_.1)
 Qz
 (fun (x20, _) => Qc (x20) (Zfb12 m k at_2) (c ()) (Qs [] [] (fun z_ => Zfb11 k true)
 Qz
 (fun _ => Qs [(2, .bool)] [] (fun z_ => Zfb11 k z_.1)
 Qz
 (fun (x2_3, _) => Qr))) Qk)))))))
 (fun _ => Qs [] [0] (fun z_ => Zfb4 m k)
 (Qs [(5, .int .i64), (6, .bool)] [0] (fun z_ => Zfb9 m k z_.1 z_.2.1)
 Qz
 (fun (at_1, ok, _) => Qs [(29, .bool)] [0, 5] (fun z_ => Zfb8 m k at_1 z_.1)
 Qz
 (fun (x29, _) => Qc (x29) (Zfb7 m k at_1) (Zfb4 m k) (Qs [] [0, 5] (fun z_ => Zfb6 m k at_1)
 Qz
 (fun _ => Qs [] [] (fun z_ => Zfb5 k true)
 Qz
 (fun _ => Qs [(2, .bool)] [] (fun z_ => Zfb5 k z_.1)
 Qz
 (fun (x2_2, _) => Qr)))) Qk)))
 (fun _ => Qs [] [] (fun z_ => Zfb0 k false)
 (Qs [(41, .bool)] [0] (fun z_ => Zfb3 m k z_.1)
 Qz
 (fun (x41, _) => Qc (x41) (Zfb2 m k) (Zfb0 k false) (Qs [] [] (fun z_ => Zfb1 k true)
 Qz
 (fun _ => Qs [(2, .bool)] [] (fun z_ => Zfb1 k z_.1)
 Qz
 (fun (x2_1, _) => Qr))) Qk))
 (fun _ => Qs [(2, .bool)] [] (fun z_ => Zfb0 k z_.1)
 Qz
 (fun (x2, _) => Qr)))))) h_
abbrev Ynk (s : OA) : M Unit := fun k =>
 nn s fun x4 =>
 stK (Addr.add (x4.add 2) 0) (.int .i64 1) <|
 nn s fun x6 =>
 stK (Addr.add (x6.add 3) 0) (.slice none 0 0) <|
 k ()
theorem Yj3 (s : OA) (k : Unit → K) (w : World) (h_ : Ynk s k w) : Ydt s k w :=
 Yae (P := Tryz.prog) Tryz.func72 rfl (by kernel_rfl)
 Qz h_
abbrev Zfc0 (k : (Int → K)) (x2 : Int) : K :=
 k x2
abbrev Zfc1 (s : OA) (k : (Int → K)) : K :=
 nn s fun x57 =>
 ldI .i64 (x57.add 2) fun x59 =>
 nn s fun x61 =>
 stK (Addr.add (x61.add 2) 0) (.int .i64 (IntKind.wrap .i64 (x59 + 1))) <|
 Zfc0 k 0
abbrev Zfc2 (k : (Int → K)) (x2_1 : Int) : K :=
 k x2_1
abbrev Zfc3 (s : OA) (k : (Int → K)) (e : Int) (x54 : Bool) : K :=
 brK x54
 (Zfc2 k e)
 (Zfc1 s k)
abbrev Zfc4 (s : OA) (k : (Int → K)) (e : Int) : K :=
 Zfc3 s k e (e != 0)
abbrev Zfc5 (s : OA) (k : (Int → K)) : K :=
 tick fun _ =>
 nn s fun x43 =>
 ldP (x43.add 0) fun x45 =>
 nn s fun x47 =>
 ldI .i64 (x47.add 2) fun x49 =>
 Ydl x45 x49 fun x50 =>
 Zfc4 s k x50.2
abbrev Zfc6 (s : OA) (x17_1 : Int) (c : ((Int × Unit) → K)) (at_1 : Int) : K :=
 nn s fun x32 =>
 ldS (x32.add 3) fun x34 =>
 alK (.cells #[.int .i64 at_1] 3) fun b =>
 semT Tryz.prog (Builtin.append_ #[27, 27] 27 #[x34.v, .slice (some ⟨b, 0, none⟩) 1 1]) (.one (.sc (.slice))) fun x37 =>
 nn s fun x38 =>
 stK (Addr.add (x38.add 3) 0) (x37.v) <|
 c ((IntKind.wrap .i64 (x17_1 + 1)), ())
abbrev Zfc7 (k : (Int → K)) (x2_2 : Int) : K :=
 k x2_2
abbrev Zfc8 (s : OA) (k : (Int → K)) (x17_1 : Int) (c : ((Int × Unit) → K)) (at_1 : Int) (e_1 : Int) (x28 : Bool) : K :=
 brK x28
 (Zfc7 k e_1)
 (Zfc6 s x17_1 c at_1)
abbrev Zfc9 (s : OA) (k : (Int → K)) (x17_1 : Int) (c : ((Int × Unit) → K)) (at_1 : Int) (e_1 : Int) : K :=
 Zfc8 s k x17_1 c at_1 e_1 (e_1 != 0)
abbrev Zfc10 (s : OA) (k : (Int → K)) (x17_1 : Int) (c : ((Int × Unit) → K)) (at_1 : Int) : K :=
 nn s fun x22 =>
 ldP (x22.add 0) fun x24 =>
 Ybo x24 (-1) at_1 fun x26 =>
 Zfc9 s k x17_1 c at_1 x26
abbrev Zfc11 (s : OA) (k : (Int → K)) (x15 : Sl) (x17_1 : Int) (c : ((Int × Unit) → K)) : K :=
 ixS x15.p x15.n x17_1 1 fun x19 =>
 ldI .i64 x19 fun x20 =>
 Zfc10 s k x17_1 c x20
abbrev Zfc12 (s : OA) (k : (Int → K)) (x15 : Sl) (x17_1 : Int) (c : ((Int × Unit) → K)) (x18 : Bool) : K :=
 brK x18
 (Zfc11 s k x15 x17_1 c)
 (Zfc5 s k)
abbrev Zfc13 (s : OA) (k : (Int → K)) (x15 : Sl) (x16 : Int) (x17_1 : Int) (c : ((Int × Unit) → K)) : K :=
 Zfc12 s k x15 x17_1 c (decide (x17_1 < x16))
abbrev Zfc14 (s : OA) (k : (Int → K)) (x15 : Sl) (x16 : Int) (x17 : Int) : K :=
 lp (fun (z_ : (Int × Unit)) c_ => Zfc13 s k x15 x16 z_.1 c_) (x17, ())
abbrev Zfc15 (s : OA) (k : (Int → K)) : K :=
 nn s fun x12 =>
 ldI .i64 (x12.add 2) fun x14 =>
 Ycq s x14 fun x15_1 =>
 Zfc14 s k x15_1 ((x15_1.n : Nat) : Int) 0
abbrev Zfc16 (k : (Int → K)) (x2_3 : Int) : K :=
 k x2_3
abbrev Zfc17 (s : OA) (k : (Int → K)) (x9 : Bool) : K :=
 brK x9
 (Zfc16 k 0)
 (Zfc15 s k)
abbrev Zfc18 (s : OA) (k : (Int → K)) : K :=
 Ycw s fun x9_1 =>
 Zfc17 s k x9_1
abbrev Yhi (s : OA) : M Int := fun k =>
 Zfc18 s k
theorem Ylk (s : OA) (k : Int → K) (w : World) (h_ : Yhi s k w) : Yd9 s k w :=
 Yae (P := Tryz.prog) Tryz.func73 rfl (by kernel_rfl)
 (Qs [] [0] (fun z_ => Zfc18 s k)
 Qz
 (fun _ => Qs [] [0] (fun z_ => Zfc15 s k)
 (Qs [(9, .bool)] [0] (fun z_ => Zfc17 s k z_.1)
 Qz
 (fun (x9, _) => Qc (x9) (Zfc16 k 0) (Zfc15 s k) (Qs [(2, .int .i64)] [] (fun z_ => Zfc16 k z_.1)
 Qz
 (fun (x2_3, _) => Qr)) Qk))
 (fun _ => Qs [] [0] (fun z_ => Zfc5 s k)
 (Qs [(15, .slice), (16, .int .i64), (17, .int .i64)] [0] (fun z_ => Zfc14 s k z_.1 z_.2.1 z_.2.2.1)
 Qz
 (fun (x15, x16, x17, _) => Qb (Ql [(17, .int .i64)] [0, 15, 16] (fun (z_ : (Int × Unit)) c_ => Zfc13 s k x15 x16 z_.1 c_) (x17, ())
 (fun (x17_1, _) c => Qs [(18, .bool)] [0, 15, 16, 17] (fun z_ => Zfc12 s k x15 x17_1 c z_.1)
 Qz
 (fun (x18, _) => Qs [] [0, 15, 16, 17] (fun z_ => Zfc11 s k x15 x17_1 c)
 (Qc (x18) (Zfc11 s k x15 x17_1 c) (Zfc5 s k) Qk Qx)
 (fun _ => Qs [] [0, 15, 16, 17] (fun z_ => c ((IntKind.wrap .i64 (x17_1 + 1)), ()))
 (Qb (Qs [(4, .int .i64)] [0, 15, 16, 17] (fun z_ => Zfc10 s k x17_1 c z_.1)
 Qz
 (fun (at_1, _) => Qs [] [0, 4, 15, 16, 17] (fun z_ => Zfc6 s x17_1 c at_1)
 (Qs [(5, .int .i64)] [0, 4, 15, 16, 17] (fun z_ => Zfc9 s k x17_1 c at_1 z_.1)
 Qz
 (fun (e_1, _) => Qs [(28, .bool)] [0, 4, 5, 15, 16, 17] (fun z_ => Zfc8 s k x17_1 c at_1 e_1 z_.1)
 Qz
 (fun (x28, _) => Qc (x28) (Zfc7 k e_1) (Zfc6 s x17_1 c at_1) (Qs [(2, .int .i64)] [] (fun z_ => Zfc7 k z_.1)
 Qz
 (fun (x2_2, _) => Qr)) Qk)))
 (fun _ => Qz))))
 (fun _ => Qz)))))))
 (fun _ => Qs [] [0] (fun z_ => Zfc1 s k)
 (Qs [(7, .int .i64)] [0] (fun z_ => Zfc4 s k z_.1)
 (RefK.draw [] [0, 1, 3, 7, 0, 16, 48, 112, 255, 511, 1023, 1023, 2047, 8191] [0, 1, 2, 3, 4, 5, 6, 7, 8, 9, 10, 11, 12, 13] [0, 1, 2, 3, 4, 5, 6, 7, 8, 9, 10, 12, 11, 13] (by kernel_rfl) (by kernel_rfl))
 (fun (e, _) => Qs [(54, .bool)] [0, 7] (fun z_ => Zfc3 s k e z_.1)
 Qz
 (fun (x54, _) => Qc (x54) (Zfc2 k e) (Zfc1 s k) (Qs [(2, .int .i64)] [] (fun z_ => Zfc2 k z_.1)
 Qz
 (fun (x2_1, _) => Qr)) Qk)))
 (fun _ => Qs [] [] (fun z_ => Zfc0 k 0)
 Qz
 (fun _ => Qs [(2, .int .i64)] [] (fun z_ => Zfc0 k z_.1)
 Qz
 (fun (x2, _) => Qr))))))) h_
abbrev Zfd0 (k : (Bool → K)) (x2 : Bool) : K :=
 k x2
abbrev Zfd1 (s : OA) (k : (Bool → K)) : K :=
 tick fun _ =>
 nn s fun x4 =>
 ldI .i64 (x4.add 2) fun x6 =>
 nn s fun x8 =>
 ldP (x8.add 0) fun x10 =>
 nn x10 fun x11 =>
 ldP (x11.add 0) fun x13 =>
 nn x13 fun x14 =>
 ldP (x14.add 0) fun x16 =>
 Ybf x16 fun x17 =>
 chk [.cell (x4.add 2) (.int .i64 x6)] fun _ =>
 Zfd0 k (decide (x6 ≥ x17))
abbrev Yhj (s : OA) : M Bool := fun k =>
 Zfd1 s k
theorem Yll (s : OA) (k : Bool → K) (w : World) (h_ : Yhj s k w) : Ycw s k w :=
 Yae (P := Tryz.prog) Tryz.func74 rfl (by kernel_rfl)
 (Qs [] [0] (fun z_ => Zfd1 s k)
 Qz
 (fun _ => Qs [(2, .bool)] [] (fun z_ => Zfd0 k z_.1)
 (RefK.draw [] [0, 1, 3, 7, 0, 16, 48, 112, 240, 496, 1008, 2032, 4080, 8176, 16368, 32767, 65535] [0, 1, 2, 3, 4, 5, 6, 7, 8, 9, 10, 11, 12, 13, 14, 15, 16] [0, 1, 2, 3, 4, 5, 6, 7, 8, 9, 10, 11, 12, 13, 14, 15, 16] (by kernel_rfl) (by kernel_rfl))
 (fun (x2, _) => Qr))) h_
abbrev Zfe0 (m : OA) (at_1 : Int) (k : (Unit → K)) : K :=
 nn m fun x11 =>
 ldP (x11.add 2) fun x13 =>
 Yb6 x13 at_1 fun x15 =>
 k ()
abbrev Yoo (m : OA) (at_1 : Int) : M Unit := fun k =>
 nn m fun x5 =>
 ldP (x5.add 1) fun x7 =>
 Yb6 x7 at_1 fun x9 =>
 Zfe0 m at_1 k
theorem Ylm (m : OA) (at_1 : Int) (k : Unit → K) (w : World) (h_ : Yoo m at_1 k w) : Yea m at_1 k w :=
 Yae (P := Tryz.prog) Tryz.func84 rfl (by kernel_rfl)
 (Qs [] [0, 1] (fun z_ => Zfe0 m at_1 k)
 Qz
 (fun _ => Qz)) h_
abbrev Zff0 (k : (Int → K)) (x4 : Int) : K :=
 k x4
abbrev Zff1 (k : (Int → K)) (x4_1 : Int) : K :=
 k x4_1
abbrev Zff2 (k : (Int → K)) (x4_2 : Int) : K :=
 k x4_2
abbrev Zff3 (k : (Int → K)) (x12 : Bool) : K :=
 brK x12
 (Zff2 k 1)
 (Zff0 k 0)
abbrev Zff4 (m : OA) (at_1 : Int) (k : (Int → K)) : K :=
 nn m fun x14 =>
 ldP (x14.add 1) fun x16 =>
 Yaw x16 at_1 fun x18 =>
 Zff3 k x18
abbrev Zff5 (m : OA) (at_1 : Int) (k : (Int → K)) (x5 : Bool) : K :=
 brK x5
 (Zff1 k 2)
 (Zff4 m at_1 k)
abbrev Zff6 (m : OA) (at_1 : Int) (k : (Int → K)) : K :=
 nn m fun x7 =>
 ldP (x7.add 2) fun x9 =>
 Yaw x9 at_1 fun x11 =>
 Zff5 m at_1 k x11
abbrev Yop (m : OA) (at_1 : Int) : M Int := fun k =>
 Zff6 m at_1 k
theorem Yln (m : OA) (at_1 : Int) (k : Int → K) (w : World) (h_ : Yop m at_1 k w) : Ybk m at_1 k w :=
 Yae (P := Tryz.prog) Tryz.func85 rfl (by kernel_rfl)
 (Qs [] [0, 1] (fun z_ => Zff6 m at_1 k)
 Qz
 (fun _ => Qs [] [] (fun z_ => Zff0 k 0)
 (Qb (Qs [(5, .bool)] [0, 1] (fun z_ => Zff5 m at_1 k z_.1)
 Qz
 (fun (x5, _) => Qc (x5) (Zff1 k 2) (Zff4 m at_1 k) (Qs [(4, .int .i64)] [] (fun z_ => Zff1 k z_.1)
 Qz
 (fun (x4_1, _) => Qr)) (Qs [(12, .bool)] [] (fun z_ => Zff3 k z_.1)
 Qz
 (fun (x12, _) => Qc (x12) (Zff2 k 1) (Zff0 k 0) (Qs [(4, .int .i64)] [] (fun z_ => Zff2 k z_.1)
 Qz
 (fun (x4_2, _) => Qr)) Qk)))))
 (fun _ => Qs [(4, .int .i64)] [] (fun z_ => Zff0 k z_.1)
 Qz
 (fun (x4, _) => Qr)))) h_
abbrev Zfg0 (k : (OA → K)) (x4 : Addr) : K :=
 k (some x4)
abbrev Zfg1 (a : OA) (most : Int) (k : (OA → K)) (n : Int) : K :=
 Yfv n fun x11 =>
 Yfv n fun x13 =>
 Yg1 most fun x15 =>
 alK (.cells #[.pointer a, .pointer x11, .pointer x13, .pointer x15, .bool false, .int .i64 n] 187) fun b =>
 Zfg0 k ⟨b, 0, none⟩
abbrev Zfg2 (a : OA) (most : Int) (k : (OA → K)) : K :=
 Ybu a fun x7 =>
 Yat x7 fun x8 =>
 Zfg1 a most k x8
abbrev Van (a : OA) (most : Int) : M OA := fun k =>
 Zfg2 a most k
theorem Yzp (a : OA) (most : Int) (k : OA → K) (w : World) (h_ : Van a most k w) : Yo7 a most k w :=
 Yae (P := Tryz.prog) Tryz.func125 rfl (by kernel_rfl)
 (Qs [] [0, 1] (fun z_ => Zfg2 a most k)
 Qz
 (fun _ => Qs [(5, .int .i64)] [0, 1] (fun z_ => Zfg1 a most k z_.1)
 Qz
 (fun (n, _) => Qs [(4, .addr)] [] (fun z_ => Zfg0 k z_.1)
 Qz
 (fun (x4, _) => Qr)))) h_
abbrev Zfh0 (k : (OA → K)) (x4 : Addr) : K :=
 k (some x4)
abbrev Zfh1 (a : OA) (m : OA) (k : (OA → K)) : K :=
 nn a fun x8 =>
 ldP (x8.add 0) fun x10 =>
 nn x10 fun x11 =>
 ldP (x11.add 0) fun x13 =>
 Ybf x13 fun x14 =>
 alK (.cells #[.pointer a, .pointer m, .int .i64 x14, .slice none 0 0] 189) fun b =>
 Zfh0 k ⟨b, 0, none⟩
abbrev Yxz (a : OA) (m : OA) : M OA := fun k =>
 Zfh1 a m k
theorem Yx0 (a : OA) (m : OA) (k : OA → K) (w : World) (h_ : Yxz a m k w) : Ymr a m k w :=
 Yae (P := Tryz.prog) Tryz.func126 rfl (by kernel_rfl)
 (Qs [] [0, 1] (fun z_ => Zfh1 a m k)
 Qz
 (fun _ => Qs [(4, .addr)] [] (fun z_ => Zfh0 k z_.1)
 Qz
 (fun (x4, _) => Qr))) h_
abbrev Zfi0 (m : OA) (at_1 : Int) (k : (Unit → K)) : K :=
 nn m fun x11 =>
 ldP (x11.add 2) fun x13 =>
 Ybl x13 at_1 fun x15 =>
 k ()
abbrev Ynl (m : OA) (at_1 : Int) : M Unit := fun k =>
 nn m fun x5 =>
 ldP (x5.add 1) fun x7 =>
 Ybl x7 at_1 fun x9 =>
 Zfi0 m at_1 k
theorem Yj4 (m : OA) (at_1 : Int) (k : Unit → K) (w : World) (h_ : Ynl m at_1 k w) : Ydu m at_1 k w :=
 Yae (P := Tryz.prog) Tryz.func127 rfl (by kernel_rfl)
 (Qs [] [0, 1] (fun z_ => Zfi0 m at_1 k)
 Qz
 (fun _ => Qz)) h_
abbrev Zfj0 (k : (Bool → K)) (x4 : Bool) : K :=
 k x4
abbrev Zfj1 (m : OA) (k : (Bool → K)) : K :=
 nn m fun x29 =>
 stK (Addr.add (x29.add 4) 0) (.bool true) <|
 Zfj0 k true
abbrev Zfj2 (m : OA) (k : (Bool → K)) (x27 : Bool) : K :=
 brK x27
 (Zfj1 m k)
 (Zfj0 k true)
abbrev Zfj3 (m : OA) (at_1 : Int) (k : (Bool → K)) : K :=
 nn m fun x22 =>
 ldP (x22.add 3) fun x24 =>
 Ydm x24 at_1 fun x26 =>
 Zfj2 m k (!x26)
abbrev Zfj4 (k : (Bool → K)) (x4_1 : Bool) : K :=
 k x4_1
abbrev Zfj5 (m : OA) (at_1 : Int) (k : (Bool → K)) (x20 : Bool) : K :=
 brK x20
 (Zfj4 k false)
 (Zfj3 m at_1 k)
abbrev Zfj6 (m : OA) (at_1 : Int) (k : (Bool → K)) : K :=
 nn m fun x6 =>
 ldP (x6.add 0) fun x8 =>
 Ybp x8 at_1 fun x10 =>
 brK (!x10)
 (Zfj5 m at_1 k true)
 (nn m fun x14 =>
 ldP (x14.add 1) fun x16 =>
 Ybl x16 at_1 fun x18 =>
 Zfj5 m at_1 k (!x18))
abbrev Ypw (m : OA) (at_1 : Int) : M Bool := fun k =>
 Zfj6 m at_1 k
theorem Yl9 (m : OA) (at_1 : Int) (k : Bool → K) (w : World) (h_ : Ypw m at_1 k w) : Yb9 m at_1 k w :=
 Yae (P := Tryz.prog) Tryz.func129 rfl (by kernel_rfl)
 (Qs [] [0, 1] (fun z_ => Zfj6 m at_1 k)
 Qz
 (fun _ => Qs [] [0, 1] (fun z_ => Zfj3 m at_1 k)
 (Qs [(20, .bool)] [0, 1] (fun z_ => Zfj5 m at_1 k z_.1)
 (Qp [7])
 (fun (x20, _) => Qc (x20) (Zfj4 k false) (Zfj3 m at_1 k) (Qs [(4, .bool)] [] (fun z_ => Zfj4 k z_.1)
 Qz
 (fun (x4_1, _) => Qr)) Qk))
 (fun _ => Qs [] [] (fun z_ => Zfj0 k true)
 (Qs [(27, .bool)] [0] (fun z_ => Zfj2 m k z_.1)
 Qz
 (fun (x27, _) => Qc (x27) (Zfj1 m k) (Zfj0 k true) Qz Qk))
 (fun _ => Qs [(4, .bool)] [] (fun z_ => Zfj0 k z_.1)
 Qz
 (fun (x4, _) => Qr))))) h_
abbrev Zfk0 (s : OA) (k : (Unit → K)) : K :=
 nn s fun x9 =>
 ldS (x9.add 0) fun x11 =>
 loB (some (.int .i64 0)) x11.n x11.c fun h =>
 nn s fun x13 =>
 stK (Addr.add (x13.add 0) 0) (.slice (cutP x11.p 0 x11.c 1) (h - 0) (x11.c - 0)) <|
 nn s fun x15 =>
 stK (Addr.add (x15.add 2) 0) (.int .i64 0) <|
 k ()
abbrev Ylo (s : OA) : M Unit := fun k =>
 nn s fun x3 =>
 ldS (x3.add 0) fun x5 =>
 semT Tryz.prog (Builtin.clear_ #[27] 0 #[x5.v]) (.tup []) fun r =>
 Zfk0 s k
theorem Yim (s : OA) (k : Unit → K) (w : World) (h_ : Ylo s k w) : Ydf s k w :=
 Yae (P := Tryz.prog) Tryz.func133 rfl (by kernel_rfl)
 (Qs [] [0] (fun z_ => Zfk0 s k)
 Qz
 (fun _ => Qz)) h_
abbrev Zfl0 (k : ((Int × Bool) → K)) (x2 : Int) (x3 : Bool) : K :=
 k (x2, x3)
abbrev Zfl1 (s : OA) (k : ((Int × Bool) → K)) (x_1 : Int) : K :=
 tick fun _ =>
 nn s fun x26 =>
 ldS (x26.add 0) fun x28 =>
 nn s fun x30 =>
 ldS (x30.add 0) fun x32 =>
 loB (some (.int .i64 (IntKind.wrap .i64 (((x32.n : Nat) : Int) - 1)))) x28.n x28.c fun h =>
 nn s fun x36 =>
 stK (Addr.add (x36.add 0) 0) (.slice (cutP x28.p 0 x28.c 1) (h - 0) (x28.c - 0)) <|
 Zfl0 k x_1 true
abbrev Zfl2 (s : OA) (k : ((Int × Bool) → K)) : K :=
 tick fun _ =>
 nn s fun x13 =>
 ldS (x13.add 0) fun x15 =>
 nn s fun x17 =>
 ldS (x17.add 0) fun x19 =>
 ixS x15.p x15.n (IntKind.wrap .i64 (((x19.n : Nat) : Int) - 1)) 1 fun x22 =>
 ldI .i64 x22 fun x23 =>
 Zfl1 s k x23
abbrev Zfl3 (k : ((Int × Bool) → K)) (x2_1 : Int) (x3_1 : Bool) : K :=
 k (x2_1, x3_1)
abbrev Zfl4 (s : OA) (k : ((Int × Bool) → K)) (x : Int) (x10 : Bool) : K :=
 brK x10
 (Zfl3 k x false)
 (Zfl2 s k)
abbrev Zfl5 (s : OA) (k : ((Int × Bool) → K)) (x : Int) : K :=
 nn s fun x6 =>
 ldS (x6.add 0) fun x8 =>
 Zfl4 s k x (((x8.n : Nat) : Int) == 0)
abbrev Ynm (s : OA) : M (Int × Bool) := fun k =>
 Zfl5 s k 0
theorem Yj5 (s : OA) (k : (Int × Bool) → K) (w : World) (h_ : Ynm s k w) : Ycp s k w :=
 Yae (P := Tryz.prog) Tryz.func135 rfl (by kernel_rfl)
 (Qs [] [0] (fun z_ => Zfl5 s k 0)
 Qz
 (fun _ => Qs [(4, .int .i64)] [0] (fun z_ => Zfl5 s k z_.1)
 Qz
 (fun (x, _) => Qs [] [0] (fun z_ => Zfl2 s k)
 (Qs [(10, .bool)] [0, 4] (fun z_ => Zfl4 s k x z_.1)
 Qz
 (fun (x10, _) => Qc (x10) (Zfl3 k x false) (Zfl2 s k) (Qs [(2, .int .i64), (3, .bool)] [] (fun z_ => Zfl3 k z_.1 z_.2.1)
 Qz
 (fun (x2_1, x3_1, _) => Qr)) Qk))
 (fun _ => Qs [(4, .int .i64)] [0] (fun z_ => Zfl1 s k z_.1)
 (RefK.draw [] [0, 1, 3, 7, 0, 16, 48, 112, 240, 496, 1023, 2047, 4095] [0, 1, 2, 3, 4, 5, 6, 7, 8, 9, 10, 11, 12] [0, 1, 2, 3, 4, 5, 6, 7, 8, 9, 10, 11, 12] (by kernel_rfl) (by kernel_rfl))
 (fun (x_1, _) => Qs [] [4] (fun z_ => Zfl0 k x_1 true)
 (RefK.draw [] [0, 0, 2, 6, 14, 0, 32, 96, 224, 480, 992, 2046, 4095, 8191, 16383] [0, 1, 2, 3, 4, 5, 6, 7, 8, 9, 10, 11, 12, 13, 14] [0, 1, 2, 3, 4, 5, 6, 7, 8, 9, 10, 11, 12, 13, 14] (by kernel_rfl) (by kernel_rfl))
 (fun _ => Qs [(2, .int .i64), (3, .bool)] [] (fun z_ => Zfl0 k z_.1 z_.2.1)
 Qz
 (fun (x2, x3, _) => Qr))))))) h_
abbrev Zfm0 (m : OA) (x26_1 : Int) (c : ((Int × Unit) → K)) (to : Int) : K :=
 Yb9 m to fun x32 =>
 c ((IntKind.wrap .i64 (x26_1 + 1)), ())
abbrev Zfm1 (m : OA) (x24 : Sl) (x26_1 : Int) (c : ((Int × Unit) → K)) : K :=
 ixS x24.p x24.n x26_1 1 fun x28 =>
 ldI .i64 x28 fun x29 =>
 Zfm0 m x26_1 c x29
abbrev Zfm2 (m : OA) (k : (Unit → K)) (x24 : Sl) (x26_1 : Int) (c : ((Int × Unit) → K)) (x27 : Bool) : K :=
 brK x27
 (Zfm1 m x24 x26_1 c)
 (k ())
abbrev Zfm3 (m : OA) (k : (Unit → K)) (x24 : Sl) (x25 : Int) (x26_1 : Int) (c : ((Int × Unit) → K)) : K :=
 Zfm2 m k x24 x26_1 c (decide (x26_1 < x25))
abbrev Zfm4 (m : OA) (k : (Unit → K)) (x24 : Sl) (x25 : Int) (x26 : Int) : K :=
 lp (fun (z_ : (Int × Unit)) c_ => Zfm3 m k x24 x25 z_.1 c_) (x26, ())
abbrev Zfm5 (m : OA) (k : (Unit → K)) (list : Sl) : K :=
 Zfm4 m k list ((list.n : Nat) : Int) 0
abbrev Zfm6 (m : OA) (at_1 : Int) (k : (Unit → K)) : K :=
 nn m fun x16 =>
 ldP (x16.add 0) fun x18 =>
 Ybu x18 fun x19 =>
 Yiw x19 at_1 fun x21 =>
 Zfm5 m k x21.1
abbrev Yqv (m : OA) (at_1 : Int) : M Unit := fun k =>
 nn m fun x9 =>
 ldP (x9.add 2) fun x11 =>
 Ybl x11 at_1 fun x13 =>
 Zfm6 m at_1 k
theorem Ynn (m : OA) (at_1 : Int) (k : Unit → K) (w : World) (h_ : Yqv m at_1 k w) : Ydr m at_1 k w :=
 Yae (P := Tryz.prog) Tryz.func136 rfl (by kernel_rfl)
 (Qs [] [0, 1] (fun z_ => Zfm6 m at_1 k)
 Qz
 (fun _ => Qs [(4, .slice)] [0] (fun z_ => Zfm5 m k z_.1)
 Qz
 (fun (list, _) => Qs [(24, .slice), (25, .int .i64), (26, .int .i64)] [0] (fun z_ => Zfm4 m k z_.1 z_.2.1 z_.2.2.1)
 Qz
 (fun (x24, x25, x26, _) => Qb (Ql [(26, .int .i64)] [0, 24, 25] (fun (z_ : (Int × Unit)) c_ => Zfm3 m k x24 x25 z_.1 c_) (x26, ())
 (fun (x26_1, _) c => Qs [(27, .bool)] [0, 24, 25, 26] (fun z_ => Zfm2 m k x24 x26_1 c z_.1)
 Qz
 (fun (x27, _) => Qs [] [0, 24, 25, 26] (fun z_ => Zfm1 m x24 x26_1 c)
 (Qc (x27) (Zfm1 m x24 x26_1 c) (k ()) Qk Qx)
 (fun _ => Qs [] [0, 24, 25, 26] (fun z_ => c ((IntKind.wrap .i64 (x26_1 + 1)), ()))
 (Qb (Qs [(7, .int .i64)] [0, 24, 25, 26] (fun z_ => Zfm0 m x26_1 c z_.1)
 Qz
 (fun (to, _) => Qz)))
 (fun _ => Qz))))))))) h_
abbrev Zfn0 (k : ((Int × Bool) → K)) (x2 : Int) (x3 : Bool) : K :=
 k (x2, x3)
abbrev Zfn1 (m : OA) (at_2 : Int) (c : ((Int × Bool × Unit) → K)) : K :=
 nn m fun x21 =>
 ldP (x21.add 1) fun x23 =>
 Yap x23 (IntKind.wrap .i64 (at_2 + 1)) fun x26 =>
 c (x26.1, x26.2, ())
abbrev Zfn2 (k : ((Int × Bool) → K)) (x2_1 : Int) (x3_1 : Bool) : K :=
 k (x2_1, x3_1)
abbrev Zfn3 (m : OA) (k : ((Int × Bool) → K)) (at_2 : Int) (c : ((Int × Bool × Unit) → K)) (x35 : Bool) : K :=
 brK x35
 (Zfn2 k at_2 true)
 (Zfn1 m at_2 c)
abbrev Zfn4 (m : OA) (k : ((Int × Bool) → K)) (at_2 : Int) (c : ((Int × Bool × Unit) → K)) : K :=
 nn m fun x30 =>
 ldP (x30.add 2) fun x32 =>
 Yaw x32 at_2 fun x34 =>
 Zfn3 m k at_2 c (!x34)
abbrev Zfn5 (m : OA) (k : ((Int × Bool) → K)) (at_2 : Int) (c : ((Int × Bool × Unit) → K)) (x18 : Bool) : K :=
 brK x18
 (Zfn4 m k at_2 c)
 (Zfn0 k 0 false)
abbrev Zfn6 (m : OA) (k : ((Int × Bool) → K)) (at_2 : Int) (ok_1 : Bool) (c : ((Int × Bool × Unit) → K)) : K :=
 Zfn5 m k at_2 c ok_1
abbrev Zfn7 (m : OA) (k : ((Int × Bool) → K)) (at_1 : Int) (ok : Bool) : K :=
 lp (fun (z_ : (Int × Bool × Unit)) c_ => Zfn6 m k z_.1 z_.2.1 c_) (at_1, ok, ())
abbrev Zfn8 (m : OA) (k : ((Int × Bool) → K)) : K :=
 tick fun _ =>
 nn m fun x8 =>
 ldP (x8.add 1) fun x10 =>
 nn m fun x12 =>
 ldI .i64 (x12.add 5) fun x14 =>
 Yap x10 x14 fun x15 =>
 Zfn7 m k x15.1 x15.2
abbrev Yjr (m : OA) : M (Int × Bool) := fun k =>
 Zfn8 m k
theorem Yno (m : OA) (k : (Int × Bool) → K) (w : World) (h_ : Yjr m k w) : Ye4 m k w :=
 Yae (P := Tryz.prog) Tryz.func137 rfl (by kernel_rfl)
 (Qs [] [0] (fun z_ => Zfn8 m k)
 Qz
 (fun _ => Qs [] [] (fun z_ => Zfn0 k 0 false)
 (Qs [(4, .int .i64), (5, .bool)] [0] (fun z_ => Zfn7 m k z_.1 z_.2.1)
 (RefK.draw [] [0, 1, 3, 7, 0, 16, 48, 112, 255, 511, 1023, 1023, 2047, 8191] [0, 1, 2, 3, 4, 5, 6, 7, 8, 9, 10, 11, 12, 13] [0, 1, 2, 3, 4, 5, 6, 7, 8, 9, 10, 12, 11, 13] (by kernel_rfl) (by kernel_rfl))
 (fun (at_1, ok, _) => Qb (Ql [(4, .int .i64), (5, .bool)] [0] (fun (z_ : (Int × Bool × Unit)) c_ => Zfn6 m k z_.1 z_.2.1 c_) (at_1, ok, ())
 (fun (at_2, ok_1, _) c => Qs [] [0, 4] (fun z_ => Zfn4 m k at_2 c)
 (Qs [(18, .bool)] [0, 4] (fun z_ => Zfn5 m k at_2 c z_.1)
 Qz
 (fun (x18, _) => Qc (x18) (Zfn4 m k at_2 c) (Zfn0 k 0 false) Qk Qx))
 (fun _ => Qs [] [0, 4] (fun z_ => Zfn1 m at_2 c)
 (Qb (Qs [(35, .bool)] [0, 4] (fun z_ => Zfn3 m k at_2 c z_.1)
 Qz
 (fun (x35, _) => Qc (x35) (Zfn2 k at_2 true) (Zfn1 m at_2 c) (Qs [(2, .int .i64), (3, .bool)] [] (fun z_ => Zfn2 k z_.1 z_.2.1)
 Qz
 (fun (x2_1, x3_1, _) => Qr)) Qk)))
 (fun _ => Qz))))))
 (fun _ => Qs [(2, .int .i64), (3, .bool)] [] (fun z_ => Zfn0 k z_.1 z_.2.1)
 Qz
 (fun (x2, x3, _) => Qr)))) h_
abbrev Zfo0 (k : (Sl → K)) (x4 : Sl) : K :=
 k x4
abbrev Zfo1 (k : (Sl → K)) (out_1 : Sl) : K :=
 Zfo0 k out_1
abbrev Zfo2 (s : OA) (at_2 : Int) (c : ((Sl × Int × Bool × Unit) → K)) (out_3 : Sl) : K :=
 nn s fun x29 =>
 ldP (x29.add 0) fun x31 =>
 Ybq x31 (IntKind.wrap .i64 (at_2 + 1)) fun x34 =>
 c (out_3, x34.1, x34.2, ())
abbrev Zfo3 (s : OA) (out_2 : Sl) (at_2 : Int) (c : ((Sl × Int × Bool × Unit) → K)) : K :=
 alK (.cells #[.int .i64 at_2] 3) fun b =>
 semT Tryz.prog (Builtin.append_ #[27, 27] 27 #[out_2.v, .slice (some ⟨b, 0, none⟩) 1 1]) (.one (.sc (.slice))) fun x47 =>
 Zfo2 s at_2 c x47
abbrev Zfo4 (s : OA) (out_2 : Sl) (at_2 : Int) (c : ((Sl × Int × Bool × Unit) → K)) (x43 : Bool) : K :=
 brK x43
 (Zfo3 s out_2 at_2 c)
 (Zfo2 s at_2 c out_2)
abbrev Zfo5 (s : OA) (out_2 : Sl) (at_2 : Int) (c : ((Sl × Int × Bool × Unit) → K)) : K :=
 nn s fun x38 =>
 ldP (x38.add 1) fun x40 =>
 Ybk x40 at_2 fun x42 =>
 Zfo4 s out_2 at_2 c (x42 == 0)
abbrev Zfo6 (s : OA) (k : (Sl → K)) (out_2 : Sl) (at_2 : Int) (c : ((Sl × Int × Bool × Unit) → K)) (x26 : Bool) : K :=
 brK x26
 (Zfo5 s out_2 at_2 c)
 (Zfo1 k out_2)
abbrev Zfo7 (s : OA) (k : (Sl → K)) (from_1 : Int) (out_2 : Sl) (at_2 : Int) (ok_1 : Bool) (c : ((Sl × Int × Bool × Unit) → K)) : K :=
 brK ok_1
 (Zfo6 s k out_2 at_2 c (decide (at_2 < (IntKind.wrap .i64 (from_1 + 512)))))
 (Zfo6 s k out_2 at_2 c false)
abbrev Zfo8 (s : OA) (k : (Sl → K)) (out : Sl) (from_1 : Int) (at_1 : Int) (ok : Bool) : K :=
 lp (fun (z_ : (Sl × Int × Bool × Unit)) c_ => Zfo7 s k from_1 z_.1 z_.2.1 z_.2.2.1 c_) (out, at_1, ok, ())
abbrev Zfo9 (s : OA) (k : (Sl → K)) (out : Sl) (from_1 : Int) : K :=
 nn s fun x13 =>
 ldP (x13.add 0) fun x15 =>
 Ybq x15 from_1 fun x17 =>
 Zfo8 s k out from_1 x17.1 x17.2
abbrev Zfo10 (s : OA) (block : Int) (k : (Sl → K)) (out : Sl) : K :=
 Zfo9 s k out (IntKind.wrap .i64 (block * 512))
abbrev Yg8 (s : OA) (block : Int) : M Sl := fun k =>
 Zfo10 s block k ⟨none, 0, 0⟩
theorem Yj6 (s : OA) (block : Int) (k : Sl → K) (w : World) (h_ : Yg8 s block k w) : Ycq s block k w :=
 Yae (P := Tryz.prog) Tryz.func138 rfl (by kernel_rfl)
 (Qs [] [0, 1] (fun z_ => Zfo10 s block k ⟨none, 0, 0⟩)
 Qz
 (fun _ => Qs [(5, .slice)] [0, 1] (fun z_ => Zfo10 s block k z_.1)
 Qz
 (fun (out, _) => Qs [(6, .int .i64)] [0, 5] (fun z_ => Zfo9 s k out z_.1)
 Qz
 (fun (from_1, _) => Qs [(5, .slice)] [] (fun z_ => Zfo1 k z_.1)
 (Qs [(7, .int .i64), (8, .bool)] [0, 5, 6] (fun z_ => Zfo8 s k out from_1 z_.1 z_.2.1)
 Qz
 (fun (at_1, ok, _) => Qb (Ql [(5, .slice), (7, .int .i64), (8, .bool)] [0, 6] (fun (z_ : (Sl × Int × Bool × Unit)) c_ => Zfo7 s k from_1 z_.1 z_.2.1 z_.2.2.1 c_) (out, at_1, ok, ())
 (fun (out_2, at_2, ok_1, _) c => Qs [] [0, 5, 6, 7] (fun z_ => Zfo5 s out_2 at_2 c)
 (Qs [(26, .bool)] [0, 5, 6, 7] (fun z_ => Zfo6 s k out_2 at_2 c z_.1)
 (Qp [1])
 (fun (x26, _) => Qc (x26) (Zfo5 s out_2 at_2 c) (Zfo1 k out_2) Qk Qx))
 (fun _ => Qs [(5, .slice)] [0, 6, 7] (fun z_ => Zfo2 s at_2 c z_.1)
 (Qb (Qs [(43, .bool)] [0, 5, 6, 7] (fun z_ => Zfo4 s out_2 at_2 c z_.1)
 Qz
 (fun (x43, _) => Qc (x43) (Zfo3 s out_2 at_2 c) (Zfo2 s at_2 c out_2) Qz Qk)))
 (fun (out_3, _) => Qz))))))
 (fun (out_1, _) => Qs [(4, .slice)] [] (fun z_ => Zfo0 k z_.1)
 Qz
 (fun (x4, _) => Qr)))))) h_
abbrev Zfp0 (k : (OA → K)) (x2 : Addr) : K :=
 k (some x2)
abbrev Zfp1 (most : Int) (k : (OA → K)) : K :=
 alK (.cells #[.slice none 0 0, .int .i64 (max2I most 0), .int .i64 0] 237) fun b =>
 Zfp0 k ⟨b, 0, none⟩
abbrev Yvt (most : Int) : M OA := fun k =>
 Zfp1 most k
theorem Yqw (most : Int) (k : OA → K) (w : World) (h_ : Yvt most k w) : Yg1 most k w :=
 Yae (P := Tryz.prog) Tryz.func184 rfl (by kernel_rfl)
 (Qs [] [0] (fun z_ => Zfp1 most k)
 Qz
 (fun _ => Qs [(2, .addr)] [] (fun z_ => Zfp0 k z_.1)
 Qz
 (fun (x2, _) => Qr))) h_
abbrev Zfq0 (k : (Bool → K)) (x4 : Bool) : K :=
 k x4
abbrev Zfq1 (s : OA) (x : Int) (k : (Bool → K)) : K :=
 nn s fun x24 =>
 ldS (x24.add 0) fun x26 =>
 alK (.cells #[.int .i64 x] 3) fun b =>
 semT Tryz.prog (Builtin.append_ #[27, 27] 27 #[x26.v, .slice (some ⟨b, 0, none⟩) 1 1]) (.one (.sc (.slice))) fun x29 =>
 nn s fun x30 =>
 stK (Addr.add (x30.add 0) 0) (x29.v) <|
 Zfq0 k true
abbrev Zfq2 (k : (Bool → K)) (x4_1 : Bool) : K :=
 k x4_1
abbrev Zfq3 (s : OA) (k : (Bool → K)) : K :=
 nn s fun x16 =>
 ldI .i64 (x16.add 2) fun x18 =>
 nn s fun x20 =>
 stK (Addr.add (x20.add 2) 0) (.int .i64 (IntKind.wrap .i64 (x18 + 1))) <|
 Zfq2 k false
abbrev Zfq4 (s : OA) (x : Int) (k : (Bool → K)) (x14 : Bool) : K :=
 brK x14
 (Zfq3 s k)
 (Zfq1 s x k)
abbrev Zfq5 (s : OA) (x : Int) (k : (Bool → K)) : K :=
 tick fun _ =>
 nn s fun x6 =>
 ldS (x6.add 0) fun x8 =>
 nn s fun x11 =>
 ldI .i64 (x11.add 1) fun x13 =>
 Zfq4 s x k (decide (((x8.n : Nat) : Int) ≥ x13))
abbrev Yma (s : OA) (x : Int) : M Bool := fun k =>
 Zfq5 s x k
theorem Yjj (s : OA) (x : Int) (k : Bool → K) (w : World) (h_ : Yma s x k w) : Ydm s x k w :=
 Yae (P := Tryz.prog) Tryz.func187 rfl (by kernel_rfl)
 (Qs [] [0, 1] (fun z_ => Zfq5 s x k)
 Qz
 (fun _ => Qs [] [0, 1] (fun z_ => Zfq1 s x k)
 (Qs [(14, .bool)] [0, 1] (fun z_ => Zfq4 s x k z_.1)
 (RefK.draw [] [0, 1, 3, 7, 15, 0, 32, 96, 224, 511] [0, 1, 2, 3, 4, 5, 6, 7, 8, 9] [0, 1, 2, 3, 4, 5, 6, 7, 8, 9] (by kernel_rfl) (by kernel_rfl))
 (fun (x14, _) => Qc (x14) (Zfq3 s k) (Zfq1 s x k) (Qs [] [] (fun z_ => Zfq2 k false)
 Qz
 (fun _ => Qs [(4, .bool)] [] (fun z_ => Zfq2 k z_.1)
 Qz
 (fun (x4_1, _) => Qr))) Qk))
 (fun _ => Qs [] [] (fun z_ => Zfq0 k true)
 Qz
 (fun _ => Qs [(4, .bool)] [] (fun z_ => Zfq0 k z_.1)
 Qz
 (fun (x4, _) => Qr))))) h_
end
section
set_option maxHeartbeats 1000000
def Stk (st : Nat) (most : Int) (l : List Int) : SL := ex fun q : Sl × Int => vec 3 1 q.1 (ints l) * pt st (.cells [q.1.v, .int .i64 most, .int .i64 q.2].toArray 237) * pu ((l.length : Int) ≤ most ∧ most ≤ 2 ^ 30)
section
variable {B : World} {P R : SL} {t : K}
theorem Yvu {st : Nat} {most : Int} {l : List Int} (h : ∀ s m, (l.length : Int) ≤ most → most ≤ 2 ^ 30 → T B (R * vec 3 1 s (ints l) * pt st (.cells [s.v, .int .i64 most, .int .i64 m].toArray 237)) t) : T B (R * Stk st most l) t := by
 refine Ywt fun q => ?_
 rw [← Yad]
 refine Yz5 fun hq => T.perm ?_ (h q.1 q.2 hq.1 hq.2)
 simp only [Yad]
theorem Yin {st : Nat} {most : Int} {l : List Int} {s : Sl} {m : Int} (h1 : (l.length : Int) ≤ most) (h2 : most ≤ 2 ^ 30) (h : T B (R * Stk st most l) t) : T B (R * vec 3 1 s (ints l) * pt st (.cells [s.v, .int .i64 most, .int .i64 m].toArray 237)) t := by
 refine Ysu (φ := (l.length : Int) ≤ most ∧ most ≤ 2 ^ 30) ⟨h1, h2⟩ ?_
 refine T.perm ?_ (Yjt (B := B) (R := R) (t := t) (X := fun q : Sl × Int => vec 3 1 q.1 (ints l) * pt st (.cells [q.1.v, .int .i64 most, .int .i64 q.2].toArray 237) * pu ((l.length : Int) ≤ most ∧ most ≤ 2 ^ 30)) (s, m) h)
 simp only [Yad]
theorem Vao {Tid E : TypeId} {kd : IntKind} (hK : Kd Tryz.prog Tid E 1) (hz : zeroP Tryz.prog E = some (.int kd 0)) {s : Sl} {vs : List Value} {ty : Nat} {k : Unit → K} (hk : T B (R * vec E 1 s (List.replicate vs.length (.int kd 0))) (k ())) :
  T B (R * vec E 1 s vs) (semT Tryz.prog (Builtin.clear_ #[Tid] ty #[s.v]) (.tup []) k) := by
 intro w hw
 have hlen : s.n = vs.length := by
  have := (Rd.vec (E := E) (s := s) (vs := vs) (P := R * vec E 1 s vs) .last B w hw).1
  omega
 unfold semT
 by_cases h0 : s.n = 0
 ·have hv : vs = [] := List.eq_nil_of_length_eq_zero (by omega)
  subst hv
  have hrun : (Builtin.clear_ #[Tid] ty #[s.v]).run Tryz.prog w = .ok (.tuple #[]) w := by
   obtain ⟨p, n, c⟩ := s
   simp only at h0
   subst h0
   cases p with
   |none => simp [Builtin.clear_, Sl.v, Ycl hK.und]
   |some a => simp [Builtin.clear_, Sl.v, Ycl hK.und]
  rw [hrun]
  exact ⟨(), rfl, hk w hw⟩
 ·rcases Yei hw with ⟨h1, h2, h3, _⟩ | ⟨b, rest, h1, h2, h3, h4, hR⟩
  ·omega
  ·obtain ⟨w', hr, hs'⟩ := Ynw (Pg := Tryz.prog) (B := B) (b := b) (o := 0) (ty := E) (P' := fun l => R * pt b (.cells l.toArray E)) (fun _ _ => Upd.last) (new := List.replicate s.n (.int kd 0)) (l := vs ++ rest) (i := 0) (w := w) rfl (by simp [scal]) (by rw [List.length_append]; simp; omega) hR
   obtain ⟨q, hq⟩ : ∃ q, s.n = q + 1 := ⟨s.n - 1, by omega⟩
   have hzc : (Builtin.zeroCells #[Value.int kd 0] s.n).toList = List.replicate s.n (.int kd 0) := by
    generalize s.n = j
    simp only [Builtin.zeroCells]
    rw [List.eq_replicate_iff]
    refine ⟨by simp, fun x hx => ?_⟩
    simp only [List.size_toArray, List.length_singleton, Nat.mul_one, Nat.mod_one] at hx
    simp at hx
    exact hx.2.symm
   have hrun : (Builtin.clear_ #[Tid] ty #[s.v]).run Tryz.prog w = .ok (.tuple #[]) w' := by
    unfold Sl.v
    rw [h1]
    have hzc' := hzc
    rw [hq] at hzc' hr ⊢
    rw [← hzc'] at hr
    simp [Builtin.clear_, Ycl hK.und, Yns hz, Value.cells, hr]
   rw [hrun]
   have e : splice (vs ++ rest) (0 + 0) (List.replicate s.n (Value.int kd 0)) = List.replicate vs.length (.int kd 0) ++ rest := by
    rw [hlen]
    unfold splice
    simp
   rw [e] at hs'
   refine ⟨(), rfl, hk w' (Yp1 h1 ?_ ?_ h4 hs')⟩
   ·rw [List.length_replicate]; exact h2
   ·rw [List.length_replicate]; exact h3
theorem Yzq {most : Int} (hm : most ≤ 2 ^ 30) {k : Option Addr → K} (hk : ∀ st, T B (R * Stk st (max2I most 0) []) (k (da st))) : T B R (Yg1 most k) := by
 refine Yaq (Yqw most k) ?_
 (repeat ((with_reducible refine Ya7 ?_; intro _)))
 rename_i b
 refine Ydh (E := 3) (sz := 1) (s := ⟨none, 0, 0⟩) rfl rfl ?_
 have := Yin (l := []) (s := ⟨none, 0, 0⟩) (m := 0) (by show (0 : Int) ≤ max2I most 0; unfold max2I; split <;> omega) (by unfold max2I; split <;> omega) (hk b)
 exact T.perm (by show _ = R * vec _ _ _ [] * _; ac_rfl) this
theorem Yx1 {st : Nat} {most x : Int} {l : List Int} {k : Bool → K} (h1 : (l.length : Int) < most → T B (R * Stk st most (l ++ [x])) (k true)) (h0 : T B (R * Stk st most l) (k false)) : T B (R * Stk st most l) (Ydm (da st) x k) := by
 refine Yaq (Yjj _ x k) ?_
 refine Yvu fun s m q1 q2 => ?_
 refine Yc0 (.init .last) fun hn => ?_
 rw [Yag, Nat.mul_one] at hn
 unfold da at *
 (repeat' (first | with_reducible refine Yam ?_ | with_reducible refine Yak ?_ | ((with_reducible apply Yaf); (focus rfl); (focus exact hasA); (focus rfl)) | ((with_reducible apply Yaz); (focus rfl); (focus exact hasA); (focus rfl)) | (with_reducible refine Ya7 ?_; intro _) | ((with_reducible apply Ybc); (focus rfl); (focus exact updA); (focus simp); simp only [List.set, Nat.zero_add, Nat.reduceAdd]) | with_reducible refine Yai (fun _ => ?_) (fun _ => ?_)))
 ·exact Yin (m := IntKind.wrap .i64 (m + 1)) q1 q2 h0
 ·rename_i h b
  refine Yaa (X := vec 3 1 s (ints l)) (by exact frmA) ?_
  refine Ybs (x := ⟨some ⟨b, 0, none⟩, 1, 1⟩) (new := ints [x]) Yeo (Rd.one Has.last rfl (Nat.le_refl _)) (Yct _) (by rw [Yag]; simp only; omega) fun s' => ?_
  refine Yac (.init .last) ?_
  (repeat (first | with_reducible refine Yam ?_ | ((with_reducible apply Ybc); (focus rfl); (focus exact updA); (focus simp); simp only [List.set, Nat.zero_add, Nat.reduceAdd])))
  rw [← show ints (l ++ [x]) = ints l ++ ints [x] from List.map_append]
  refine T.perm (by ac_rfl) (Yin (s := s') (m := m) (l := l ++ [x]) (by simp; omega) q2 (h1 (by omega)))
theorem Yzr {st : Nat} {most : Int} {l : List Int} {k : Int × Bool → K} (h0 : l = [] → T B (R * Stk st most []) (k (0, false))) (h1 : ∀ l' x, l = l' ++ [x] → T B (R * Stk st most l') (k (x, true))) : T B (R * Stk st most l) (Ycp (da st) k) := by
 refine Yaq (Yj5 _ k) ?_
 refine Yvu fun s m q1 q2 => ?_
 refine Yc0 (.init .last) fun hn => ?_
 rw [Yag, Nat.mul_one] at hn
 unfold da at *
 (repeat' (first | with_reducible refine Yam ?_ | with_reducible refine Yak ?_ | ((with_reducible apply Yaz); (focus rfl); (focus exact hasA); (focus rfl)) | with_reducible refine Ybr (fun _ => ?_) (fun _ => ?_)))
 ·have : l = [] := List.eq_nil_of_length_eq_zero (by omega)
  subst this
  exact Yin q1 q2 (h0 rfl)
 ·rename_i h
  obtain ⟨l', x, rfl⟩ : ∃ l' x, l = l' ++ [x] := by
   have hne : l ≠ [] := fun e => by subst e; simp at hn; omega
   exact ⟨l.dropLast, l.getLast hne, (List.dropLast_concat_getLast hne).symm⟩
  simp only [List.length_append, List.length_singleton] at hn q1
  rw [w64 (n := (s.n : Int) - 1) (by omega) (by omega)]
  refine Yej (Rd.vec (.init .last)) (by omega) (n := x) (by rw [show ((s.n : Int) - 1).toNat = l'.length by omega]; simp [ints]) ?_
  (repeat (first | with_reducible refine Yam ?_ | with_reducible refine Yak ?_ | ((with_reducible apply Yaz); (focus rfl); (focus exact hasA); (focus rfl))))
  rw [w64 (n := (s.n : Int) - 1) (by omega) (by omega)]
  have hcap : ∀ Z t, ((s.n ≤ s.c) → T B (R * vec 3 1 s (ints (l' ++ [x])) * Z) t) → T B (R * vec 3 1 s (ints (l' ++ [x])) * Z) t := by
   intro Z t h w hw
   have := (Rd.vec (E := 3) (s := s) (vs := ints (l' ++ [x])) (.init .last)) B w hw
   exact h (by omega) w hw
  refine hcap _ _ fun hc2 => ?_
  refine Vb3 (by omega) (by omega) ?_
  rw [show ((s.n : Int) - 1).toNat = l'.length by omega]
  refine Yaa (X := vec 3 1 s (ints (l' ++ [x]))) (.init .last) ?_
  refine Ywu (s' := ⟨cutP s.p 0 s.c 1, l'.length - 0, s.c - 0⟩) (n := l'.length) (by omega) (by simp only [Ylg]) (by simp) (by simp) (by rw [Yag]; simp) ?_
  (repeat (first | with_reducible refine Yam ?_ | ((with_reducible apply Ybc); (focus rfl); (focus exact updA); (focus simp); simp only [List.set, Nat.zero_add, Nat.reduceAdd])))
  rw [show (ints (l' ++ [x])).take (l'.length * 1) = ints l' by unfold ints; rw [List.map_append, Nat.mul_one, List.take_append_of_le_length (by simp), List.take_of_length_le (by simp)]]
  exact T.perm (by ac_rfl) (Yin (s := ⟨cutP s.p 0 s.c 1, l'.length - 0, s.c - 0⟩) (m := m) (by omega) q2 (h1 l' x rfl))
theorem Yvv {st : Nat} {most : Int} {l : List Int} {k : Unit → K} (hk : T B (R * Stk st most []) (k ())) : T B (R * Stk st most l) (Ydf (da st) k) := by
 refine Yaq (Yim _ k) ?_
 refine Yvu fun s m q1 q2 => ?_
 unfold da at *
 (repeat (first | with_reducible refine Yam ?_ | ((with_reducible apply Yaz); (focus rfl); (focus exact hasA); (focus rfl))))
 refine Yaa (X := vec 3 1 s (ints l)) (.init .last) ?_
 refine Vao (kd := .i64) Yeo (by kernel_rfl) ?_
 (repeat (first | with_reducible refine Yam ?_ | ((with_reducible apply Yaz); (focus rfl); (focus exact hasA); (focus rfl))))
 refine Vb3 (by omega) (by omega) ?_
 refine Ywu (s' := ⟨cutP s.p 0 s.c 1, 0 - 0, s.c - 0⟩) (n := 0) (by omega) (by simp only [Ylg]) (by simp) (by simp) (by simp) ?_
 (repeat (first | with_reducible refine Yam ?_ | ((with_reducible apply Ybc); (focus rfl); (focus exact updA); (focus simp); simp only [List.set, Nat.zero_add, Nat.reduceAdd])))
 refine T.perm ?_ (Yin (l := []) (s := ⟨cutP s.p 0 s.c 1, 0 - 0, s.c - 0⟩) (m := 0) (by simp; omega) q2 hk)
 show _ = R * vec _ _ _ [] * _
 rw [Nat.zero_mul, List.take_zero]
 ac_rfl
theorem Ytm {s lim : Nat} {U : Nat → Bool} {k : Int → K} (hk : T B (R * Bm s lim U) (k lim)) : T B (R * Bm s lim U) (Ye3 (da s) k) := by
 refine Yaq (Ym7 _ k) ?_
 refine Yi6 fun q ws m h => ?_
 unfold da
 (repeat (first | with_reducible refine Yam ?_ | ((with_reducible apply Yaf); (focus rfl); (focus exact hasA); (focus rfl))))
 exact Yes h hk
theorem Yml {s lim : Nat} {U : Nat → Bool} {k : Unit → K} (hk : T B (R * Bm s lim (fun _ => false)) (k ())) : T B (R * Bm s lim U) (Ydq (da s) k) := by
 refine Yaq (Ym6 _ k) ?_
 refine Yi6 fun q ws m h => ?_
 unfold da
 (repeat (first | with_reducible refine Yam ?_ | ((with_reducible apply Yaz); (focus rfl); (focus exact hasA); (focus rfl))))
 refine Yaa (X := vec 109 1 q (wds (nts ws))) (.init .last) ?_
 refine Vao (kd := .u64) Yp6 (by kernel_rfl) ?_
 (repeat (first | with_reducible refine Yam ?_ | ((with_reducible apply Ybc); (focus rfl); (focus exact updA); (focus simp); simp only [List.set, Nat.zero_add, Nat.reduceAdd])))
 have e : List.replicate (wds (nts ws)).length (Value.int .u64 0) = wds (nts (List.replicate ws.length 0)) := by
  unfold wds nts; simp
 rw [e]
 refine T.perm (by ac_rfl) (Yes (q := q) (ws := List.replicate ws.length 0) (m := 0) ⟨by rw [List.length_replicate]; exact h.len, h.big, fun w hw => ?_, fun a => ?_, fun _ _ => rfl⟩ hk)
 ·rw [List.eq_of_mem_replicate hw]; decide
 ·unfold Uof
  rw [List.getD_eq_getElem?_getD, List.getElem?_replicate]
  split <;> simp
end
end
section
set_option maxHeartbeats 1000000
def ptrW (w : Int) : Int := IntKind.wrap .i64 (min2I w 1099511627776)
def fieldP (c : List Int) (n : Nat) (a i : Int) : Int × Int :=
 if (oHead c n a).2 ≠ 0 then (0, (oHead c n a).2) else if 0 ≤ i ∧ i < (oHead c n a).1.1 then (a + 1 + i, 0) else (0, 7)
def PtrsL (c : List Int) (n : Nat) (a : Int) : List Int := if (oHead c n a).2 = 0 then (List.range (oHead c n a).1.1.toNat).map fun (i : Nat) => ptrW (getI c (a + 1 + (i : Int))) else []
theorem Yfr {c : List Int} {n : Nat} {a : Int} (h : (oHead c n a).2 = 0) : 0 ≤ a ∧ a < ((8 * n : Nat) : Int) ∧ oSize (oHead c n a).1 ≤ ((8 * n : Nat) : Int) - a ∧ oRight (oHead c n a).1 := by
 unfold oHead at h ⊢
 split at h
 ·simp at h
 ·rename_i hc
  rw [if_neg hc]
  simp only [not_or, Int.not_lt, ne_eq, Classical.not_not] at hc
  obtain ⟨h1, h2, h3, h4⟩ := hc
  refine ⟨h1, by omega, by omega, ?_⟩
  show oRight (odec a (getI c a)).1
  unfold odec at h3 ⊢
  split at h3
  ·rename_i h5
   rw [if_pos h5]
   split at h3
   ·rename_i h6
    rw [if_pos h6]
    by_cases hr : oRight (onum (getI c a % 4294967296))
    ·exact hr
    ·exfalso
     unfold oenc at h6
     rw [if_pos (show oSize (onum (getI c a % 4294967296)) = 0 by unfold oSize; rw [if_neg hr])] at h6
     rw [← h6] at hr
     exact hr (by decide)
   ·simp at h3
  ·simp at h3
section
variable {B : World} {P R : SL} {t : K}
theorem Ymm {d n : Nat} {c la : List Int} {a i : Int} (hn : n ≤ 2 ^ 30) {k : Int × Int → K} (hk : T B (R * LDev d n c la) (k (fieldP c n a i))) : T B (R * LDev d n c la) (Yfo (da d) a i false k) := by
 refine Yaq (Yrx _ a i false k) ?_
 rw [Yp9, Zek11]
 refine Yjc ?_
 unfold fieldP at hk
 refine Ya7 fun b => ?_
 refine Ybc (i := 0) rfl Upd.last (by show _ < 2; omega) ?_
 refine Ybc (i := 1) rfl Upd.last (by show _ < 2; omega) ?_
 rw [Zek10, Zek9]
 refine Yar (fun h => ?_) (fun h => ?_)
 ·rw [if_pos h] at hk
  exact T.weak hk
 ·rw [if_neg (by rw [h]; simp)] at hk
  obtain ⟨h1, h2, h3, h4⟩ := Yfr h
  unfold oRight at h4
  (repeat (((with_reducible apply Yaf); (focus rfl); (focus exact hasA); (focus rfl))))
  refine Yaq (Ym0 _ i _) ?_
  rw [Yjm]
  refine Ya7 fun b2 => ?_
  rw [Zaz1]
  refine Yak ?_
  refine Yai (fun h0 => ?_) (fun h0 => ?_)
  ·(repeat (first | with_reducible refine Yau ?_ | ((with_reducible apply Yaf); (focus rfl); (focus exact hasA); (focus rfl))))
   by_cases hi : i < (oHead c n a).1.1
   ·rw [if_pos ⟨h0, hi⟩] at hk
    rw [decide_eq_true hi]
    skip
    have e1 : IntKind.wrap .i64 (1 + i) = 1 + i := w64 (by omega) (by omega)
    rw [e1, Zek3, Zek2]
    refine Yfh (Yal ?_)
    rw [Zek0, w64 (n := a + (1 + i)) (by omega) (by omega), ← Int.add_assoc]
    exact hk.weak.weak
   ·rw [if_neg (fun q => hi q.2)] at hk
    rw [decide_eq_false hi]
    skip
    exact hk.weak.weak
  ·rw [if_neg (fun q => h0 q.1)] at hk
   (repeat (with_reducible refine Yau ?_))
   exact hk.weak.weak
theorem Yqc {d n : Nat} {c la : List Int} {a i : Int} (hn : n ≤ 2 ^ 30) {k : Int × Int → K} (hk : T B (R * LDev d n c la) (k (if (fieldP c n a i).2 ≠ 0 then (0, (fieldP c n a i).2) else (ptrW (getI c (fieldP c n a i).1), 0)))) : T B (R * LDev d n c la) (Yfu (da d) a i k) := by
 refine Yaq (Yvl _ a i k) ?_
 rw [Yub, Zec5]
 refine Ymm hn ?_
 rw [Zec4, Zec3]
 refine Yar (fun h => ?_) (fun h => ?_)
 ·rw [if_pos h] at hk; exact hk
 ·rw [if_neg (by rw [h]; simp)] at hk
  rw [Zec1]
  refine Vaa ?_
  exact hk
theorem Ysb {d n : Nat} {c la : List Int} {a i to : Int} (hn : n ≤ 2 ^ 30) {k : Int → K} (h0 : ∀ e, T B (R * LDev d n c la) (k e))
  (h1 : (oHead c n a).2 = 0 → 0 ≤ i → i < (oHead c n a).1.1 → 0 ≤ to → T B (R * LDev d n (c.set (a + 1 + i).toNat (IntKind.wrap .u64 to)) la) (k 0)) : T B (R * LDev d n c la) (Ye1 (da d) a i to k) := by
 refine Yaq (Yqt _ a i to k) ?_
 rw [Yom, Zed7]
 refine Ymm hn ?_
 rw [Zed6, Zed5]
 refine Yar (fun h => h0 _) (fun h => ?_)
 rw [Zed4]
 refine Yai (fun _ => h0 _) (fun ht => ?_)
 rw [Zed1]
 unfold fieldP at h ⊢
 split at h
 ·rename_i hq; exact absurd h hq
 ·rename_i hq
  rw [if_neg hq]
  simp only [ne_eq, Classical.not_not] at hq
  split at h
  ·rename_i hi
   rw [if_pos hi]
   obtain ⟨g1, g2, g3, g4⟩ := Yfr hq
   have hsz : oSize (oHead c n a).1 = 1 + (oHead c n a).1.1 + (oHead c n a).1.2 := if_pos g4
   unfold oRight at g4
   refine Yoa (by omega) (by omega) ?_
   exact h1 hq hi.1 hi.2 (by omega)
  ·simp at h
theorem Yvw {d n : Nat} {c la : List Int} {a : Int} (hn : n ≤ 2 ^ 30) {k : Sl × Int → K} (hk : ∀ s e, T B (R * LDev d n c la * vec 3 1 s (ints (PtrsL c n a))) (k (s, e))) : T B (R * LDev d n c la) (Yiw (da d) a k) := by
 refine Yaq (Ytk _ a k) ?_
 rw [Yry, Zen12]
 refine Yjc ?_
 unfold PtrsL at hk
 refine Ya7 fun b => ?_
 refine Ybc (i := 0) rfl Upd.last (by show _ < 2; omega) ?_
 refine Ybc (i := 1) rfl Upd.last (by show _ < 2; omega) ?_
 rw [Zen11, Zen10]
 refine Yar (fun h => ?_) (fun h => ?_)
 ·rw [if_neg h] at hk
  refine T.weak ?_
  exact Ydh (E := 3) (sz := 1) (s := ⟨none, 0, 0⟩) rfl rfl (hk _ _)
 ·rw [if_pos h] at hk
  obtain ⟨g1, g2, g3, g4⟩ := Yfr h
  have hsz : oSize (oHead c n a).1 = 1 + (oHead c n a).1.1 + (oHead c n a).1.2 := if_pos g4
  have g5 := g4
  unfold oRight at g5
  (repeat (((with_reducible apply Yaf); (focus rfl); (focus exact hasA); (focus rfl))))
  refine Yac .last ?_
  refine Ydh (E := 3) (sz := 1) (s := ⟨none, 0, 0⟩) rfl rfl ?_
  generalize hp : (oHead c n a).1.1.toNat = p at *
  have hp2 : (oHead c n a).1.1 = p := by omega
  refine Yl2 (fun _ z => R * vec 3 1 z.1 (ints ((List.range z.2.1.toNat).map fun (i : Nat) => ptrW (getI c (a + 1 + (i : Int))))) * LDev d n c la) (fun m (z : Sl × Int × Unit) => ∃ i : Nat, i ≤ p ∧ z.2.1 = i ∧ m = p - i) p (fun t ht => T.perm ?_ ht) ⟨0, by omega, rfl, by omega⟩ ?_
  ·show R * _ * vec _ _ _ [] = R * vec _ _ _ [] * _
   ac_rfl
  rintro m ⟨s0, z, uu⟩ cc ⟨i, hi, e1, e2⟩ hcc
  simp only at e1
  subst e1 e2
  simp only [Int.toNat_natCast]
  rw [Zen6, Zen5, hp2]
  refine Yai (fun hlt => ?_) (fun hge => ?_)
  ·rw [Zen4]
   refine Yqc hn ?_
   have ef : fieldP c n a i = (a + 1 + i, 0) := by
    unfold fieldP
    rw [if_neg (by rw [h]; simp), if_pos ⟨by omega, by omega⟩]
   rw [ef]
   rw [if_neg (by simp)]
   rw [Zen3]
   refine Ya7 fun b3 => ?_
   refine Yaa (X := vec 3 1 s0 _) (.init (.init .last)) ?_
   refine Ybs (x := ⟨some ⟨b3, 0, none⟩, 1, 1⟩) (new := ints [ptrW (getI c (a + 1 + i))]) Yeo (Rd.one Has.last rfl (Nat.le_refl _)) (Yct _) (by simp [ints]; omega) fun s' => ?_
   refine Yac (.init .last) ?_
   have e : (IntKind.wrap .i64 ((i : Int) + 1)).toNat = i + 1 := by rw [w64 (by omega) (by omega)]; omega
   refine T.perm ?_ (hcc (p - (i + 1)) (s', IntKind.wrap .i64 ((i : Int) + 1), ()) (by omega) ⟨i + 1, by omega, w64 (by omega) (by omega), rfl⟩)
   simp only [e, List.range_succ, List.map_append, List.map_cons, List.map_nil]
   unfold ints
   rw [List.map_append]
   ac_rfl
  ·have : i = p := by omega
   subst this
   exact T.perm (by ac_rfl) (hk s0 0)
end
end
/-- a function value that answers as p does, where Z stands -/
def Prd (B : World) (Z : SL) (f : Fv) (p : Int → Bool) : Prop := ∀ (X : SL) (x : Int) (k : Bool → K), T B (X * Z) (k (p x)) → T B (X * Z) (dyn Tryz.prog f.v #[.int .i64 x] (.one (.sc .bool)) k)
theorem Ynp {p : Int → Bool} {l : List Int} {j : Nat} (h : j < l.length) : (l.take (j + 1)).filter p = (l.take j).filter p ++ (if p l[j] then [l[j]] else []) := by
 rw [List.take_succ_eq_append_getElem h, List.filter_append]
 congr 1
 by_cases hp : p l[j] = true
 ·rw [if_pos hp, List.filter_cons_of_pos hp, List.filter_nil]
 ·rw [if_neg hp, List.filter_cons_of_neg hp, List.filter_nil]
section
variable {B : World} {P R Z : SL} {t : K} {f : Fv} {p : Int → Bool}
theorem Yzs (hp : Prd B Z f p) {s : Sl} {l : List Int} (hl : l.length ≤ 2 ^ 40) (h : Rd R s 1 (ints l)) {k : Int → K}
  (h0 : (∀ x ∈ l, p x = false) → T B (R * Z) (k (-1))) (h1 : ∀ (i : Nat) (hi : i < l.length), (∀ x ∈ l.take i, p x = false) → p l[i] = true → T B (R * Z) (k i)) : T B (R * Z) (Yca s f k) := by
 refine Yaq (Ygm s f k) ?_
 refine Ya1 h.init fun hn => ?_
 rw [Yag, Nat.mul_one] at hn
 (dsimp only [Yen, Zbs0, Zbs1, Zbs2, Zbs3, Zbs4, Zbs5, Zbs6])
 refine Ycz (fun _ _ => R * Z) (fun n (s : Int × Unit) => ∃ i : Nat, i ≤ l.length ∧ s.1 = i ∧ n = l.length - i ∧ ∀ x ∈ l.take i, p x = false) l.length rfl ⟨0, by omega, rfl, by omega, by simp⟩ ?_
 rintro n ⟨s1, u⟩ c ⟨i, hi, e1, e2, hv⟩ hc
 simp only at e1
 subst e1 e2
 (repeat' (with_reducible refine Yai (fun _ => ?_) (fun _ => ?_)))
 ·rename_i hlt
  have hlt' : i < l.length := by omega
  refine Yej h.init (by omega) (n := l[i]) (by rw [Int.toNat_natCast]; exact Ydn hlt') ?_
  refine hp _ _ _ ?_
  refine Vb2 (fun e => ?_) (fun e => ?_)
  ·exact h1 i hlt' hv e
  ·refine hc (l.length - (i + 1)) _ (by omega) ⟨i + 1, by omega, w64 (by omega) (by omega), rfl, fun x hx => ?_⟩
   rw [List.take_succ_eq_append_getElem hlt'] at hx
   rcases List.mem_append.1 hx with hx | hx
   ·exact hv x hx
   ·rw [List.mem_singleton.1 hx]; exact e
 ·have : i = l.length := by omega
  subst this
  rw [List.take_length] at hv
  exact h0 hv
theorem Yqd (hp : Prd B Z f p) {s : Sl} {l : List Int} (hl : l.length ≤ 2 ^ 40) {k : Sl → K}
  (hk : ∀ s', T B (R * vec 3 1 s' (ints (l.filter fun x => !p x)) * Z) (k s')) : T B (R * vec 3 1 s (ints l) * Z) (Ybd s f k) := by
 refine Yaq (Yge s f k) ?_
 refine Yc0 (E := 3) (sz := 1) (s := s) (vs := ints l) (.init .last) fun hn => ?_
 rw [Yag, Nat.mul_one] at hn
 refine Yzs hp hl (Rd.vec (E := 3) (s := s) (vs := ints l) .last) (fun hno => ?_) (fun i hi hbe hpi => ?_)
 ·(repeat' (with_reducible refine Ybr (fun _ => ?_) (fun _ => ?_)))
  ·have e : (l.filter fun x => !p x) = l := by
    rw [List.filter_eq_self]
    intro x hx; rw [hno x hx]; rfl
   have := hk s
   rw [e] at this
   exact this
  ·rename_i h; exact absurd rfl h
 ·(repeat' (with_reducible refine Ybr (fun _ => ?_) (fun _ => ?_)))
  ·exfalso; omega
  have f0 : (l.take i).filter (fun x => !p x) = l.take i := by
   rw [List.filter_eq_self]
   intro x hx; rw [hbe x hx]; rfl
  rw [w64 (by omega) (by omega)]
  refine Yl2 (fun _ z => ex fun l' : List Int => R * vec 3 1 s (ints l') * Z * pu (l'.length = l.length ∧ l'.take z.1.toNat = (l.take z.2.1.toNat).filter (fun x => !p x) ∧ l'.drop z.2.1.toNat = l.drop z.2.1.toNat))
   (fun n (z : Int × Int × Unit) => ∃ a b : Nat, z.1 = a ∧ z.2.1 = b ∧ a < b ∧ b ≤ l.length ∧ n = l.length - b) (l.length - (i + 1)) (fun t ht => ?_) ⟨i, i + 1, rfl, by simp, by omega, by omega, rfl⟩ ?_
  ·intro w hw
   refine ht w (Yds l (Sat.puI ⟨rfl, ?_, rfl⟩ hw))
   have e1 : ((i : Int) + 1).toNat = i + 1 := by omega
   rw [e1, Int.toNat_natCast, Ynp hi, f0, hpi]; simp
  rintro n ⟨z1, z2, u⟩ c ⟨a, b, e1, e2, e3, e4, e5⟩ hc
  simp only at e1 e2
  subst e1 e2 e5
  simp only [Int.toNat_natCast]
  refine Ysw fun l' ⟨q1, q2, q3⟩ => ?_
  have nx : ∀ (l2 : List Int) (a' : Nat), b < l.length → a' < b + 1 → l2.length = l.length → l2.take a' = (l.take (b + 1)).filter (fun x => !p x) → l2.drop (b + 1) = l.drop (b + 1) →
    T B (R * vec 3 1 s (ints l2) * Z) (c ((a' : Int), IntKind.wrap .i64 ((b : Int) + 1), ())) := by
   intro l2 a' hb ha r1 r2 r3 w hw
   have ew : IntKind.wrap .i64 ((b : Int) + 1) = ((b + 1 : Nat) : Int) := by rw [w64 (by omega) (by omega)]; omega
   refine hc (l.length - (b + 1)) _ (by omega) ⟨a', b + 1, rfl, ew, ha, by omega, rfl⟩ w (Yds l2 (Sat.puI ⟨r1, ?_, ?_⟩ hw))
   ·simp only [ew, Int.toNat_natCast]; exact r2
   ·simp only [ew, Int.toNat_natCast]; exact r3
  clear hc
  have hlen : (l'.take a).length = a := by simp; omega
  have hbb : ∀ hb : b < l.length, l'[b]'(by omega) = l[b] := by
   intro hb
   have h1 : (l'.drop b)[0]? = (l.drop b)[0]? := by rw [q3]
   rw [List.getElem?_drop, List.getElem?_drop, List.getElem?_eq_getElem (by omega), List.getElem?_eq_getElem (by omega)] at h1
   simpa using h1
  have hdr : l'.drop (b + 1) = l.drop (b + 1) := by
   rw [← List.drop_drop, ← List.drop_drop, q3]
  (repeat' (with_reducible refine Yai (fun _ => ?_) (fun _ => ?_)))
  ·rename_i hlt
   have hb : b < l.length := by omega
   refine Yej (Rd.vec (E := 3) (s := s) (vs := ints l') (.init .last)) (by omega) (n := l'[b]'(by omega)) (by rw [Int.toNat_natCast]; exact Ydn (by omega)) ?_
   rw [hbb hb]
   refine hp _ _ _ ?_
   cases hpb : p l[b]
   ·simp only [Bool.not_false]
    (repeat (with_reducible refine Yal ?_))
    refine Ywv (E := 3) (i := (a : Int)) (s := s) (vs := ints l') (.init .last) (by omega) (by rw [Yag]; omega) ?_
    rw [Int.toNat_natCast, Yz8]
    have ew : IntKind.wrap .i64 ((a : Int) + 1) = ((a + 1 : Nat) : Int) := by rw [w64 (by omega) (by omega)]; omega
    (dsimp only [Yd6, Zbp0, Zbp1, Zbp2, Zbp3, Zbp4, Zbp5, Zbp6, Zbp7, Zbp8, Zbp9, Zbp10, Zbp11, Zbp12, Zbp13, Zbp14])
    rw [ew]
    refine T.perm (by ac_rfl) (nx (l'.set a l[b]) (a + 1) hb (by omega) (by rw [List.length_set]; exact q1) ?_ ?_)
    ·rw [Ynp hb, hpb, ← q2]
     have h1 : a < l'.length := by omega
     rw [List.take_succ_eq_append_getElem (by rw [List.length_set]; exact h1), List.take_set_of_le (by omega)]
     simp
    ·rw [List.drop_set_of_lt (by omega)]; exact hdr
   ·simp only [Bool.not_true]
    (repeat (with_reducible refine Yau ?_))
    refine nx l' a hb (by omega) q1 ?_ hdr
    rw [Ynp hb, hpb, ← q2]; simp
  ·have hb : b = l.length := by omega
   subst hb
   rw [List.take_length] at q2
   refine Vb3 (by omega) (by omega) ?_
   rw [Int.toNat_natCast]
   refine Yaa (X := vec 3 1 s (ints l')) (.init .last) ?_
   refine Ve0 (l := l') (o := a) rfl (by omega) fun l2 g1 g2 => ?_
   have hcap : ∀ t, ((s.n ≤ s.c) → T B (R * Z * vec 3 1 s (ints l2)) t) → T B (R * Z * vec 3 1 s (ints l2)) t := by
    intro t h w hw
    have := (Rd.vec (E := 3) (s := s) (vs := ints l2) .last) B w hw
    exact h (by omega) w hw
   refine hcap _ fun hc2 => ?_
   refine Vb3 (by omega) (by omega) ?_
   rw [Int.toNat_natCast]
   refine Ywu (s' := ⟨cutP s.p 0 s.c 1, a - 0, s.c - 0⟩) (n := a) (by omega) (by simp only [Ylg]) (by simp) (by simp) (by rw [Yag]; omega) ?_
   have e3 : (ints l2).take (a * 1) = ints (l.filter fun x => !p x) := by
    unfold ints
    rw [Nat.mul_one, ← List.map_take, g2, q2]
   rw [e3]
   exact T.perm (by ac_rfl) (hk _)
end
section
set_option maxRecDepth 100000
abbrev Yio (ao : Addr) (x : Int) (kN : K) (kR : K) : K :=
 ldS ao fun x8 =>
 alK (.cells #[.int .i64 x] 3) fun b =>
 semT Tryz.prog (Builtin.append_ #[27, 27] 27 #[x8.v, .slice (some ⟨b, 0, none⟩) 1 1]) (.one (.sc (.slice))) fun x11 =>
 stK (ao.add 0) (x11.v) <|
 kN
theorem Ymb (ao : Addr) (x : Int) (kN : K) (kR : K) : RefK Tryz.prog 13 (rfBody Tryz.f67) [(4, .int .i64 x), (3, .pointer (some ao))] (Yio ao x kN kR) (rfQ kN kR) :=
 Qb Qz
end
section
set_option maxRecDepth 100000
set_option maxHeartbeats 2000000
theorem agree0 {n : Nat} {args : Array Value} (h : args.size ≤ n) : Agree [] n (argE 0 args.toList) { tmps := args ++ Array.replicate (n - args.size) undef, defers := [] } := by
 refine ⟨rfl, by simp; omega, fun t v hg => ?_⟩
 obtain ⟨h1, h2⟩ := Yz4 hg
 simp only [Nat.sub_zero, Array.getElem?_toList] at h2
 have hlt : t < args.size := (Array.getElem?_eq_some_iff.1 h2).1
 have h3 := (Array.getElem?_eq_some_iff.1 h2).2
 simp [Array.getElem?_append, hlt, h3]
section
variable {B : World} {P R : SL} {t : K}
theorem Yoq {s lim : Nat} {U : Nat → Bool} {k : Sl → K} (hk : ∀ out, T B (R * Bm s lim U * vec 3 1 out (ints (uBel U lim))) (k out)) : T B (R * Bm s lim U) (Yhz (da s) k) := by
 refine Vgu fun hlim hoff => ?_
 intro w hw
 refine (callsIn_wide (n := 9)).1 (callsIn_of_wp_marks Tryz.func67 rfl trivial ?_ rfl)
 refine Yz6 [] [0] (t := fun w => Sat B (R * Bm s lim U) w) (fun _ w => Sat B (R * Bm s lim U) w) (RefK.plain [] (by kernel_rfl)) (agree0 (n := 13) (args := #[.pointer (da s)]) (by simp)) hw (by kernel_rfl) fun _ a1 w1 ha1 hw1 => ?_
 refine Yz6 [(3, .addr)] [0] (t := alK (.cells #[.slice none 0 0] 27) fun b w => (∃ bo, (⟨b, 0, none⟩ : Addr) = ⟨bo, 0, none⟩ ∧ Sat B (R * Bm s lim U * pt bo (.cells [nilS.v].toArray 27)) w)) (fun z w => ∃ bo, z.1 = ⟨bo, 0, none⟩ ∧ Sat B (R * Bm s lim U * pt bo (.cells [nilS.v].toArray 27)) w) (RefK.plain [] (by kernel_rfl)) ha1
  (Ya7 (fun b w hw => ⟨b, rfl, hw⟩) w1 hw1) (by kernel_rfl) ?_
 rintro ⟨z, u⟩ a2 w2 ha2 ⟨bo, rfl, hw2⟩
 refine wpIn_seq ?_
 refine Yz6 [(6, .func)] [3] (t := Ygb (da s) fun f w => (∃ bx, f = ⟨.func 188, #[], #[.pointer (some ⟨bx, 0, none⟩)]⟩ ∧ Sat B (R * Bm s lim U * pt bo (.cells [nilS.v].toArray 27) * pt bx (.cells [.pointer (da s)].toArray 44)) w))
  (fun z w => ∃ bx, z.1 = ⟨.func 188, #[], #[.pointer (some ⟨bx, 0, none⟩)]⟩ ∧ Sat B (R * Bm s lim U * pt bo (.cells [nilS.v].toArray 27) * pt bx (.cells [.pointer (da s)].toArray 44)) w) (RefK.plain [] (by kernel_rfl)) ha2
  (Yxw (fun bx w hw => ⟨bx, rfl, hw⟩) w2 hw2) (by kernel_rfl) ?_
 rintro ⟨z, u⟩ a3 w3 ha3 ⟨bx, rfl, hw3⟩
 refine wpIn_block ?_
 have eg : ∀ args w, (callFunc 188 args).run Tryz.prog w = .ok (.enter 188 args) w := fun args w => Yj8 (by kernel_rfl) args w
 refine Vcf (B := B) (n := 9) (β := Int) (by omega) (ha3.rho (x := .tmp 6) (by kernel_rfl)) eg (fun x => #[.int .i64 x]) (fun _ => rfl) (okU U lim)
  (fun pre => (ex fun out : Sl => R * pt bx (.cells [.pointer (da s)].toArray 44) * pt bo (.cells [out.v].toArray 27) * vec 3 1 out (ints pre)) * Bm s lim U) (pu False) (uBel U lim) ?start
  (fun x a => Agree [] 13 [(4, .int .i64 x), (3, .pointer (some ⟨bo, 0, none⟩))] a) ?seq ?assign ?body ?done ?ret
 case start =>
  rw [Ymd]
  refine Yds nilS ?_
  exact (Yuw (s := nilS) (E := 3) (sz := 1) rfl rfl hw3).perm (by ac_rfl)
 case seq =>
  intro l X X' hy W hW
  have hT := Ytl (kk := fun _ w' => Sat B (((ex fun out : Sl => R * pt bx (.cells [.pointer (da s)].toArray 44) * pt bo (.cells [out.v].toArray 27) * vec 3 1 out (ints (uBel U lim))) * Bm s lim U) * X) w' ∨ Sat B (pu False * X') w')
   (Z := fun pre => (ex fun out : Sl => R * pt bx (.cells [.pointer (da s)].toArray 44) * pt bo (.cells [out.v].toArray 27) * vec 3 1 out (ints pre)) * X) (bx := bx) (ty := 44) (fun pre => by ac_rfl) (fun pre => ?_) hy (fun w h => .inl h) (fun w h => .inr h) W hW
  ·refine callsIn_wide.2 (Calls.mono hT ?_)
   rintro e W' ⟨x, rfl, h⟩
   exact ⟨⟨_, rfl⟩, h⟩
  ·intro h hh
   rw [Ymd, Ymd] at hh
   obtain ⟨out, hh⟩ := hh
   exact (show Has _ bx _ by exact hasA) h hh
 case assign =>
  intro m l x W K hK
  exact Vcg (p := 7) (v := .int .i64 x) [(4, .int .i64)] [3] (x, ()) ha3 (by decide) (RefK.plain [] (by kernel_rfl)) (by kernel_rfl) (fun a' ha' => hK a' ha') (by simp)
 case body =>
  intro m l pre x W X a' ha' hx hs
  rw [Ymd, Ymd] at hs
  obtain ⟨out, hs⟩ := Vce hs
  have hlen : pre.length + 1 ≤ 2 ^ 40 := by
   obtain ⟨n, _, h1, rfl⟩ := hx
   have := @Ylz U n
   omega
  have hT : T B (R * pt bx (.cells [.pointer (da s)].toArray 44) * pt bo (.cells [out.v].toArray 27) * Bm s lim U * X * vec 3 1 out (ints pre))
    (Yio ⟨bo, 0, none⟩ x (fun w => Sat B (((ex fun out : Sl => R * pt bx (.cells [.pointer (da s)].toArray 44) * pt bo (.cells [out.v].toArray 27) * vec 3 1 out (ints (pre ++ [x]))) * Bm s lim U) * X) w) kF) := by
   (repeat (first | ((with_reducible apply Yaz); (focus rfl); (focus exact hasA); (focus rfl)) | (with_reducible refine Ya7 ?_; intro _)))
   refine Yk9 (new := [Value.int .i64 x]) Yeo rfl rfl (by rw [Yag]; omega) fun s' => ?_
   (repeat (((with_reducible apply Ybc); (focus rfl); (focus exact updA); (focus simp); simp only [List.set, Nat.zero_add, Nat.reduceAdd])))
   intro w hw
   rw [Ymd, Ymd]
   refine Yds s' (hw.perm ?_)
   rw [show ints pre ++ [Value.int .i64 x] = ints (pre ++ [x]) by simp [ints]]
   ac_rfl
  exact Ymb ⟨bo, 0, none⟩ x _ _ (some l) m [] _ a' W (ha'.sub fun t v h => h) (hT W (hs.perm (by ac_rfl))) fun e E' a'' w' _ _ h => by
   cases e <;> first | exact .inl ⟨rfl, h⟩ | exact h.elim
 case done =>
  intro D W hs
  rw [Ymd, Ymd] at hs
  obtain ⟨out, hs⟩ := Vce hs
  have haD : Agree [{ target := .collected D, args := #[] }] 13 [(3, .pointer (some ⟨bo, 0, none⟩))] { a3 with defers := { target := .collected D, args := #[] } :: a3.defers } := ⟨by rw [ha3.1], ha3.2.1, fun t v h => ha3.2.2 t v (by
   simp only [Env.get] at h
   cases hb : Nat.beq 3 t with
   |true => rw [hb] at h; obtain rfl := beqS hb; exact h
   |false => rw [hb] at h; cases h)⟩
  have hT : T B (R * pt bx (.cells [.pointer (da s)].toArray 44) * pt bo (.cells [out.v].toArray 27) * Bm s lim U * vec 3 1 out (ints (uBel U lim)) * pt D (.deferred (some [])))
    (ldS ⟨bo, 0, none⟩ fun z w => z = out ∧ Sat B (R * Bm s lim U * vec 3 1 out (ints (uBel U lim)) * (pt bx (.cells [.pointer (da s)].toArray 44) * pt bo (.cells [out.v].toArray 27)) * pt D (.deferred (some []))) w) := by
   (repeat (((with_reducible apply Yaz); (focus rfl); (focus exact hasA); (focus rfl))))
   intro w hw
   exact ⟨rfl, hw.perm (by ac_rfl)⟩
  refine Yz6 [(2, .slice)] [] (t := ldS ⟨bo, 0, none⟩ fun z w => z = out ∧ Sat B (R * Bm s lim U * vec 3 1 out (ints (uBel U lim)) * (pt bx (.cells [.pointer (da s)].toArray 44) * pt bo (.cells [out.v].toArray 27)) * pt D (.deferred (some []))) w)
   (fun z w => z.1 = out ∧ Sat B (R * Bm s lim U * vec 3 1 out (ints (uBel U lim)) * (pt bx (.cells [.pointer (da s)].toArray 44) * pt bo (.cells [out.v].toArray 27)) * pt D (.deferred (some []))) w) (RefK.plain [] (by kernel_rfl)) haD (hT W (hs.perm (by ac_rfl))) (by kernel_rfl) ?_
  rintro ⟨z, u⟩ a4 w4 ha4 ⟨rfl, hw4⟩
  refine wpIn_ret ?_
  refine Vf5 (r := .one (.sc .slice)) ha4 hw4 ?_
  exact (show T B _ (k z) from (hk z).weak)
 case ret =>
  intro D W hs
  obtain ⟨⟨g, ⟨p, q, hp, _⟩, _⟩, _⟩ := hs
  exact hp.1.elim
end
end
section
set_option maxHeartbeats 1000000
def hs0 (g : Nat) : List Hd := List.replicate g (0, 0, 0)
theorem Ysc (g b : Nat) : hd (hs0 g) b = (0, 0, 0) := by
 unfold hd hs0
 rw [List.getD_eq_getElem?_getD, List.getElem?_replicate]; split <;> rfl
theorem Inv.begun {g : Nat} (h1 : 2 ≤ g) (h2 : g ≤ 2 ^ 20) : Inv g (hs0 g) (fun _ => false) (fun _ => []) := by
 have hno : ∀ k x, ¬ SmCell g (hs0 g) k x := by
  rintro k x ⟨b, i, _, _, h3, _⟩
  rw [Ysc] at h3; simp at h3
 refine ⟨by simp [hs0], h1, h2, fun x hx => ?_, Ysc g 0, fun b hb => ?_, fun b hb => ?_, fun x hx => (by cases hx), ⟨fun k _ => ?_, fun k _ y => ?_⟩⟩
 ·rw [List.eq_of_mem_replicate hx]; exact .inl rfl
 ·rw [Ysc] at hb; simp at hb
 ·rw [Ysc] at hb; simp at hb
 ·simp [accL]
 ·simp only [accL, List.append_nil, List.not_mem_nil, false_iff]
  rintro ⟨x, _, h3, _⟩
  exact hno k x h3
section
variable {B : World} {P R : SL} {t : K}
theorem Yzt {d m g : Nat} {c : List Int} {F : RF} (h1 : 2 ≤ g) (h2 : g ≤ 2 ^ 20) {kk : Option Addr × Int → K}
  (hk : ∀ a, T B (R * Al a d g ⟨hs0 g, F, c, fun _ => false, fun _ => []⟩) (kk (da a, 0))) : T B (R * LDx d (64 * g) c * Mg m d g (hs0 g) F) (Ymq (da d) (da m) ⟨none, 0, 0⟩ kk) := by
 refine Yaq (Yxg _ _ _ kk) ?_
 refine Yr5 ?_
 refine Yaa (X := LDx d (64 * g) c) (.init .last) ?_
 refine Ygq fun la hla => ?_
 refine Yn9 fun hl hn => ?_
 refine Yg6 hla ?_
 have e1 : ((8 * (64 * g) : Nat) : Int) = ((512 * g : Nat) : Int) := by omega
 rw [e1]
 refine Yla (by omega) fun u => ?_
 refine Vbr fun f => ?_
 (repeat ((with_reducible refine Ya7 ?_; intro _)))
 rename_i a
 (dsimp only [Yxf, Zej0, Zej1, Zej2, Zej3, Zej4, Zej5, Zej6, Zej7, Zej8, Zej9, Zej10, Zej11, Zej12, Zej13, Zej14, Zej15, Zej16, Zej17, Zej18, Zej19, Zej20])
 have cl : ∀ t, T B (R * Al a d g ⟨hs0 g, F, c, fun _ => false, fun _ => []⟩) t → T B (R * Mg m d g (hs0 g) F * LDx d (64 * g) c * Bm u (512 * g) (fun _ => false) * Fl f (fun _ => []) * pt a (.cells [.pointer (da m), .pointer (da d), .int .i64 g, .pointer (da u), .pointer (da f)].toArray 47)) t :=
  fun t h => T.perm (by ac_rfl) (Yax (a := a) (m := m) (u := u) (f := f) (d := d) (g := g) (R := R) (s := ⟨hs0 g, F, c, fun _ => false, fun _ => []⟩) h)
 have hk := cl _ (hk a)
 clear cl
 generalize hX : R * Mg m d g (hs0 g) F * LDx d (64 * g) c * Bm u (512 * g) (fun _ => false) * Fl f (fun _ => []) * pt a (.cells [.pointer (da m), .pointer (da d), .int .i64 g, .pointer (da u), .pointer (da f)].toArray 47) = X at *
 refine Ycz (fun _ _ => X) (fun n (z : Int × Unit) => z.1 = 0 ∧ n = 0) 0 rfl ⟨rfl, rfl⟩ ?_
 rintro n ⟨z, uu⟩ cc ⟨e, rfl⟩ hc
 simp only at e
 subst e
 clear hc
 (repeat' (with_reducible refine Yai (fun _ => ?_) (fun _ => ?_)))
 ·rename_i h; simp at h
 refine Ycz (fun _ _ => X) (fun n (z : Int × Unit) => ∃ i : Nat, z.1 = i ∧ 1 ≤ i ∧ n = g - i) (g - 1) rfl ⟨1, rfl, by omega, rfl⟩ ?_
 rintro n ⟨z, uu⟩ cc ⟨i, e1, e2, e3⟩ hc
 simp only at e1
 subst e1 e3
 have hnx := hc (g - (i + 1)) (IntKind.wrap .i64 ((i : Int) + 1), ())
 clear hc
 subst hX
 refine Yaa (X := Mg m d g (hs0 g) F) (by exact frmA) ?_
 refine Yhu fun tt x tie => ?_
 unfold da
 (repeat (first | with_reducible refine Yam ?_ | ((with_reducible apply Yaj); (focus rfl); (focus exact hasA); (focus rfl))))
 refine Yaa (X := Tab tt d g (hs0 g)) (by exact frmA) ?_
 refine Yk7 ?_
 have hlen : (hs0 g).length = g := by simp [hs0]
 rw [hlen]
 (repeat' (first | with_reducible refine Yam ?_ | ((with_reducible apply Yaj); (focus rfl); (focus exact hasA); (focus rfl)) | with_reducible refine Yai (fun _ => ?_) (fun _ => ?_)))
 ·rename_i hlt
  refine Yk8 ?_
  rw [if_neg (by omega), Int.toNat_natCast, show (hs0 g).getD i (0, 0, 0) = (0, 0, 0) from Ysc g i]
  (repeat' (first | ((with_reducible apply Yaf); (focus rfl); (focus exact hasA); (focus rfl)) | (with_reducible refine Ya7 ?_; intro _) | ((with_reducible apply Ybc); (focus rfl); (focus exact updA); (focus simp); simp only [List.set, Nat.zero_add, Nat.reduceAdd]) | with_reducible refine Ybr (fun _ => ?_) (fun _ => ?_)))
  ·rename_i h; exact absurd h (by decide)
  rename_i b hne
  by_cases hb : i < g
  ·have := hnx (by omega) ⟨i + 1, w64 (by omega) (by omega), by omega, rfl⟩
   refine Yac .last ?_
   have h2 : T B (R * LDx d (64 * g) c * Bm u (512 * g) (fun _ => false) * Fl f (fun _ => []) * pt a (.cells [.pointer (da m), .pointer (da d), .int .i64 g, .pointer (da u), .pointer (da f)].toArray 47) * Mg m d g (hs0 g) F) (cc (IntKind.wrap .i64 ((i : Int) + 1), ())) := T.perm (by ac_rfl) this
   have h3 := Yfq (a := tt) (x := x) tie h2
   exact T.perm (by unfold da; ac_rfl) h3
  ·exfalso; omega
 ·have h2 : T B (R * LDx d (64 * g) c * Bm u (512 * g) (fun _ => false) * Fl f (fun _ => []) * pt a (.cells [.pointer (da m), .pointer (da d), .int .i64 g, .pointer (da u), .pointer (da f)].toArray 47) * Mg m d g (hs0 g) F) (kk (da a, 0)) := T.perm (by ac_rfl) hk
  have h3 := Yfq (a := tt) (x := x) tie h2
  exact T.perm (by unfold da; ac_rfl) h3
theorem Yx2 {a d g : Nat} {s : St} {kk : Sl → K} (hk : ∀ sl, T B (R * Al a d g s * vec 3 1 sl (ints (uBel s.U (512 * g)))) (kk sl)) : T B (R * Al a d g s) (Yan (da a) kk) := by
 refine Yaq (Yd7 _ kk) ?_
 refine Ycu fun m u f => ?_
 unfold da
 (repeat (first | with_reducible refine Yam ?_ | ((with_reducible apply Yaj); (focus rfl); (focus exact hasA); (focus rfl))))
 refine Yaa (X := Bm u (512 * g) s.U) (by exact frmA) ?_
 refine Yoq fun sl => ?_
 have h2 : T B (R * vec 3 1 sl (ints (uBel s.U (512 * g))) * Al a d g s) (kk sl) := T.perm (by ac_rfl) (hk sl)
 exact T.perm (by unfold da; ac_rfl) (Yax (m := m) (u := u) (f := f) h2)
end
end
def pIn (a b x : Int) : Bool := decide (x ≥ a) && decide (x < b)
def rmN (L : Nat → List Int) (k : Nat) (p : Int → Bool) : Nat → Nat → List Int
 |0 => setN L k ((L k).filter fun x => !p x)
 |i + 1 => setN (rmN L k p i) (ix i k) ((rmN L k p i (ix i k)).filter fun x => !p x)
theorem Vc6 (L : Nat → List Int) {k : Nat} (hk : k < 32) (p : Int → Bool) : ∀ i, i ≤ 4 → ∀ x, rmN L k p i x = if x = k ∨ (∃ m, m < i ∧ x = ix m k) then (L x).filter (fun x => !p x) else L x := by
 intro i
 induction i with
 |zero =>
  intro _ x
  show setN L k _ x = _
  by_cases e : x = k
  ·subst e; rw [Yao, if_pos (.inl rfl)]
  ·rw [Yas _ _ e, if_neg]
   rintro (h | ⟨m, h, _⟩)
   ·exact e h
   ·omega
 |succ i ih =>
  intro hi x
  have ih := ih (by omega)
  show setN (rmN L k p i) (ix i k) _ x = _
  by_cases e : x = ix i k
  ·subst e
   rw [Yao, ih, if_neg, if_pos (.inr ⟨i, by omega, rfl⟩)]
   rintro (h | ⟨m, h, h2⟩)
   ·unfold ix at h; omega
   ·have := (Vam hk hk h2).1; omega
  ·rw [Yas _ _ e, ih x]
   by_cases e2 : x = k ∨ ∃ m, m < i ∧ x = ix m k
   ·rw [if_pos e2, if_pos]
    rcases e2 with h | ⟨m, h, h2⟩
    ·exact .inl h
    ·exact .inr ⟨m, by omega, h2⟩
   ·rw [if_neg e2, if_neg]
    rintro (h | ⟨m, h, h2⟩)
    ·exact e2 (.inl h)
    ·by_cases e3 : m = i
     ·subst e3; exact e h2
     ·exact e2 (.inr ⟨m, by omega, h2⟩)
theorem Vgv (L : Nat → List Int) {k : Nat} (hk : k < 32) (p : Int → Bool) : accL (rmN L k p 4) k 4 = (accL L k 4).filter (fun x => !p x) ∧ ∀ j, j < 32 → j ≠ k → accL (rmN L k p 4) j 4 = accL L j 4 := by
 have hg := Vc6 L hk p 4 (by omega)
 constructor
 ·show (((rmN L k p 4 k ++ rmN L k p 4 (ix 0 k)) ++ rmN L k p 4 (ix 1 k)) ++ rmN L k p 4 (ix 2 k)) ++ rmN L k p 4 (ix 3 k) = ((((L k ++ L (ix 0 k)) ++ L (ix 1 k)) ++ L (ix 2 k)) ++ L (ix 3 k)).filter _
  rw [hg k, if_pos (.inl rfl), hg (ix 0 k), if_pos (.inr ⟨0, by omega, rfl⟩), hg (ix 1 k), if_pos (.inr ⟨1, by omega, rfl⟩), hg (ix 2 k), if_pos (.inr ⟨2, by omega, rfl⟩), hg (ix 3 k), if_pos (.inr ⟨3, by omega, rfl⟩)]
  simp only [List.filter_append]
 ·intro j hj hjk
  have h1 : ∀ m, m < 4 → rmN L k p 4 (ix m j) = L (ix m j) := by
   intro m hm
   rw [hg, if_neg]
   rintro (h | ⟨m', h, h2⟩)
   ·unfold ix at h; omega
   ·exact hjk (Vam hj hk h2).2
  have h2 : rmN L k p 4 j = L j := by
   rw [hg, if_neg]
   rintro (h | ⟨m', h, h2⟩)
   ·exact hjk h
   ·unfold ix at h2; omega
  show (((rmN L k p 4 j ++ rmN L k p 4 (ix 0 j)) ++ rmN L k p 4 (ix 1 j)) ++ rmN L k p 4 (ix 2 j)) ++ rmN L k p 4 (ix 3 j) = ((((L j ++ L (ix 0 j)) ++ L (ix 1 j)) ++ L (ix 2 j)) ++ L (ix 3 j))
  rw [h2, h1 0 (by omega), h1 1 (by omega), h1 2 (by omega), h1 3 (by omega)]
section
variable {B : World} {P R : SL} {t : K}
theorem Yug {a : Nat} {L : Nat → List Int} (hL : ∀ i, i < 160 → (L i).length ≤ 2 ^ 30) {k : Nat} (hk2 : k < 32) {kk : Int → K} (hk : T B (R * Fl a L) (kk (accL L k 4).length)) : T B (R * Fl a L) (Yer (da a) k kk) := by
 refine Yaq (Ypq _ k kk) ?_
 (dsimp only [Ymj, Zdr0, Zdr1])
 refine Yzo hL hk2 fun s => ?_
 refine Yc0 .last fun hn => ?_
 rw [Yag, Nat.mul_one, sortI, List.length_mergeSort] at hn
 rw [hn]
 exact hk.weak
theorem Ve1 {b1 b2 : Nat} {u v : Int} : Prd B (pt b1 (.cells [.int .i64 u].toArray 3) * pt b2 (.cells [.int .i64 v].toArray 3)) ⟨.func 210, #[], #[.pointer (some ⟨b1, 0, none⟩), .pointer (some ⟨b2, 0, none⟩)]⟩ (pIn u v) := by
 intro X x k hk w hw
 have h : T B (X * (pt b1 (.cells [.int .i64 u].toArray 3) * pt b2 (.cells [.int .i64 v].toArray 3))) (Yfw x ⟨b1, 0, none⟩ ⟨b2, 0, none⟩ k) := by
  refine Yaq (Yjy _ _ _ k) ?_
  unfold pIn at hk
  rw [← Yad] at hk ⊢
  (repeat (((with_reducible apply Yaf); (focus rfl); (focus exact hasA); (focus rfl))))
  refine Vb2 (fun e => ?_) (fun e => ?_)
  ·rw [e, Bool.true_and] at hk
   (repeat (((with_reducible apply Yaf); (focus rfl); (focus exact hasA); (focus rfl))))
   exact hk
  ·rw [e, Bool.false_and] at hk
   exact hk
 exact .inl ⟨210, _, rfl, by kernel_rfl, h w hw⟩
theorem Yvx {a : Nat} {L : Nat → List Int} (hL : ∀ i, i < 160 → (L i).length ≤ 2 ^ 30) {k : Nat} (hk2 : k < 32) {u v : Int} {kk : Int → K}
  (hk : ∀ n, T B (R * Fl a (rmN L k (pIn u v) 4)) (kk n)) : T B (R * Fl a L) (Yev (da a) k u v kk) := by
 refine Yaq (Yl5 _ k u v kk) ?_
 (repeat ((with_reducible refine Ya7 ?_; intro _)))
 rename_i b1 b2
 refine Ybt ?_
 rw [decide_eq_true (by omega)]
 simp only [Bool.not_true]
 (repeat (with_reducible refine Yau ?_))
 refine Yaa (X := Fl a L) (by exact frmA) ?_
 refine Yug hL hk2 ?_
 have hp := Ve1 (B := B) (b1 := b1) (b2 := b2) (u := u) (v := v)
 (dsimp only [Yh8, Zdd0, Zdd1, Zdd2, Zdd3, Zdd4, Zdd5, Zdd6, Zdd7, Zdd8, Zdd9, Zdd10, Zdd11, Zdd12, Zdd13, Zdd14, Zdd15])
 have hlk := hL k (by omega)
 refine Yak ?_
 refine Ynh (i := k) (by omega) fun S cs r ok => ?_
 unfold da
 (repeat (with_reducible refine Yam ?_))
 refine Yvq (S := S) (.init .last) hk2 ?_
 (repeat (with_reducible refine Yam ?_))
 refine T.perm (Q := R * MpF eslot esl r cs * bigX 160 (vI S L) k * pt a (.cells (glob S ++ [Value.map (some r)]).toArray 199) * vec 3 1 (S k) (ints (L k)) * (pt b1 (.cells [.int .i64 u].toArray 3) * pt b2 (.cells [.int .i64 v].toArray 3))) (by ac_rfl) ?_
 refine Yqd hp (by omega) fun s' => ?_
 refine T.perm (Q := R * pt b1 (.cells [.int .i64 u].toArray 3) * pt b2 (.cells [.int .i64 v].toArray 3) * MpF eslot esl r cs * bigX 160 (vI S L) k * pt a (.cells (glob S ++ [Value.map (some r)]).toArray 199) * vec 3 1 s' (ints ((L k).filter fun x => !pIn u v x))) (by ac_rfl) ?_
 refine Vc4 (S := S) (s := s') hk2 (.init .last) ?_
 refine Ylf (i := k) (by omega) (ok.glob hk2 s') ?_
 have hlen : ∀ i, i ≤ 4 → ∀ x, x < 160 → (rmN L k (pIn u v) i x).length ≤ 2 ^ 30 := by
  intro i hi x hx
  rw [Vc6 L hk2 _ i hi x]
  have := hL x hx
  split
  ·exact Nat.le_trans (List.length_filter_le _ _) this
  ·exact this
 refine Ycz (fun _ z => R * pt b1 (.cells [.int .i64 u].toArray 3) * pt b2 (.cells [.int .i64 v].toArray 3) * Fl a (rmN L k (pIn u v) z.1.toNat)) (fun n (z : Int × Unit) => ∃ i : Nat, z.1 = i ∧ i ≤ 4 ∧ n = 4 - i) 4 rfl ⟨0, rfl, by omega, rfl⟩ ?_
 rintro n ⟨z, uu⟩ c ⟨i, e1, e2, e3⟩ hc
 simp only at e1
 subst e1 e3
 simp only [Int.toNat_natCast]
 (repeat' (first | with_reducible refine Yam ?_ | with_reducible refine Yak ?_ | (with_reducible refine Ya7 ?_; intro _) | ((with_reducible apply Ybc); (focus rfl); (focus exact updA); (focus simp); simp only [List.set, Nat.zero_add, Nat.reduceAdd]) | with_reducible refine Yai (fun _ => ?_) (fun _ => ?_)))
 ·rename_i hlt b3
  have hi : i < 4 := by omega
  have hix : ix i k < 160 := by unfold ix; omega
  have hnx := hc (4 - (i + 1)) (IntKind.wrap .i64 ((i : Int) + 1), ()) (by omega) ⟨i + 1, w64 (by omega) (by omega), by omega, rfl⟩
  have e : (IntKind.wrap .i64 ((i : Int) + 1)).toNat = i + 1 := by rw [w64 (by omega) (by omega)]; omega
  simp only [e] at hnx
  clear hc
  have hl0 := hlen i e2 _ hix
  have hnx : T B (R * pt b1 (.cells [.int .i64 u].toArray 3) * pt b2 (.cells [.int .i64 v].toArray 3) * Fl a (setN (rmN L k (pIn u v) i) (ix i k) ((rmN L k (pIn u v) i (ix i k)).filter fun x => !pIn u v x))) (c (IntKind.wrap .i64 ((i : Int) + 1), ())) := hnx
  generalize rmN L k (pIn u v) i = L0 at *
  refine Yaa (X := Fl a L0) (by exact frmA) ?_
  refine Ynh hix fun S cs r ok => ?_
  (repeat (first | ((with_reducible apply Yaf); (focus rfl); (focus exact hasA); (focus rfl)) | ((with_reducible apply Yd8); (focus rfl); (focus exact hasA); (focus rfl))))
  refine Yr0 (ek := eslot) (ev := esl) Yle (MHas.init (MHas.init (MHas.init (MHas.of .last)))) (key := ((i : Int), (k : Int))) (f := cs) ((cs ((i : Int), (k : Int))).getD nilS) (by cases cs ((i : Int), (k : Int)) <;> rfl) fun ob => ?_
  have hS := ok.eq i k hi hk2
  refine Yc0 (E := 3) (sz := 1) (s := S (ix i k)) (vs := ints (L0 (ix i k))) .last fun hn => ?_
  rw [Yag, Nat.mul_one] at hn
  cases hcs : cs ((i : Int), (k : Int)) with
  |none =>
   rw [hcs] at hS
   have hn0 : (S (ix i k)).n = 0 := by rw [← hS]; rfl
   have h0 : L0 (ix i k) = [] := List.eq_nil_of_length_eq_zero (by omega)
   have e0 : setN L0 (ix i k) ((L0 (ix i k)).filter fun x => !pIn u v x) = L0 := by
    rw [h0, List.filter_nil, ← h0, Yf4]
   rw [e0] at hnx
   simp only [Option.isSome_none]
   (repeat (with_reducible refine Yau ?_))
   refine Yac (by exact frmA : Frm _ (pt b3 (.cells [.int .i64 i, .int .i64 k].toArray 201)) _) ?_
   have h2 := Ylf (B := B) (R := R * pt b1 (.cells [.int .i64 u].toArray 3) * pt b2 (.cells [.int .i64 v].toArray 3)) (a := a) (i := ix i k) (r := r) (L := L0) (S := S) (cs := cs) (s := S (ix i k)) (l := L0 (ix i k)) hix (by rw [Yf4]; exact ok) (t := c (IntKind.wrap .i64 ((i : Int) + 1), ())) (by rw [Yf4]; exact hnx)
   rw [Yf4] at h2
   exact h2
  |some s0 =>
   rw [hcs] at hS
   simp only [Option.isSome_some, Option.getD_some] at hS ⊢
   subst hS
   (repeat (first | with_reducible refine Yam ?_ | with_reducible refine Yak ?_ | with_reducible refine Yal ?_ | ((with_reducible apply Yaf); (focus rfl); (focus exact hasA); (focus rfl)) | ((with_reducible apply Yd8); (focus rfl); (focus exact hasA); (focus rfl))))
   refine T.perm (Q := R * pt b3 (.cells [.int .i64 i, .int .i64 k].toArray 201) * MpF eslot esl r cs * bigX 160 (vI S L0) (ix i k) * pt a (.cells (glob S ++ [Value.map (some r)]).toArray 199) * vec 3 1 (S (ix i k)) (ints (L0 (ix i k))) * (pt b1 (.cells [.int .i64 u].toArray 3) * pt b2 (.cells [.int .i64 v].toArray 3))) (by ac_rfl) ?_
   refine Yqd hp (by omega) fun s' => ?_
   refine T.perm (Q := R * pt b1 (.cells [.int .i64 u].toArray 3) * pt b2 (.cells [.int .i64 v].toArray 3) * pt b3 (.cells [.int .i64 i, .int .i64 k].toArray 201) * bigX 160 (vI S L0) (ix i k) * pt a (.cells (glob S ++ [Value.map (some r)]).toArray 199) * vec 3 1 s' (ints ((L0 (ix i k)).filter fun x => !pIn u v x)) * MpF eslot esl r cs) (by ac_rfl) ?_
   (repeat (first | with_reducible refine Ybe ?_ | ((with_reducible apply Ycm); (focus rfl); (focus exact hasA); (focus rfl))))
   refine Vah (ek := eslot) (ev := esl) Yle (v := s') (key := ((i : Int), (k : Int))) rfl rfl ?_
   refine Yac (by exact frmA : Frm _ (pt b3 (.cells [.int .i64 i, .int .i64 k].toArray 201)) _) ?_
   have h2 := Ylf (r := r) hix (ok.slot hi hk2 s') hnx
   rw [Yig S (by unfold ix; omega)] at h2
   exact T.perm (by ac_rfl) h2
 ·have : i = 4 := by omega
  subst this
  refine Yug (hlen 4 (by omega)) hk2 ?_
  skip
  refine Yac (by exact frmA : Frm _ (pt b1 (.cells [.int .i64 u].toArray 3)) _) ?_
  refine Yac (by exact frmA : Frm _ (pt b2 (.cells [.int .i64 v].toArray 3)) _) ?_
  exact hk _
end
section
set_option maxHeartbeats 1000000
theorem Yx3 {hs : List Hd} {b : Nat} {h : Hd} (hb : b < hs.length) (i : Nat) : hd (splice hs b [h]) i = if i = b then h else hd hs i := by
 unfold hd
 rw [Ycc (by simp; omega)]
 simp only [List.length_singleton]
 by_cases e : i = b
 ·subst e; rw [if_pos (by omega), if_pos rfl]; simp
 ·rw [if_neg (by omega), if_neg e]
theorem Ve2 {hs : List Hd} {b : Nat} (h : (hd hs b).1 ≠ 0) : b < hs.length := by
 refine Classical.byContradiction fun hn => h ?_
 unfold hd; rw [List.getD_eq_getElem?_getD, List.getElem?_eq_none (by omega)]; rfl
theorem Yx4 {b x : Nat} : pIn ((b * 512 : Nat) : Int) (((b * 512 : Nat) : Int) + 512) (x : Int) = decide (x / 512 = b) := by
 unfold pIn
 rw [Bool.eq_iff_iff]
 simp only [Bool.and_eq_true, decide_eq_true_eq]
 omega
theorem Inv.trim {g : Nat} {hs : List Hd} {U : Nat → Bool} {L : Nat → List Int} (h : Inv g hs U L) {b k : Nat} (hk : k < 32) (hb : 1 ≤ b) (hh : hd hs b = (1, (k : Int), 0)) (hu : ∀ x, x / 512 = b → U x = false) :
  Inv g (splice hs b [(0, 0, 0)]) U (rmN L k (pIn ((b * 512 : Nat) : Int) (((b * 512 : Nat) : Int) + 512)) 4) := by
 have hl := h.len
 have hlt : b < hs.length := Ve2 (by rw [hh]; simp)
 have hhd := fun i => Yx3 (h := ((0, 0, 0) : Hd)) hlt i
 obtain ⟨a1, a2⟩ := Vgv L hk (pIn ((b * 512 : Nat) : Int) (((b * 512 : Nat) : Int) + 512))
 have hw' : ∀ {b0 n0}, WholeP hs b0 n0 → WholeP (splice hs b [(0, 0, 0)]) b0 n0 := by
  intro b0 n0 hw
  refine hw.keep (Yah (by simp; omega)) fun i h1 h2 => ?_
  rw [hhd, if_neg]
  intro e; subst e
  rcases hw.kind h1 h2 with ⟨_, h3⟩ | ⟨_, h3⟩ <;> (rw [hh] at h3; simp at h3)
 have hsm : ∀ j, j < 32 → ∀ x, SmCell g (splice hs b [(0, 0, 0)]) j x ↔ SmCell g hs j x ∧ x / 512 ≠ b := by
  intro j hj x
  constructor
  ·rintro ⟨b', i, h1, h2, h3, h4, rfl⟩
   rw [hhd] at h3
   by_cases e : b' = b
   ·rw [if_pos e] at h3; simp at h3
   ·rw [if_neg e] at h3
    exact ⟨⟨b', i, h1, h2, h3, h4, rfl⟩, by rw [Ybi hj h4]; exact e⟩
  ·rintro ⟨⟨b', i, h1, h2, h3, h4, rfl⟩, hne⟩
   rw [Ybi hj h4] at hne
   exact ⟨b', i, h1, h2, by rw [hhd, if_neg hne]; exact h3, h4, rfl⟩
 refine ⟨by rw [Yah (by simp; omega)]; exact hl, h.two, h.big, fun x hx => ?_, ?_, fun b0 hb0 => ?_, fun b0 hb0 => ?_, fun x hx => ?_, ⟨fun j hj => ?_, fun j hj y => ?_⟩⟩
 ·unfold splice at hx
  simp only [List.mem_append, List.mem_singleton] at hx
  rcases hx with (hx | rfl) | hx
  ·exact h.right x (List.mem_of_mem_take hx)
  ·exact .inl rfl
  ·exact h.right x (List.mem_of_mem_drop hx)
 ·rw [hhd, if_neg (by omega)]; exact h.zero
 ·rw [hhd] at hb0
  by_cases e : b0 = b
  ·rw [if_pos e] at hb0; simp at hb0
  ·rw [if_neg e] at hb0
   obtain ⟨n, hw⟩ := h.whole b0 hb0
   exact ⟨n, hw' hw⟩
 ·rw [hhd] at hb0
  by_cases e : b0 = b
  ·rw [if_pos e] at hb0; simp at hb0
  ·rw [if_neg e] at hb0
   obtain ⟨b1, n, hw, h1, h2⟩ := h.cont b0 hb0
   exact ⟨b1, n, hw' hw, h1, h2⟩
 ·rcases h.used x hx with ⟨j, hj, hc⟩ | ⟨b0, n, h1, hw, h2⟩
  ·refine .inl ⟨j, hj, (hsm j hj x).2 ⟨hc, fun e => ?_⟩⟩
   rw [hu x e] at hx; cases hx
  ·exact .inr ⟨b0, n, h1, hw' hw, h2⟩
 ·by_cases e : j = k
  ·subst e; rw [a1]; exact (h.free.nd j hj).filter _
  ·rw [a2 j hj e]; exact h.free.nd j hj
 ·by_cases e : j = k
  ·subst e
   rw [a1, List.mem_filter, h.free.mem j hj]
   constructor
   ·rintro ⟨⟨x, rfl, h1, h2⟩, h3⟩
    rw [Yx4] at h3
    exact ⟨x, rfl, (hsm j hj x).2 ⟨h1, by simpa using h3⟩, h2⟩
   ·rintro ⟨x, rfl, h1, h2⟩
    obtain ⟨h1, h3⟩ := (hsm j hj x).1 h1
    refine ⟨⟨x, rfl, h1, h2⟩, ?_⟩
    rw [Yx4]; simpa using h3
  ·rw [a2 j hj e, h.free.mem j hj]
   constructor
   ·rintro ⟨x, rfl, h1, h2⟩
    refine ⟨x, rfl, (hsm j hj x).2 ⟨h1, fun e2 => ?_⟩, h2⟩
    obtain ⟨b', i, _, _, h3, h4, rfl⟩ := h1
    rw [Ybi hj h4] at e2
    subst e2
    rw [hh] at h3
    simp only [Prod.mk.injEq] at h3
    omega
   ·rintro ⟨x, rfl, h1, h2⟩
    exact ⟨x, rfl, ((hsm j hj x).1 h1).1, h2⟩
def trimS (s : St) (b k : Nat) (F' : RF) : St := { s with hs := splice s.hs b [(0, 0, 0)], F := F', c := wrH s.c b [(0, 0, 0)], L := rmN s.L k (pIn ((b * 512 : Nat) : Int) (((b * 512 : Nat) : Int) + 512)) 4 }
section
variable {B : World} {P R : SL} {t : K}
theorem Vht {a d g : Nat} {s : St} (inv : Inv g s.hs s.U s.L) {b : Int} {kk : Bool × Int → K} (h0 : T B (R * Al a d g s) (kk (false, 0)))
  (h1 : ∀ (n k : Nat) F', b = n → 1 ≤ n → k < 32 → hd s.hs n = (1, (k : Int), 0) → (∀ x, x / 512 = n → s.U x = false) → T B (R * Al a d g (trimS s n k F')) (kk (true, 0))) :
  T B (R * Al a d g s) (Ydl (da a) b kk) := by
 refine Yaq (Yja _ b kk) ?_
 have hg := inv.big
 have hl := inv.len
 refine Ycu fun m u f => ?_
 unfold da
 (repeat (first | with_reducible refine Yam ?_ | ((with_reducible apply Yaj); (focus rfl); (focus exact hasA); (focus rfl))))
 refine Yaa (X := Mg m d g s.hs s.F) (by exact frmA) ?_
 refine Yhu fun tt xx tie => ?_
 unfold da
 (repeat (((with_reducible apply Yaj); (focus rfl); (focus exact hasA); (focus rfl))))
 refine Yaa (X := Tab tt d g s.hs) (by exact frmA) ?_
 refine Yk8 ?_
 (repeat (first | with_reducible refine Yam ?_ | ((with_reducible apply Yaf); (focus rfl); (focus exact hasA); (focus rfl)) | (with_reducible refine Ya7 ?_; intro _) | ((with_reducible apply Ybc); (focus rfl); (focus exact updA); (focus simp); simp only [List.set, Nat.zero_add, Nat.reduceAdd])))
 rename_i b0
 have cl : ∀ t, T B (R * Al a d g s) t → T B (R * LDx d (64 * g) s.c * Bm u (512 * g) s.U * Fl f s.L * pt a (.cells [.pointer (some ⟨m, 0, none⟩), .pointer (some ⟨d, 0, none⟩), .int .i64 g, .pointer (some ⟨u, 0, none⟩), .pointer (some ⟨f, 0, none⟩)].toArray 47) * Idx xx g s.F * pt m (.cells [.pointer (some ⟨tt, 0, none⟩), .pointer (some ⟨xx, 0, none⟩), .int .i64 g].toArray 51) * Tab tt d g s.hs) t := by
  intro t h
  have h2 := Yax (m := m) (u := u) (f := f) h
  have h3 : T B (R * LDx d (64 * g) s.c * Bm u (512 * g) s.U * Fl f s.L * pt a (.cells [.pointer (da m), .pointer (da d), .int .i64 g, .pointer (da u), .pointer (da f)].toArray 47) * Mg m d g s.hs s.F) t := T.perm (by ac_rfl) h2
  have h4 := Yfq (a := tt) (x := xx) tie h3
  exact T.perm (by unfold da; ac_rfl) h4
 generalize hh : (if b < 1 then ((0, 0, 0) : Hd) else s.hs.getD b.toNat (0, 0, 0)) = h
 obtain ⟨h1', h2', h3'⟩ := h
 have hb0 : h1' ≠ 0 → 1 ≤ b ∧ hd s.hs b.toNat = (h1', h2', h3') := by
  intro hne
  split at hh
  ·simp only [Prod.mk.injEq] at hh; omega
  ·exact ⟨by omega, hh⟩
 refine Yhd (by omega) ?_
 (dsimp only [Ygf, Zeh0, Zeh1, Zeh2, Zeh3, Zeh4, Zeh5, Zeh6, Zeh7, Zeh8, Zeh9, Zeh10])
 refine Yaf (n := h1') (by rw [Yay]) .last rfl ?_
 refine Yar (fun hne => ?_) (fun heq => ?_)
 ·(repeat (with_reducible refine Yal ?_))
  refine Yac .last ?_
  exact cl _ h0
 subst heq
 obtain ⟨hb1, hbh⟩ := hb0 (by decide)
 obtain ⟨n, rfl⟩ := Int.eq_ofNat_of_zero_le (show 0 ≤ b by omega)
 rw [Int.toNat_natCast] at hbh
 have hlt : n < s.hs.length := Ve2 (by rw [hbh]; simp)
 have hrt := Vbw inv.right n
 rw [hbh] at hrt
 unfold hRight at hrt
 simp only [Prod.mk.injEq] at hrt
 obtain ⟨k, rfl⟩ := Int.eq_ofNat_of_zero_le (show 0 ≤ h2' by omega)
 have hk : k < 32 := by omega
 have h30 : h3' = 0 := by omega
 subst h30
 have hf : first g (n : Int) = ((n * 512 : Nat) : Int) := by unfold first; rw [if_neg (by omega)]; omega
 have ew : IntKind.wrap .i64 (((n * 512 : Nat) : Int) + 512) = ((n * 512 : Nat) : Int) + 512 := w64 (by omega) (by omega)
 rw [hf]
 (repeat (first | with_reducible refine Yam ?_ | ((with_reducible apply Yaj); (focus rfl); (focus exact hasA); (focus rfl))))
 rw [ew]
 refine Yaa (X := Bm u (512 * g) s.U) (by exact frmA) ?_
 refine Yqu (by omega) fun q hq => ?_
 by_cases hq0 : q = 0
 ·subst hq0
  have hun : ∀ x, x / 512 = n → s.U x = false := fun x hx => hq.1 rfl x (by omega) (by omega)
  (repeat' (first | with_reducible refine Yam ?_ | with_reducible refine Yak ?_ | ((with_reducible apply Yaf); (focus rfl); (focus exact hasA); (focus rfl)) | ((with_reducible apply Yaj); (focus rfl); (focus exact hasA); (focus rfl)) | with_reducible refine Yai (fun _ => ?_) (fun _ => ?_)))
  ·exfalso; omega
  refine Yaa (X := Fl f s.L) (by exact frmA) ?_
  refine Yvx (fun i hi => by have := inv.free.lens hg i hi; omega) hk fun _ => ?_
  (repeat (first | with_reducible refine Yam ?_ | ((with_reducible apply Yaj); (focus rfl); (focus exact hasA); (focus rfl))))
  refine Yac (by exact frmA : Frm _ (pt b0 (.cells [.int .i64 1, .int .i64 k, .int .i64 0].toArray 143)) _) ?_
  refine T.perm (Q := R * LDx d (64 * g) s.c * pt a (.cells [.pointer (some ⟨m, 0, none⟩), .pointer (some ⟨d, 0, none⟩), .int .i64 g, .pointer (some ⟨u, 0, none⟩), .pointer (some ⟨f, 0, none⟩)].toArray 47) * Bm u (512 * g) s.U * Fl f (rmN s.L k (pIn ((n * 512 : Nat) : Int) (((n * 512 : Nat) : Int) + 512)) 4) * Tab tt d g s.hs * Idx xx g s.F * pt m (.cells [.pointer (da tt), .pointer (da xx), .int .i64 g].toArray 51)) (by unfold da; ac_rfl) ?_
  refine Yfq tie ?_
  refine Yaa (X := LDx d (64 * g) s.c) (by exact frmA) ?_
  refine Yaa (X := Mg m d g s.hs s.F) (by exact frmA) ?_
  refine Ymk (nn := 1) rfl (by omega) (.inl ⟨by rw [show s.hs.getD n (0, 0, 0) = hd s.hs n from rfl, hbh], rfl, hlt⟩) fun F' tie' => ?_
  (repeat' (with_reducible refine Yar (fun _ => ?_) (fun _ => ?_)))
  ·rename_i h; exact absurd rfl h
  have h2 := Yax (m := m) (u := u) (f := f) (h1 n k F' rfl (by omega) hk hbh hun)
  exact T.perm (by unfold da; ac_rfl) h2
 ·(repeat' (first | with_reducible refine Yam ?_ | with_reducible refine Yak ?_ | ((with_reducible apply Yaf); (focus rfl); (focus exact hasA); (focus rfl)) | ((with_reducible apply Yaj); (focus rfl); (focus exact hasA); (focus rfl)) | with_reducible refine Yai (fun _ => ?_) (fun _ => ?_)))
  ·refine T.perm (Q := R * LDx d (64 * g) s.c * Bm u (512 * g) s.U * Fl f s.L * pt a (.cells [.pointer (some ⟨m, 0, none⟩), .pointer (some ⟨d, 0, none⟩), .int .i64 g, .pointer (some ⟨u, 0, none⟩), .pointer (some ⟨f, 0, none⟩)].toArray 47) * Idx xx g s.F * pt m (.cells [.pointer (some ⟨tt, 0, none⟩), .pointer (some ⟨xx, 0, none⟩), .int .i64 g].toArray 51) * Tab tt d g s.hs * pt b0 (.cells [.int .i64 1, .int .i64 k, .int .i64 0].toArray 143)) (by ac_rfl) ?_
   refine Yac .last ?_
   exact cl _ h0
  ·exfalso; omega
end
end
section
set_option maxHeartbeats 1000000
/-- the device's words fit what the allocator knows -/
structure Pl (g : Nat) (s : St) : Prop where
 len : s.c.length = 512 * g
 hdr : ∀ b : Nat, 1 ≤ b → b < g → getI s.c (256 + b) = benc b (hd s.hs b)
 obj : ∀ x, s.U x = true → ∃ o, PlOk s.c (64 * g) s.hs g (x : Int) o
 large : ∀ b n, 1 ≤ b → WholeP s.hs b n → s.U (b * 512) = true
theorem Ypx {c c' : List Int} {n : Nat} {a : Int} (h : getI c' a = getI c a) : oHead c' n a = oHead c n a := by unfold oHead; rw [h]
theorem Yfs (c : List Int) (x : Nat) : getI c (x : Int) = c.getD x 0 := by unfold getI; rw [if_neg (by omega), Int.toNat_natCast]
theorem Ynq {c c' : List Int} {x : Nat} (h : c'[x]? = c[x]?) : getI c' (x : Int) = getI c (x : Int) := by rw [Yfs, Yfs, List.getD_eq_getElem?_getD, List.getD_eq_getElem?_getD, h]
theorem PlOk.keep {c c' : List Int} {n g x : Nat} {hs hs' : List Hd} {o : Ob} (h : PlOk c n hs g (x : Int) o) (hl : hs'.length = hs.length) (hc : c'[x]? = c[x]?) (hh : hd hs' (x / 512) = hd hs (x / 512)) (hw : ∀ m, WholeP hs (x / 512) m → WholeP hs' (x / 512) m) : PlOk c' n hs' g (x : Int) o := by
 obtain ⟨h1, h2, h3, h4⟩ := h
 obtain ⟨x', e1, e2, _, _⟩ := Yjg h2
 have : x' = x := by omega
 subst this
 refine ⟨by rw [Ypx (Ynq hc)]; exact h1, h2, by rw [hl]; exact h3, ?_⟩
 rw [e2, Int.toNat_natCast] at h4 ⊢
 rcases h4 with ⟨k, g1, g2, g3, g4⟩ | ⟨g1, m, g2, g3, g4⟩
 ·exact .inl ⟨k, g1, g2, g3, by rw [hh]; exact g4⟩
 ·exact .inr ⟨g1, m, hw m g2, g3, g4⟩
/-- an object's place -/
theorem PlOk.place {c : List Int} {n g x : Nat} {hs : List Hd} {o : Ob} (h : PlOk c n hs g (x : Int) o) : x < 512 * g ∧ 512 ≤ x ∧ oHead c n x = (o, 0) ∧
  ((∃ k : Nat, k < 32 ∧ kOf (oSize o) = ((k : Int), true) ∧ SmCell g hs k x) ∨ (∃ b m : Nat, x = b * 512 ∧ 1 ≤ b ∧ kOf (oSize o) = (0, false) ∧ WholeP hs b m ∧ (m : Int) = oBlocks o)) := by
 obtain ⟨h1, h2, h3, h4⟩ := h
 obtain ⟨x', e1, e2, e3, e4⟩ := Yjg h2
 have : x' = x := by omega
 subst this
 refine ⟨by omega, e4, h1, ?_⟩
 rcases h4 with ⟨k, g1, g2, g3, g4⟩ | ⟨g1, m, g2, g3, g4⟩
 ·obtain ⟨y, e5, hc⟩ := Yxu g1 h2 g3 g4
  have : y = x' := by omega
  subst this
  exact .inl ⟨k, g1, g2, hc⟩
 ·rw [e2] at g3
  rw [e2, Int.toNat_natCast] at g2
  have hb : x' = x' / 512 * 512 := by
   unfold first at g3
   split at g3 <;> omega
  exact .inr ⟨x' / 512, m, hb, by omega, g1, g2, g4⟩
theorem Yuh {g x : Nat} (h : x < 512 * g) : blockOf g (x : Int) = ((x / 512 : Nat) : Int) := by unfold blockOf; rw [if_neg (by omega)]; omega
theorem Vc7 {o : Ob} (h : oSize o ≠ 0) : oRight o := by
 by_cases hr : oRight o
 ·exact hr
 ·exact absurd (by unfold oSize; rw [if_neg hr]) h
theorem Vap {c : List Int} {n x : Nat} {o : Ob} (h : getI c x = oenc x o) (hz : oSize o ≠ 0) (hf : (x : Int) + oSize o ≤ ((8 * n : Nat) : Int)) : oHead c n x = (o, 0) := by
 have hr := Yem o
 unfold oHead
 rw [h, Vcn (Vc7 hz), if_neg]
 simp only
 omega
theorem PlOk.small {c : List Int} {g x k : Nat} {hs : List Hd} {o : Ob} (hl : hs.length = g) (hh : oHead c (64 * g) x = (o, 0)) (hk : k < 32) (hko : kOf (oSize o) = ((k : Int), true)) (hc : SmCell g hs k x) : PlOk c (64 * g) hs g (x : Int) o := by
 obtain ⟨b, i, h1, h2, h3, h4, rfl⟩ := hc
 have hr := Yep (b := b) hk h4
 obtain ⟨t1, t2, t3, t4, t5, t6, t7, t8⟩ := Yjf k hk
 have hlt : cellN b k i < 512 * g := by omega
 have hb := Yuh hlt
 rw [Ybi hk h4] at hb
 refine ⟨hh, by omega, by omega, .inl ⟨k, hk, hko, ?_, by rw [hb, Int.toNat_natCast]; exact h3⟩⟩
 unfold cellOf
 rw [if_neg (by rw [hb]; omega), hb]
 simp only [decide_eq_true_eq, t1]
 have e : ((cellN b k i : Nat) : Int) % 512 / (cw k : Int) = ((i : Nat) : Int) := by
  have e1 : cellN b k i % 512 = i * cw k := by
   have h5 := hr.2
   have h6 := hr.1
   unfold cellN at h5 h6 ⊢
   omega
  have e2 : ((cellN b k i : Nat) : Int) % 512 = ((i * cw k : Nat) : Int) := by omega
  rw [e2, ← Int.natCast_ediv, Nat.mul_div_cancel _ (by omega)]
 rw [e]
 exact Yxp hk h1 h2 h4
theorem PlOk.large {c : List Int} {g b m : Nat} {hs : List Hd} {o : Ob} (hl : hs.length = g) (hh : oHead c (64 * g) ((b * 512 : Nat) : Int) = (o, 0)) (hb : 1 ≤ b) (hko : kOf (oSize o) = (0, false)) (hw : WholeP hs b m) (hm : (m : Int) = oBlocks o) : PlOk c (64 * g) hs g ((b * 512 : Nat) : Int) o := by
 have := hw.1
 have := hw.2.1
 have hlt : b * 512 < 512 * g := by omega
 have hbo := Yuh hlt
 rw [Nat.mul_div_cancel _ (by omega)] at hbo
 refine ⟨hh, by omega, by omega, .inr ⟨hko, m, by rw [hbo, Int.toNat_natCast]; exact hw, ?_, hm⟩⟩
 rw [hbo]; unfold first; rw [if_neg (by omega)]; omega
theorem WholeP.disj {hs : List Hd} {b n b' n' i : Nat} (h : WholeP hs b n) (h' : WholeP hs b' n') (hne : b' ≠ b) (h1 : b ≤ i) (h2 : i < b + n) : ¬ (b' ≤ i ∧ i < b' + n') := by
 intro e
 rcases h.kind h1 h2 with ⟨h3, h4⟩ | ⟨h3, h4⟩ <;> rcases h'.kind e.1 e.2 with ⟨h5, h6⟩ | ⟨h5, h6⟩
 ·omega
 ·omega
 ·omega
 ·have e1 := h.2.2.2.2 (i - b) (by omega) (by omega)
  have e2 := h'.2.2.2.2 (i - b') (by omega) (by omega)
  rw [show b + (i - b) = i by omega] at e1
  rw [show b' + (i - b') = i by omega] at e2
  rw [e1] at e2
  simp only [Prod.mk.injEq] at e2
  omega
/-- only free blocks' headers are turned -/
def Chg (hs hs' : List Hd) : Prop := hs'.length = hs.length ∧ ∀ i, (hd hs i).1 ≠ 0 → hd hs' i = hd hs i
theorem Chg.whole {hs hs' : List Hd} {b n : Nat} (h : Chg hs hs') (hw : WholeP hs b n) : WholeP hs' b n :=
 hw.keep h.1 fun i h1 h2 => h.2 i (by rcases hw.kind h1 h2 with ⟨_, h3⟩ | ⟨_, h3⟩ <;> omega)
theorem PlOk.chg {c c' : List Int} {n g x : Nat} {hs hs' : List Hd} {o : Ob} (h : PlOk c n hs g (x : Int) o) (hg : Chg hs hs') (hc : c'[x]? = c[x]?) : PlOk c' n hs' g (x : Int) o := by
 refine h.keep hg.1 hc (hg.2 _ ?_) (fun m hw => hg.whole hw)
 obtain ⟨_, _, _, h4⟩ := h.place
 rcases h4 with ⟨k, hk, _, b, i, _, _, h1, h2, rfl⟩ | ⟨b, m, rfl, _, _, hw, _⟩
 ·rw [Ybi hk h2, h1]; simp
 ·rw [Nat.mul_div_cancel _ (by omega)]
  have := hw.2.2.1
  unfold hd; omega
theorem Yzu {g b : Nat} {c : List Int} {hs xs : List Hd} (hl : hs.length = g) (hc : c.length = 512 * g) (hfit : b + xs.length ≤ g) (h : ∀ b' : Nat, 1 ≤ b' → b' < g → getI c (256 + b') = benc b' (hd hs b')) :
  ∀ b' : Nat, 1 ≤ b' → b' < g → getI (wrH c b xs) (256 + b') = benc b' (hd (splice hs b xs) b') := by
 intro b' h1 h2
 have e : (256 + (b' : Int)) = ((256 + b' : Nat) : Int) := by omega
 rw [e, Yfs, List.getD_eq_getElem?_getD, Yhs]
 unfold hd
 rw [Ycc (by omega)]
 by_cases hin : b ≤ b' ∧ b' < b + xs.length
 ·rw [if_neg (by omega), if_pos hin, show 256 + b' - (256 + b) = b' - b by omega, List.getElem?_eq_getElem (by omega), List.getD_eq_getElem?_getD, List.getElem?_eq_getElem (by omega)]
  simp only [Option.map_some, Option.getD_some]
  congr 1; omega
 ·rw [if_pos (by omega), if_neg hin, ← List.getD_eq_getElem?_getD, ← Yfs, ← e]
  exact h b' h1 h2
theorem RoomR.chg {g : Nat} {s s1 : St} {o : Ob} {x : Nat} (tie : Tie g s.hs s.F) (h : RoomR g s o s1 x) : Chg s.hs s1.hs := by
 have hl := tie.len
 rcases h with ⟨k, _, _, _, h⟩ | ⟨n, _, _, _, _, h⟩
 ·rcases h.from_ with ⟨h1, _⟩ | ⟨b, q, h1, h2, _, _, h3, h4, _⟩
  ·rw [h1]; exact ⟨rfl, fun _ _ => rfl⟩
  ·rw [h4]
   refine ⟨Yah (by simp; omega), fun i hi => ?_⟩
   rw [Yx3 (by omega), if_neg]
   intro e; subst e; exact hi h3
 ·obtain ⟨b, q, _, h1, h2, _, h3, h4, _, h5, _⟩ := h.from_
  rw [h5]
  have hfit : b + (runH n).length ≤ s.hs.length := by rw [Ycy]; omega
  refine ⟨Yah hfit, fun i hi => ?_⟩
  unfold hd
  rw [Ycc hfit, if_neg]
  rintro ⟨e1, e2⟩
  rw [Ycy] at e2
  have := (tie.fr i).1 ⟨(b : Int), q, h3, by omega, by omega⟩
  rw [Int.toNat_natCast] at this
  exact hi this.2.2
/-- what stands behind an object that is made isn't touched -/
theorem RoomR.apart {g : Nat} {s s1 : St} {o : Ob} {x y : Nat} (h : RoomR g s o s1 x) (hz : oSize o ≠ 0) (hy : s.U y = true) : y ≠ x ∧ ¬ (x < y ∧ y < x + (oSize o).toNat) := by
 obtain ⟨inv, hun, _⟩ := h.inv
 have hr := Yem o
 refine ⟨fun e => (by subst e; rw [hun] at hy; cases hy), ?_⟩
 rintro ⟨e1, e2⟩
 have hy' : uAdd s.U x y = true := by unfold uAdd; rw [hy]; simp
 rcases h with ⟨k, hk, hko, hs, h⟩ | ⟨n, hk, hb, _, _, h⟩
 ·obtain ⟨b, i, h1, h2, h3, h4, rfl⟩ := h.cell
  have r1 := Yep (b := b) hk h4
  have hyb : y / 512 = b := by omega
  rcases inv.used y hy' with ⟨k', hk', b', i', g1, g2, g3, g4, rfl⟩ | ⟨b', n', g1, hw, rfl⟩
  ·rw [Ybi hk' g4] at hyb
   subst hyb
   rw [h3] at g3
   simp only [Prod.mk.injEq] at g3
   have : k' = k := by omega
   subst this
   unfold cellN at e1 e2
   rcases Nat.lt_or_ge i i' with hi | hi
   ·have := Nat.mul_le_mul_right (cw k') (show i + 1 ≤ i' from hi)
    rw [Nat.add_mul, Nat.one_mul] at this
    omega
   ·have := Nat.mul_le_mul_right (cw k') hi
    omega
  ·rw [Nat.mul_div_cancel _ (by omega)] at hyb
   subst hyb
   have := hw.2.2.1
   unfold hd at h3
   rw [h3] at this; simp at this
 ·obtain ⟨b, q, rfl, h1, h2, hw, _⟩ := h.from_
  unfold oBlocks at hb
  have : ¬ (1 ≤ oSize o ∧ oSize o ≤ 256) := by
   intro hh
   unfold kOf at hk
   rw [if_pos hh] at hk
   simp at hk
  rw [if_neg this] at hb
  have hyb : b ≤ y / 512 ∧ y / 512 < b + n := by omega
  rcases inv.used y hy' with ⟨k', hk', b', i', g1, g2, g3, g4, rfl⟩ | ⟨b', n', g1, hw', rfl⟩
  ·rw [Ybi hk' g4] at hyb
   rcases hw.kind hyb.1 hyb.2 with ⟨_, h3⟩ | ⟨_, h3⟩ <;> (rw [g3] at h3; simp at h3)
  ·rw [Nat.mul_div_cancel _ (by omega)] at hyb
   have hne : b' ≠ b := by intro e; subst e; omega
   exact hw.disj hw' hne hyb.1 hyb.2 ⟨by omega, by have := hw'.1; omega⟩
theorem Yvy {s1 : St} {o : Ob} {x y : Nat} (h1 : y ≠ x) (h2 : ¬ (x < y ∧ y < x + (oSize o).toNat)) : (made s1 o x).c[y]? = s1.c[y]? := by
 show ((zerN s1.c x (oSize o).toNat).set x (oenc x o))[y]? = _
 rw [List.getElem?_set, if_neg (Ne.symm h1), Yq2, if_neg (by omega)]
theorem Yjk (c : List Int) (a : Nat) : ∀ y, (zerN c a y).length = c.length
 |0 => rfl
 |1 => rfl
 |y + 2 => by show ((zerN c a (y + 1)).set _ _).length = _; rw [List.length_set]; exact Yjk c a (y + 1)
theorem Pl.made {g : Nat} {s s1 : St} {o : Ob} {x : Nat} (h : Pl g s) (inv : Inv g s.hs s.U s.L) (tie : Tie g s.hs s.F) (hg : g ≤ 255) (hz : oSize o ≠ 0) (hr : RoomR g s o s1 x) : Pl g (made s1 o x) := by
 obtain ⟨inv1, hun, hu⟩ := hr.inv
 obtain ⟨f1, f2⟩ := hr.fits hz
 have hrng := Yem o
 have hchg := hr.chg tie
 have hl := inv.len
 have hc1 : s1.c.length = 512 * g ∧ (∀ y, 512 ≤ y → s1.c[y]? = s.c[y]?) ∧ (∀ b' : Nat, 1 ≤ b' → b' < g → getI s1.c (256 + b') = benc b' (hd s1.hs b')) := by
  have key : ∀ b xs, 1 ≤ b → b + xs.length ≤ g → s1.hs = splice s.hs b xs → s1.c = wrH s.c b xs → s1.c.length = 512 * g ∧ (∀ y, 512 ≤ y → s1.c[y]? = s.c[y]?) ∧ (∀ b' : Nat, 1 ≤ b' → b' < g → getI s1.c (256 + b') = benc b' (hd s1.hs b')) := by
   intro b xs hb hf e1 e2
   rw [e1, e2]
   refine ⟨by rw [Yh9]; exact h.len, fun y hy => by rw [Yhs, if_pos (by omega)], Yzu hl h.len hf h.hdr⟩
  rcases hr with ⟨k, _, _, _, hr⟩ | ⟨n, _, _, _, _, hr⟩
  ·rcases hr.from_ with ⟨h1, _, h2, _⟩ | ⟨b, q, h1, h2, _, _, h3, h4, _, h5, _⟩
   ·rw [h1, h2]; exact ⟨h.len, fun _ _ => rfl, h.hdr⟩
   ·exact key b _ h1 (by simp; omega) h4 h5
  ·obtain ⟨b, q, _, h1, h2, _, h3, h4, _, h5, _, h6⟩ := hr.from_
   exact key b _ h1 (by rw [Ycy]; omega) h5 h6
 obtain ⟨c1, c2, c3⟩ := hc1
 have hlen : (X.made s1 o x).c.length = 512 * g := by
  show ((zerN s1.c x (oSize o).toNat).set x (oenc x o)).length = _
  rw [List.length_set, Yjk]; exact c1
 refine ⟨hlen, fun b' h1 h2 => ?_, fun y hy => ?_, fun b n hb hw => ?_⟩
 ·have e : (256 + (b' : Int)) = ((256 + b' : Nat) : Int) := by omega
  show _ = benc b' (hd s1.hs b')
  rw [← c3 b' h1 h2, e]
  exact Ynq (Yvy (by omega) (by omega))
 ·have hy : uAdd s1.U x y = true := hy
  unfold uAdd at hy
  simp only [Bool.or_eq_true, beq_iff_eq] at hy
  rcases hy with rfl | hy
  ·have hhead : oHead (X.made s1 o y).c (64 * g) y = (o, 0) := by
    refine Vap ?_ hz (by omega)
    rw [Yfs, List.getD_eq_getElem?_getD]
    show (((zerN s1.c y (oSize o).toNat).set y (oenc y o))[y]?).getD 0 = _
    rw [List.getElem?_set, if_pos rfl, if_pos (by rw [Yjk]; omega)]; rfl
   refine ⟨o, ?_⟩
   rcases hr with ⟨k, hk, hko, _, hr⟩ | ⟨n, hko, hb, _, _, hr⟩
   ·exact .small inv1.len hhead hk hko hr.cell
   ·obtain ⟨b, q, rfl, h1, h2, hw, _⟩ := hr.from_
    exact .large inv1.len hhead h1 hko hw hb.symm
  ·rw [hu] at hy
   obtain ⟨o', ho⟩ := h.obj y hy
   obtain ⟨p1, p2, _⟩ := ho.place
   obtain ⟨q1, q2⟩ := hr.apart hz hy
   exact ⟨o', ho.chg hchg (by rw [Yvy q1 q2]; exact c2 y p2)⟩
 ·have hw : WholeP s1.hs b n := hw
  show uAdd s1.U x (b * 512) = true
  unfold uAdd
  rw [hu]
  simp only [Bool.or_eq_true, beq_iff_eq]
  rcases hr with ⟨k, hk, hko, _, hr⟩ | ⟨n', hko, _, hn', _, hr⟩
  ·right
   rcases hr.from_ with ⟨h1, _⟩ | ⟨b0, q, h1, h2, _, _, h3, h4, _⟩
   ·rw [h1] at hw; exact h.large b n hb hw
   ·refine h.large b n hb ?_
    rw [h4] at hw
    refine hw.keep (Yah (by simp; omega)).symm fun i h5 h6 => ?_
    have hne : i ≠ b0 := by
     intro e; subst e
     rcases hw.kind h5 h6 with ⟨_, h7⟩ | ⟨_, h7⟩ <;> (rw [Yx3 (by omega), if_pos rfl] at h7; simp at h7)
    rw [Yx3 (by omega), if_neg hne]
  ·obtain ⟨b0, q, rfl, h1, h2, hw0, h3, h4, _, h5, _⟩ := hr.from_
   by_cases e : b = b0
   ·exact .inl (by rw [e])
   ·right
    refine h.large b n hb ?_
    have hfit : b0 + (runH n').length ≤ s.hs.length := by rw [Ycy]; omega
    refine WholeP.keep (hs := s1.hs) (by rw [h5]; exact (Yah hfit).symm) hw fun i h6 h7 => ?_
    have hd := hw.disj hw0 (Ne.symm e) h6 h7
    rw [h5]
    unfold X.hd
    rw [Ycc hfit, if_neg (by rw [Ycy]; exact hd)]
theorem Pl.freed {g : Nat} {s s' : St} {x : Nat} (h : Pl g s) (inv : Inv g s.hs s.U s.L) (hg : g ≤ 255) (hf : FreeR g s s' x) : Pl g s' := by
 have hl := inv.len
 rcases hf.from_ with ⟨k, hk, hc, e1, e2, e3, _⟩ | ⟨b, n, rfl, hb, hw, e1, e3, _⟩
 ·refine ⟨by rw [e3]; exact h.len, fun b' h1 h2 => by rw [e3, e1]; exact h.hdr b' h1 h2, fun y hy => ?_, fun b n hb hw => ?_⟩
  ·rw [hf.u] at hy
   unfold uDrop at hy
   simp only [Bool.and_eq_true] at hy
   rw [e1, e3]; exact h.obj y hy.2
  ·rw [e1] at hw
   have hu := h.large b n hb hw
   rw [hf.u]
   unfold uDrop
   simp only [Bool.and_eq_true, bne_iff_ne]
   refine ⟨fun e => ?_, hu⟩
   obtain ⟨b', i, _, _, h3, h4, h5⟩ := hc
   have := Ybi (b := b') hk h4
   have : b' = b := by omega
   subst this
   have := hw.2.2.1
   unfold hd at h3
   rw [h3] at this; simp at this
 ·have hfit : b + (List.replicate n ((0, 0, 0) : Hd)).length ≤ s.hs.length := by simp; exact hw.2.1
  have hfit' : b + n ≤ g := by have := hw.2.1; omega
  have hhd : ∀ i, ¬ (b ≤ i ∧ i < b + n) → hd s'.hs i = hd s.hs i := by
   intro i hi
   rw [e1]; unfold hd
   rw [Ycc hfit, List.length_replicate, if_neg hi]
  have hhz : ∀ i, b ≤ i ∧ i < b + n → hd s'.hs i = (0, 0, 0) := by
   intro i hi
   rw [e1]; unfold hd
   rw [Ycc hfit, List.length_replicate, if_pos hi, List.getD_eq_getElem?_getD, List.getElem?_replicate]; split <;> rfl
  have hlen : s'.hs.length = s.hs.length := by rw [e1]; exact Yah hfit
  refine ⟨by rw [e3, Yh9]; exact h.len, by rw [e3, e1]; exact Yzu hl h.len (by simp; omega) h.hdr, fun y hy => ?_, fun b' n' hb' hw' => ?_⟩
  ·rw [hf.u] at hy
   unfold uDrop at hy
   simp only [Bool.and_eq_true, bne_iff_ne] at hy
   obtain ⟨o, ho⟩ := h.obj y hy.2
   obtain ⟨p1, p2, p3, p4⟩ := ho.place
   refine ⟨o, ho.keep hlen (by rw [e3, Yhs, if_pos (by simp; omega)]) (hhd _ fun hi => ?_) fun m hm => hm.keep hlen fun i h1 h2 => hhd i fun hi => ?_⟩
   ·rcases p4 with ⟨k, hk, _, b', i, _, _, h1, h2, rfl⟩ | ⟨b', m, rfl, _, _, hw', _⟩
    ·rw [Ybi hk h2] at hi
     rcases hw.kind hi.1 hi.2 with ⟨_, h3⟩ | ⟨_, h3⟩ <;> (rw [h1] at h3; simp at h3)
    ·rw [Nat.mul_div_cancel _ (by omega)] at hi
     exact hw.disj hw' (fun e => hy.1 (by rw [e])) hi.1 hi.2 ⟨by omega, by have := hw'.1; omega⟩
   ·rcases p4 with ⟨k, hk, _, b', i', _, _, h3, h4, rfl⟩ | ⟨b', m', rfl, _, _, hw', _⟩
    ·rw [Ybi hk h4] at hm
     have := hm.2.2.1
     unfold hd at h3
     rw [h3] at this; simp at this
    ·rw [Nat.mul_div_cancel _ (by omega)] at hm h1 h2
     exact hw.disj hm (fun e => hy.1 (by rw [e])) hi.1 hi.2 ⟨h1, h2⟩
  ·have hk : ∀ i, b' ≤ i → i < b' + n' → ¬ (b ≤ i ∧ i < b + n) := by
    intro i h1 h2 hi
    have := hhz i hi
    rcases hw'.kind h1 h2 with ⟨_, h3⟩ | ⟨_, h3⟩ <;> (rw [this] at h3; simp at h3)
   have hw2 : WholeP s.hs b' n' := hw'.keep hlen.symm fun i h1 h2 => (hhd i (hk i h1 h2)).symm
   rw [hf.u]
   unfold uDrop
   simp only [Bool.and_eq_true, bne_iff_ne]
   refine ⟨fun e => ?_, h.large b' n' hb' hw2⟩
   have : b' = b := by omega
   subst this
   have := hw'.1
   have := hw.1
   exact hk b' (by omega) (by omega) ⟨by omega, by omega⟩
theorem Pl.trimmed {g : Nat} {s : St} {b k : Nat} {F' : RF} (h : Pl g s) (inv : Inv g s.hs s.U s.L) (hg : g ≤ 255) (hk : k < 32) (hb : 1 ≤ b) (hh : hd s.hs b = (1, (k : Int), 0)) (hu : ∀ x, x / 512 = b → s.U x = false) : Pl g (trimS s b k F') := by
 have hl := inv.len
 have hlt : b < s.hs.length := Ve2 (by rw [hh]; simp)
 have hhd := fun i => Yx3 (h := ((0, 0, 0) : Hd)) hlt i
 have hlen : (splice s.hs b [((0, 0, 0) : Hd)]).length = s.hs.length := Yah (by simp; omega)
 refine ⟨by show (wrH s.c b [(0, 0, 0)]).length = _; rw [Yh9]; exact h.len, Yzu hl h.len (by simp; omega) h.hdr, fun y hy => ?_, fun b' n' hb' hw' => ?_⟩
 ·have hy : s.U y = true := hy
  obtain ⟨o, ho⟩ := h.obj y hy
  obtain ⟨p1, p2, p3, p4⟩ := ho.place
  have hne : y / 512 ≠ b := by intro e; rw [hu y e] at hy; cases hy
  refine ⟨o, ho.keep hlen (by show (wrH s.c b [(0, 0, 0)])[y]? = _; rw [Yhs, if_pos (by simp; omega)]) (by show hd (splice s.hs b [(0, 0, 0)]) _ = _; rw [hhd, if_neg hne]) fun m hm => hm.keep hlen fun i h1 h2 => ?_⟩
  show hd (splice s.hs b [(0, 0, 0)]) i = hd s.hs i
  rw [hhd, if_neg]
  intro e; subst e
  rcases hm.kind h1 h2 with ⟨_, h3⟩ | ⟨_, h3⟩ <;> (rw [hh] at h3; simp at h3)
 ·have hw' : WholeP (splice s.hs b [(0, 0, 0)]) b' n' := hw'
  refine h.large b' n' hb' (WholeP.keep (hs := splice s.hs b [(0, 0, 0)]) hlen.symm hw' fun i h1 h2 => ?_)
  rw [hhd, if_neg]
  intro e; subst e
  rcases hw'.kind h1 h2 with ⟨_, h3⟩ | ⟨_, h3⟩ <;> (rw [hhd, if_pos rfl] at h3; simp at h3)
end
section
set_option maxRecDepth 100000
end
section
set_option maxRecDepth 100000
set_option maxHeartbeats 2000000
theorem wdef (n : Int) : IntKind.wrap .i64 n = if n % 18446744073709551616 ≥ 9223372036854775808 then n % 18446744073709551616 - 18446744073709551616 else n % 18446744073709551616 := by
 show (if (true && decide (n % (2 ^ 64 : Int) ≥ (2 ^ 63 : Int))) = true then n % (2 ^ 64 : Int) - (2 ^ 64 : Int) else n % (2 ^ 64 : Int)) = _
 simp only [Bool.true_and, decide_eq_true_eq]
 rfl
/-- what is told: free, small, large blocks; objects, their words; free cells; waste -/
structure Rp where
 f : Int
 s : Int
 l : Int
 o : Int
 u : Int
 c : Int
 w : Int
def Rp.add (r : Rp) (o : Ob) (room : Int) : Rp := { r with o := r.o + 1, u := r.u + oSize o, w := r.w + (room - oSize o) }
def eb (b : Bool) : Value := .bool b
section
variable {B : World} {P R : SL} {t : K}
theorem Vfu {a d g : Nat} {s : St} {x : Int} {k : Bool → K} (hk : T B (R * Al a d g s) (k (has s.U x))) : T B (R * Al a d g s) (Ybp (da a) x k) := by
 refine Yaq (Yi9 _ x k) ?_
 refine Ycu fun m u f => ?_
 unfold da
 (repeat (first | with_reducible refine Yam ?_ | ((with_reducible apply Yaj); (focus rfl); (focus exact hasA); (focus rfl))))
 refine Yaa (X := Bm u (512 * g) s.U) (by exact frmA) ?_
 refine Yc7 ?_
 exact T.perm (by unfold da; ac_rfl) (Yax (m := m) (u := u) (f := f) hk)
theorem Ycd (U : Nat → Bool) (x : Nat) : has U (x : Int) = U x := by unfold has; rw [decide_eq_true (by omega), Bool.true_and, Int.toNat_natCast]
end
end
section
set_option maxHeartbeats 1000000
structure Mk where
 M : Nat → Bool
 S : Nat → Bool
 stk : List Int
 again : Bool
 cur : Int
def MkrQ (mk a lim : Nat) (most : Int) (m : Mk) (q1 q2 q3 : Nat) : SL := Bm q1 lim m.M * Bm q2 lim m.S * Stk q3 most m.stk * pt mk (.cells [.pointer (da a), .pointer (da q1), .pointer (da q2), .pointer (da q3), .bool m.again, .int .i64 m.cur].toArray 187)
def Mkr (mk a lim : Nat) (most : Int) (m : Mk) : SL := ex fun q : Nat × Nat × Nat => MkrQ mk a lim most m q.1 q.2.1 q.2.2
def col (m : Mk) (x : Int) : Int := if has m.S x = true then 2 else if has m.M x = true then 1 else 0
def ShadeR (U : Nat → Bool) (m : Mk) (x : Int) (m' : Mk) : Prop := ∃ n : Nat, x = n ∧ U n = true ∧ m.M n = false ∧ m'.M = uAdd m.M n ∧ m'.S = m.S ∧ m'.cur = m.cur ∧ ((m'.stk = m.stk ++ [x] ∧ m'.again = m.again) ∨ (m'.stk = m.stk ∧ m'.again = true))
def ShdL (U : Nat → Bool) : List Int → Mk → Mk → Prop
 |[], m, m' => m' = m
 |x :: l, m, m' => ∃ m1, (ShadeR U m x m1 ∨ (m1 = m ∧ (has U x = true → has m.M x = true))) ∧ ShdL U l m1 m'
section
variable {B : World} {P R : SL} {t : K}
theorem Yd5 {mk a lim : Nat} {most : Int} {m : Mk} (h : ∀ q1 q2 q3, T B (R * Bm q1 lim m.M * Bm q2 lim m.S * Stk q3 most m.stk * pt mk (.cells [.pointer (da a), .pointer (da q1), .pointer (da q2), .pointer (da q3), .bool m.again, .int .i64 m.cur].toArray 187)) t) : T B (R * Mkr mk a lim most m) t := by
 refine Ywt fun q => T.perm ?_ (h q.1 q.2.1 q.2.2)
 unfold MkrQ; simp only [Yad]
theorem Yce {mk a lim q1 q2 q3 : Nat} {most : Int} {M S : Nat → Bool} {stk : List Int} {again : Bool} {cur : Int} (h : T B (R * Mkr mk a lim most ⟨M, S, stk, again, cur⟩) t) : T B (R * Bm q1 lim M * Bm q2 lim S * Stk q3 most stk * pt mk (.cells [.pointer (da a), .pointer (da q1), .pointer (da q2), .pointer (da q3), .bool again, .int .i64 cur].toArray 187)) t := by
 have h2 := Yjt (B := B) (R := R) (t := t) (X := fun q : Nat × Nat × Nat => MkrQ mk a lim most ⟨M, S, stk, again, cur⟩ q.1 q.2.1 q.2.2) (q1, q2, q3) h
 refine T.perm ?_ h2
 unfold MkrQ; simp only [Yad]
/-- the device of an allocator, and back -/
theorem Vaq {a d g : Nat} {s : St} (h : ∀ la Z, (∀ c' R' t, (HLs (64 * g) s.c la → HLs (64 * g) c' la) → T B (R' * Al a d g { s with c := c' }) t → T B (R' * Z * LDev d (64 * g) c' la) t) → T B (R * Z * LDev d (64 * g) s.c la) t) : T B (R * Al a d g s) t := by
 refine Ycu fun m u f => ?_
 refine Yaa (X := LDx d (64 * g) s.c) (by exact frmA) ?_
 refine Ygq fun la hla => ?_
 refine T.perm (Q := R * (Mg m d g s.hs s.F * Bm u (512 * g) s.U * Fl f s.L * pt a (.cells [.pointer (da m), .pointer (da d), .int .i64 g, .pointer (da u), .pointer (da f)].toArray 47)) * LDev d (64 * g) s.c la) (by simp only [Yad]) ?_
 refine h la _ fun c' R' t hc ht => ?_
 refine Yg6 (hc hla) ?_
 exact T.perm (by simp only [Yad]; ac_rfl) (Yax (m := m) (u := u) (f := f) ht)
theorem Var {a d g : Nat} {s : St} {k : Option Addr → K} (hk : T B (R * Al a d g s) (k (da d))) : T B (R * Al a d g s) (Ybu (da a) k) := by
 refine Yaq (Yht _ k) ?_
 refine Ycu fun m u f => ?_
 have h := Yax (m := m) (u := u) (f := f) hk
 unfold da at *
 (repeat (first | with_reducible refine Yam ?_ | ((with_reducible apply Yaj); (focus rfl); (focus exact hasA); (focus rfl))))
 exact h
theorem Ve3 {a d g : Nat} {s : St} {x : Int} {k : Int × Bool → K} (h0 : (∀ y : Nat, x ≤ y → s.U y = false) → T B (R * Al a d g s) (k (0, false)))
  (h1 : ∀ y : Nat, x ≤ y → s.U y = true → y < 512 * g → (∀ z : Nat, x ≤ z → z < y → s.U z = false) → T B (R * Al a d g s) (k ((y : Int), true))) : T B (R * Al a d g s) (Ybq (da a) x k) := by
 refine Yaq (Yjb _ x k) ?_
 refine Ycu fun m u f => ?_
 unfold da
 (repeat (first | with_reducible refine Yam ?_ | ((with_reducible apply Yaj); (focus rfl); (focus exact hasA); (focus rfl))))
 refine Yaa (X := Bm u (512 * g) s.U) (by exact frmA) ?_
 have close : ∀ t, T B (R * Al a d g s) t → T B (R * LDx d (64 * g) s.c * Mg m d g s.hs s.F * Fl f s.L * pt a (.cells [.pointer (da m), .pointer (da d), .int .i64 g, .pointer (da u), .pointer (da f)].toArray 47) * Bm u (512 * g) s.U) t := fun t ht => T.perm (by ac_rfl) (Yax (m := m) (u := u) (f := f) ht)
 refine Yd4 (fun h => close _ (h0 h)) (fun y p1 p2 p3 p4 => close _ (h1 y p1 p2 p3 p4))
theorem Vhu {a d g : Nat} {s : St} (h : (∀ x, 512 * g ≤ x → s.U x = false) → T B (R * Al a d g s) t) : T B (R * Al a d g s) t := by
 refine Ycu fun m u f => ?_
 refine Yaa (X := Bm u (512 * g) s.U) (by exact frmA) ?_
 refine Vgu fun _ ho => ?_
 exact T.perm (by ac_rfl) (Yax (m := m) (u := u) (f := f) (h ho))
theorem Yvz {mk a lim : Nat} {most x : Int} {m : Mk} {k : Int → K} (hk : T B (R * Mkr mk a lim most m) (k (col m x))) : T B (R * Mkr mk a lim most m) (Ybk (da mk) x k) := by
 refine Yaq (Yln _ x k) ?_
 refine Yd5 fun q1 q2 q3 => ?_
 have hk := Yce (q1 := q1) (q2 := q2) (q3 := q3) hk
 unfold da col at *
 (repeat (first | with_reducible refine Yam ?_ | ((with_reducible apply Yaj); (focus rfl); (focus exact hasA); (focus rfl))))
 refine Yaa (X := Bm q2 lim m.S) (by exact frmA) ?_
 refine Yc7 ?_
 refine Vb2 (fun h => ?_) (fun h => ?_)
 ·rw [if_pos h] at hk
  exact T.perm (by ac_rfl) hk
 ·rw [if_neg (by rw [h]; simp)] at hk
  (repeat (first | with_reducible refine Yam ?_ | ((with_reducible apply Yaj); (focus rfl); (focus exact hasA); (focus rfl))))
  refine Yaa (X := Bm q1 lim m.M) (by exact frmA) ?_
  refine Yc7 ?_
  refine Vb2 (fun h => ?_) (fun h => ?_)
  ·rw [if_pos h] at hk
   exact T.perm (by ac_rfl) hk
  ·rw [if_neg (by rw [h]; simp)] at hk
   exact T.perm (by ac_rfl) hk
theorem Vc8 {mk a lim : Nat} {most : Int} {x : Nat} {m : Mk} (hx : x < lim) {k : Unit → K} (hk : T B (R * Mkr mk a lim most { m with M := uAdd m.M x, S := uAdd m.S x }) (k ())) : T B (R * Mkr mk a lim most m) (Ydu (da mk) x k) := by
 refine Yaq (Yj4 _ x k) ?_
 refine Yd5 fun q1 q2 q3 => ?_
 have hk := Yce (q1 := q1) (q2 := q2) (q3 := q3) hk
 have same : ∀ U : Nat → Bool, ¬ ((0 : Int) ≤ x ∧ (x : Int) < lim ∧ U (x : Int).toNat = false) → uAdd U x = U := by
  intro U h
  have hu : U x = true := by
   cases hc : U x with
   |true => rfl
   |false => exact absurd ⟨by omega, by omega, by rw [Int.toNat_natCast]; exact hc⟩ h
  funext y
  unfold uAdd
  by_cases e : y = x
  ·subst e; simp [hu]
  ·simp [e]
 unfold da at *
 (repeat (first | with_reducible refine Yam ?_ | ((with_reducible apply Yaj); (focus rfl); (focus exact hasA); (focus rfl))))
 refine Yaa (X := Bm q1 lim m.M) (by exact frmA) ?_
 have two : T B (R * Bm q2 lim m.S * Stk q3 most m.stk * pt mk (.cells [.pointer (some ⟨a, 0, none⟩), .pointer (some ⟨q1, 0, none⟩), .pointer (some ⟨q2, 0, none⟩), .pointer (some ⟨q3, 0, none⟩), .bool m.again, .int .i64 m.cur].toArray 187) * Bm q1 lim (uAdd m.M x)) (Zfi0 (some ⟨mk, 0, none⟩) x k) := by
  (repeat (first | with_reducible refine Yam ?_ | ((with_reducible apply Yaj); (focus rfl); (focus exact hasA); (focus rfl))))
  refine Yaa (X := Bm q2 lim m.S) (by exact frmA) ?_
  refine Yf0 (fun h => ?_) (fun _ _ _ => ?_)
  ·rw [← same _ h]
   exact T.perm (by ac_rfl) hk
  ·rw [Int.toNat_natCast]
   exact T.perm (by ac_rfl) hk
 refine Yf0 (fun h => ?_) (fun _ _ _ => ?_)
 ·rw [← same _ h]; exact two
 ·rw [Int.toNat_natCast]; exact two
end
end
section
set_option maxHeartbeats 2000000
theorem Yui {U : Nat → Bool} {x : Nat} (h : has U (x : Int) = false) : uDrop U x = U := by
 rw [Ycd] at h
 funext y
 unfold uDrop
 by_cases e : y = x
 ·subst e; simp [h]
 ·simp [e]
theorem Yx5 (c : List Int) (n : Nat) (a : Int) : (PtrsL c n a).length ≤ 63 := by
 unfold PtrsL
 split
 ·rename_i h
  obtain ⟨_, _, _, h4⟩ := Yfr h
  unfold oRight at h4
  rw [List.length_map, List.length_range]; omega
 ·simp
section
variable {B : World} {P R : SL} {t : K}
theorem Ve4 {mk a lim : Nat} {most : Int} {x : Nat} {m : Mk} {k : Unit → K} (hk : T B (R * Mkr mk a lim most { m with M := uDrop m.M x, S := uDrop m.S x }) (k ())) : T B (R * Mkr mk a lim most m) (Yea (da mk) x k) := by
 refine Yaq (Ylm _ x k) ?_
 refine Yd5 fun q1 q2 q3 => ?_
 have hk := Yce (q1 := q1) (q2 := q2) (q3 := q3) hk
 unfold da at *
 (repeat (first | with_reducible refine Yam ?_ | ((with_reducible apply Yaj); (focus rfl); (focus exact hasA); (focus rfl))))
 refine Yaa (X := Bm q1 lim m.M) (by exact frmA) ?_
 have two : T B (R * Bm q2 lim m.S * Stk q3 most m.stk * pt mk (.cells [.pointer (some ⟨a, 0, none⟩), .pointer (some ⟨q1, 0, none⟩), .pointer (some ⟨q2, 0, none⟩), .pointer (some ⟨q3, 0, none⟩), .bool m.again, .int .i64 m.cur].toArray 187) * Bm q1 lim (uDrop m.M x)) (Zfe0 (some ⟨mk, 0, none⟩) x k) := by
  (repeat (first | with_reducible refine Yam ?_ | ((with_reducible apply Yaj); (focus rfl); (focus exact hasA); (focus rfl))))
  refine Yaa (X := Bm q2 lim m.S) (by exact frmA) ?_
  refine Ygp (fun h => ?_) (fun _ _ => ?_)
  ·rw [← Yui h]
   exact T.perm (by ac_rfl) hk
  ·rw [Int.toNat_natCast]
   exact T.perm (by ac_rfl) hk
 refine Ygp (fun h => ?_) (fun _ _ => ?_)
 ·rw [← Yui h]; exact two
 ·rw [Int.toNat_natCast]; exact two
theorem Vc9 {mk a lim : Nat} {most : Int} {m : Mk} {k : Unit → K} (hk : T B (R * Mkr mk a lim most ⟨fun _ => false, fun _ => false, [], false, lim⟩) (k ())) : T B (R * Mkr mk a lim most m) (Yeu (da mk) k) := by
 refine Yaq (Yl8 _ k) ?_
 refine Yd5 fun q1 q2 q3 => ?_
 have hk := Yce (q1 := q1) (q2 := q2) (q3 := q3) hk
 unfold da at *
 (repeat (first | with_reducible refine Yam ?_ | ((with_reducible apply Yaj); (focus rfl); (focus exact hasA); (focus rfl))))
 refine Yaa (X := Bm q1 lim m.M) (by exact frmA) ?_
 refine Yml ?_
 (repeat (first | with_reducible refine Yam ?_ | ((with_reducible apply Yaj); (focus rfl); (focus exact hasA); (focus rfl))))
 refine Yaa (X := Bm q2 lim m.S) (by exact frmA) ?_
 refine Yml ?_
 (repeat (first | with_reducible refine Yam ?_ | ((with_reducible apply Yaj); (focus rfl); (focus exact hasA); (focus rfl))))
 refine Yaa (X := Stk q3 most m.stk) (by exact frmA) ?_
 refine Yvv ?_
 (repeat (first | with_reducible refine Yam ?_ | ((with_reducible apply Yaj); (focus rfl); (focus exact hasA); (focus rfl))))
 refine Yaa (X := Bm q1 lim _) (by exact frmA) ?_
 refine Ytm ?_
 (repeat (first | with_reducible refine Yam ?_ | ((with_reducible apply Ybc); (focus rfl); (focus exact updA); (focus simp); simp only [List.set, Nat.zero_add, Nat.reduceAdd])))
 exact T.perm (by ac_rfl) hk
theorem Vgw {a d g : Nat} {s : St} {most : Int} (hg : g ≤ 2 ^ 20) (hm : most ≤ 2 ^ 30) {k : Option Addr → K} (hk : ∀ mk, T B (R * Al a d g s * Mkr mk a (512 * g) (max2I most 0) ⟨fun _ => false, fun _ => false, [], false, (512 * g : Nat)⟩) (k (da mk))) : T B (R * Al a d g s) (Yo7 (da a) most k) := by
 refine Yaq (Yzp _ most k) ?_
 rw [Van, Zfg2]
 refine Var ?_
 refine Vaq fun la Z close => ?_
 refine Yn9 fun _ _ => ?_
 refine close s.c _ _ (fun h => h) ?_
 rw [Zfg1, show 8 * (64 * g) = 512 * g by omega]
 refine Yla (by omega) fun q1 => ?_
 refine Yla (by omega) fun q2 => ?_
 refine Yzq hm fun q3 => ?_
 (repeat ((with_reducible refine Ya7 ?_; intro _)))
 rename_i b
 have := Yce (q1 := q1) (q2 := q2) (q3 := q3) (hk b)
 exact this
theorem Yzv {mk a d g : Nat} {s : St} {most x : Int} {m : Mk} {k : Bool → K} (h1 : ∀ m', ShadeR s.U m x m' → T B (R * Al a d g s * Mkr mk a (512 * g) most m') (k true))
  (h0 : (has s.U x = true → has m.M x = true) → T B (R * Al a d g s * Mkr mk a (512 * g) most m) (k false)) : T B (R * Al a d g s * Mkr mk a (512 * g) most m) (Yb9 (da mk) x k) := by
 refine Yaq (Yl9 _ x k) ?_
 refine Yaa (X := Al a d g s) (by exact frmA) ?_
 refine Vhu fun hoff => ?_
 refine Yaa (X := Mkr mk a (512 * g) most m) (by exact frmA) ?_
 refine Yd5 fun q1 q2 q3 => ?_
 have h0 := fun h => Yce (q1 := q1) (q2 := q2) (q3 := q3) (h0 h)
 unfold da at *
 (repeat (first | with_reducible refine Yam ?_ | ((with_reducible apply Yaj); (focus rfl); (focus exact hasA); (focus rfl))))
 refine Yaa (X := Al a d g s) (by exact frmA) ?_
 refine Vfu ?_
 refine Vb2 (fun h => ?_) (fun h => ?_)
 ·have hu : has s.U x = false := by simpa using h
  refine Yal ?_
  exact T.perm (by ac_rfl) (h0 (fun hc => by rw [hu] at hc; cases hc))
 ·have hu : has s.U x = true := by simpa using h
  obtain ⟨n, rfl⟩ : ∃ n : Nat, x = n := by
   refine Int.eq_ofNat_of_zero_le ?_
   unfold has at hu
   simp only [Bool.and_eq_true, decide_eq_true_eq] at hu
   exact hu.1
  rw [Ycd] at hu
  have hlt : n < 512 * g := by
   by_cases hc : n < 512 * g
   ·exact hc
   ·rw [hoff n (by omega)] at hu; cases hu
  (repeat (first | with_reducible refine Yam ?_ | ((with_reducible apply Yaj); (focus rfl); (focus exact hasA); (focus rfl))))
  refine Yaa (X := Bm q1 (512 * g) m.M) (by exact frmA) ?_
  refine Yf0 (fun hn => ?_) (fun _ _ hn => ?_)
  ·refine Yal ?_
   refine T.perm (by ac_rfl) (h0 fun _ => ?_)
   rw [Ycd]
   cases hc : m.M n with
   |true => rfl
   |false => exact absurd ⟨by omega, by omega, by rw [Int.toNat_natCast]; exact hc⟩ hn
  ·rw [Int.toNat_natCast] at hn ⊢
   refine Yfh ?_
   refine Yal ?_
   (repeat (first | with_reducible refine Yam ?_ | ((with_reducible apply Yaj); (focus rfl); (focus exact hasA); (focus rfl))))
   have hM : m.M n = false := hn
   have hp : ∀ stk ag, ((stk = m.stk ++ [(n : Int)] ∧ ag = m.again) ∨ (stk = m.stk ∧ ag = true)) → _ := fun stk ag h => Yce (q1 := q1) (q2 := q2) (q3 := q3) (h1 ⟨uAdd m.M n, m.S, stk, ag, m.cur⟩ ⟨n, rfl, hu, hM, rfl, rfl, rfl, h⟩)
   unfold da at hp
   refine Yaa (X := Stk q3 most m.stk) (by exact frmA) ?_
   refine Yx1 (fun _ => ?_) ?_
   ·refine Yfh ?_
    refine Yal ?_
    exact T.perm (by ac_rfl) (hp _ _ (.inl ⟨rfl, rfl⟩))
   ·refine Yfh ?_
    refine Yau ?_
    (repeat (first | with_reducible refine Yam ?_ | ((with_reducible apply Ybc); (focus rfl); (focus exact updA); (focus simp); simp only [List.set, Nat.zero_add, Nat.reduceAdd])))
    exact T.perm (by ac_rfl) (hp _ _ (.inr ⟨rfl, rfl⟩))
theorem Vfv {mk a d g : Nat} {s : St} {most : Int} {x : Nat} {m : Mk} (hg : g ≤ 2 ^ 20) (hx : x < 512 * g) (hS : m.S x = false) {k : Unit → K}
  (hk : ∀ m', ShdL s.U (PtrsL s.c (64 * g) x) { m with S := uAdd m.S x } m' → T B (R * Al a d g s * Mkr mk a (512 * g) most m') (k ())) : T B (R * Al a d g s * Mkr mk a (512 * g) most m) (Ydr (da mk) x k) := by
 refine Yaq (Ynn _ x k) ?_
 refine Yd5 fun q1 q2 q3 => ?_
 unfold da
 (repeat (first | with_reducible refine Yam ?_ | ((with_reducible apply Yaj); (focus rfl); (focus exact hasA); (focus rfl))))
 refine Yaa (X := Bm q2 (512 * g) m.S) (by exact frmA) ?_
 have two : T B (R * Al a d g s * Mkr mk a (512 * g) most { m with S := uAdd m.S x }) (Zfm6 (some ⟨mk, 0, none⟩) x k) := by
  refine Yd5 fun q1 q2 q3 => ?_
  unfold da
  (repeat (first | with_reducible refine Yam ?_ | ((with_reducible apply Yaj); (focus rfl); (focus exact hasA); (focus rfl))))
  refine Yaa (X := Al a d g s) (by exact frmA) ?_
  refine Var ?_
  refine Vaq fun la Z close => ?_
  refine Yvw (by omega) fun sl e => ?_
  refine Yaa (X := LDev d (64 * g) s.c la) (by exact frmA) ?_
  refine T.perm (Q := R * Bm q1 (512 * g) m.M * Bm q2 (512 * g) (uAdd m.S x) * Stk q3 most m.stk * pt mk (.cells [.pointer (some ⟨a, 0, none⟩), .pointer (some ⟨q1, 0, none⟩), .pointer (some ⟨q2, 0, none⟩), .pointer (some ⟨q3, 0, none⟩), .bool m.again, .int .i64 m.cur].toArray 187) * vec 3 1 sl (ints (PtrsL s.c (64 * g) x)) * Z * LDev d (64 * g) s.c la) (by ac_rfl) ?_
  refine close s.c _ _ (fun h => h) ?_
  have fin : T B (R * vec 3 1 sl (ints (PtrsL s.c (64 * g) x)) * Al a d g s * Mkr mk a (512 * g) most { m with S := uAdd m.S x }) (Zfm5 (some ⟨mk, 0, none⟩) k sl) := by
   have hl := Yx5 s.c (64 * g) x
   generalize PtrsL s.c (64 * g) x = l at *
   refine Yc0 (.init (.init .last)) fun hn => ?_
   rw [Yag, Nat.mul_one] at hn
   rw [Zfm5, Zfm4]
   refine Yl2 (fun _ (z : Int × Unit) => ex fun m1 : Mk => R * vec 3 1 sl (ints l) * Al a d g s * Mkr mk a (512 * g) most m1 * pu (∀ m', ShdL s.U (l.drop z.1.toNat) m1 m' → ShdL s.U l { m with S := uAdd m.S x } m')) (fun n (z : Int × Unit) => ∃ i : Nat, z.1 = i ∧ i ≤ l.length ∧ n = l.length - i) l.length (fun t ht => ?_) ⟨0, rfl, by omega, rfl⟩ ?_
   ·intro w hw
    exact ht w (Yds { m with S := uAdd m.S x } (Sat.puI (fun m' h => h) hw))
   rintro n ⟨z, uu⟩ c ⟨i, e1, e2, e3⟩ hc
   simp only at e1
   subst e1 e3
   simp only [Int.toNat_natCast]
   refine Ysw fun m1 hm1 => ?_
   rw [Zfm3, Zfm2, hn]
   refine Yai (fun hlt => ?_) (fun hge => ?_)
   ·have hi : i < l.length := by omega
    have nx : ∀ m2, (ShadeR s.U m1 l[i] m2 ∨ (m2 = m1 ∧ (has s.U l[i] = true → has m1.M l[i] = true))) → T B (R * vec 3 1 sl (ints l) * Al a d g s * Mkr mk a (512 * g) most m2) (c (IntKind.wrap .i64 ((i : Int) + 1), ())) := by
     intro m2 h2 w hw
     have e : (IntKind.wrap .i64 ((i : Int) + 1)).toNat = i + 1 := by rw [w64 (by omega) (by omega)]; omega
     refine hc (l.length - (i + 1)) (IntKind.wrap .i64 ((i : Int) + 1), ()) (by omega) ⟨i + 1, w64 (by omega) (by omega), by omega, rfl⟩ w (Yds m2 (Sat.puI (fun m' h => hm1 m' ?_) hw))
     simp only [e] at h
     rw [List.drop_eq_getElem_cons hi]
     exact ⟨m2, h2, h⟩
    rw [Zfm1]
    refine Yej (Rd.vec (.init (.init .last))) (by omega) (n := l[i]) (by rw [Int.toNat_natCast]; exact Ydn hi) ?_
    rw [Zfm0]
    refine Yzv (fun m' h => nx m' (.inl h)) (fun h => nx m1 (.inr ⟨rfl, h⟩))
   ·have : i = l.length := by omega
    subst this
    refine Yac (.init (.init .last)) ?_
    refine hk m1 (hm1 m1 ?_)
    rw [List.drop_length]
    rfl
  have h5 := Yce (q1 := q1) (q2 := q2) (q3 := q3) fin
  unfold da at h5
  exact T.perm (by ac_rfl) h5
 refine Yf0 (fun hn => ?_) (fun _ _ _ => ?_)
 ·exact absurd ⟨by omega, by omega, by rw [Int.toNat_natCast]; exact hS⟩ hn
 ·rw [Int.toNat_natCast]
  have := Yce (q1 := q1) (q2 := q2) (q3 := q3) two
  unfold da at this
  exact T.perm (by ac_rfl) this
end
end
section
set_option maxHeartbeats 2000000
def gry (m : Mk) (y : Nat) : Bool := m.M y && !m.S y
section
variable {B : World} {P R : SL} {t : K}
theorem Vhv {mk a lim : Nat} {most : Int} {m : Mk} (hl : lim ≤ 2 ^ 40) {k : Int × Bool → K} (h0 : (∀ y : Nat, m.cur ≤ y → gry m y = false) → T B (R * Mkr mk a lim most m) (k (0, false)))
  (h1 : ∀ y : Nat, m.cur ≤ y → gry m y = true → y < lim → (∀ z : Nat, m.cur ≤ z → z < y → gry m z = false) → T B (R * Mkr mk a lim most m) (k ((y : Int), true))) : T B (R * Mkr mk a lim most m) (Ye4 (da mk) k) := by
 refine Yaq (Yno _ k) ?_
 have hb : ∀ (x : Int) (c : Int × Bool → K), ((∀ y : Nat, x ≤ y → m.M y = false) → T B (R * Mkr mk a lim most m) (c (0, false))) → (∀ y : Nat, x ≤ y → m.M y = true → y < lim → (∀ z : Nat, x ≤ z → z < y → m.M z = false) → T B (R * Mkr mk a lim most m) (c ((y : Int), true))) →
   T B (R * Mkr mk a lim most m) (nn (da mk) fun x21 => ldP (Addr.add x21 1) fun x23 => Yap x23 x c) := by
  intro x c g0 g1
  refine Yd5 fun q1 q2 q3 => ?_
  have close : ∀ t, T B (R * Mkr mk a lim most m) t → _ := fun t ht => Yce (q1 := q1) (q2 := q2) (q3 := q3) ht
  unfold da at *
  (repeat (first | with_reducible refine Yam ?_ | ((with_reducible apply Yaj); (focus rfl); (focus exact hasA); (focus rfl))))
  refine Yaa (X := Bm q1 lim m.M) (by exact frmA) ?_
  refine Yd4 (fun h => ?_) (fun y p1 p2 p3 p4 => ?_)
  ·exact T.perm (by ac_rfl) (close _ (g0 h))
  ·exact T.perm (by ac_rfl) (close _ (g1 y p1 p2 p3 p4))
 have hs : ∀ (x : Int) (c : Bool → K), T B (R * Mkr mk a lim most m) (c (has m.S x)) → T B (R * Mkr mk a lim most m) (nn (da mk) fun x30 => ldP (Addr.add x30 2) fun x32 => Yaw x32 x c) := by
  intro x c g0
  refine Yd5 fun q1 q2 q3 => ?_
  have close := Yce (q1 := q1) (q2 := q2) (q3 := q3) g0
  unfold da at *
  (repeat (first | with_reducible refine Yam ?_ | ((with_reducible apply Yaj); (focus rfl); (focus exact hasA); (focus rfl))))
  refine Yaa (X := Bm q2 lim m.S) (by exact frmA) ?_
  refine Yc7 ?_
  exact T.perm (by ac_rfl) close
 have loop : ∀ (x : Int) (ok : Bool), ((ok = false ∧ ∀ z : Nat, m.cur ≤ z → gry m z = false) ∨ (ok = true ∧ ∃ y : Nat, x = y ∧ m.cur ≤ y ∧ m.M y = true ∧ y < lim ∧ ∀ z : Nat, m.cur ≤ z → z < y → gry m z = false)) → T B (R * Mkr mk a lim most m) (Zfn7 (da mk) k x ok) := by
  intro x ok hx
  rw [Zfn7]
  refine Ycz (fun _ _ => R * Mkr mk a lim most m) (fun n (s : Int × Bool × Unit) => (s.2.1 = false ∧ ∀ z : Nat, m.cur ≤ z → gry m z = false) ∨ (s.2.1 = true ∧ ∃ y : Nat, s.1 = y ∧ n = lim - y ∧ m.cur ≤ y ∧ m.M y = true ∧ y < lim ∧ ∀ z : Nat, m.cur ≤ z → z < y → gry m z = false)) (lim - x.toNat) rfl ?_ ?_
  ·rcases hx with h | ⟨h, y, e, h2⟩
   ·exact .inl h
   ·exact .inr ⟨h, y, e, by rw [e, Int.toNat_natCast], h2⟩
  rintro n ⟨z, ok, uu⟩ c hφ hc
  simp only at hφ
  rw [Zfn6, Zfn5]
  rcases hφ with ⟨rfl, hz⟩ | ⟨rfl, y, e1, e2, p1, p2, p3, p4⟩
  ·refine Yau ?_
   exact h0 hz
  ·subst e1 e2
   refine Yal ?_
   rw [Zfn4]
   refine hs _ _ ?_
   rw [Zfn3, Ycd]
   refine Yfh ?_
   refine Vb2 (fun hS => ?_) (fun hS => ?_)
   ·rw [Zfn1, w64 (by omega) (by omega)]
    have hgy : gry m y = false := by unfold gry; rw [hS]; simp
    refine hb _ _ (fun hn => ?_) (fun y2 r1 r2 r3 r4 => ?_)
    ·refine hc 0 (0, false, ()) (by omega) (.inl ⟨rfl, fun z hz => ?_⟩)
     by_cases h1 : z < y
     ·exact p4 z hz h1
     ·by_cases h2 : z = y
      ·subst h2; exact hgy
      ·unfold gry; rw [hn z (by omega)]; rfl
    ·refine hc (lim - y2) ((y2 : Int), true, ()) (by omega) (.inr ⟨rfl, y2, rfl, rfl, by omega, r2, r3, fun z hz hz2 => ?_⟩)
     by_cases h1 : z < y
     ·exact p4 z hz h1
     ·by_cases h2 : z = y
      ·subst h2; exact hgy
      ·unfold gry; rw [r4 z (by omega) hz2]; rfl
   ·exact h1 y p1 (by unfold gry; rw [p2, hS]; rfl) p3 p4
 rw [Yjr, Zfn8]
 refine Yak ?_
 refine Yd5 fun q1 q2 q3 => ?_
 unfold da
 (repeat (first | with_reducible refine Yam ?_ | ((with_reducible apply Yaf); (focus rfl); (focus exact hasA); (focus rfl)) | ((with_reducible apply Yaj); (focus rfl); (focus exact hasA); (focus rfl))))
 refine Yaa (X := Bm q1 lim m.M) (by exact frmA) ?_
 have close : ∀ t, T B (R * Mkr mk a lim most m) t → T B (R * Bm q2 lim m.S * Stk q3 most m.stk * pt mk (.cells [.pointer (some ⟨a, 0, none⟩), .pointer (some ⟨q1, 0, none⟩), .pointer (some ⟨q2, 0, none⟩), .pointer (some ⟨q3, 0, none⟩), .bool m.again, .int .i64 m.cur].toArray 187) * Bm q1 lim m.M) t := by
  intro t ht
  have := Yce (q1 := q1) (q2 := q2) (q3 := q3) ht
  unfold da at this
  exact T.perm (by ac_rfl) this
 refine Yd4 (fun h => ?_) (fun y p1 p2 p3 p4 => ?_)
 ·exact close _ (loop _ _ (.inl ⟨rfl, fun z hz => by unfold gry; rw [h z hz]; rfl⟩))
 ·exact close _ (loop _ _ (.inr ⟨rfl, y, rfl, p1, p2, p3, fun z hz hz2 => by unfold gry; rw [p4 z hz hz2]; rfl⟩))
/-- a marker's step: what it does -/
theorem Ve5 {mk a d g : Nat} {s : St} {most : Int} {m : Mk} (hg : g ≤ 2 ^ 20) (hlim : ∀ y, m.M y = true → y < 512 * g) {k : Bool → K}
  (hA : ∀ (x : Nat) stk' junk m', gry m x = true → m.stk = stk' ++ (x : Int) :: junk → (∀ y ∈ junk, ∀ z : Nat, y = z → gry m z = false) → ShdL s.U (PtrsL s.c (64 * g) x) { m with stk := stk', S := uAdd m.S x } m' → T B (R * Al a d g s * Mkr mk a (512 * g) most m') (k true))
  (hG : ∀ (x : Nat) m', gry m x = true → m.cur ≤ x → (∀ y ∈ m.stk, ∀ z : Nat, y = z → gry m z = false) → (∀ z : Nat, m.cur ≤ z → z < x → gry m z = false) → ShdL s.U (PtrsL s.c (64 * g) x) { m with stk := [], cur := (x : Int) + 1, S := uAdd m.S x } m' → T B (R * Al a d g s * Mkr mk a (512 * g) most m') (k true))
  (hR : m.again = true → (∀ y ∈ m.stk, ∀ z : Nat, y = z → gry m z = false) → (∀ z : Nat, m.cur ≤ z → gry m z = false) → T B (R * Al a d g s * Mkr mk a (512 * g) most { m with stk := [], again := false, cur := 0 }) (k true))
  (hN : m.again = false → (∀ y ∈ m.stk, ∀ z : Nat, y = z → gry m z = false) → (∀ z : Nat, m.cur ≤ z → gry m z = false) → T B (R * Al a d g s * Mkr mk a (512 * g) most { m with stk := [] }) (k false)) :
  T B (R * Al a d g s * Mkr mk a (512 * g) most m) (Ye2 (da mk) k) := by
 refine Yaq (Ynj _ k) ?_
 rw [Yjq]
 refine Yl2 (fun n _ => ex fun st : List Int => R * Al a d g s * Mkr mk a (512 * g) most { m with stk := st } * pu (st.length = n ∧ ∃ junk, m.stk = st ++ junk ∧ ∀ y ∈ junk, ∀ z : Nat, y = z → gry m z = false)) (fun n (z : Unit) => True) m.stk.length (fun t ht => ?_) trivial ?_
 ·intro w hw
  exact ht w (Yds m.stk (Sat.puI ⟨rfl, [], by simp, by simp⟩ hw))
 rintro n u c _ hc
 refine Ysw fun st hst => ?_
 obtain ⟨hln, junk, hj1, hj2⟩ := hst
 rw [Zfb17]
 have hpop : ∀ (c : Int × Bool → K), (st = [] → T B (R * Al a d g s * Mkr mk a (512 * g) most { m with stk := [] }) (c (0, false))) → (∀ l' x, st = l' ++ [x] → T B (R * Al a d g s * Mkr mk a (512 * g) most { m with stk := l' }) (c (x, true))) →
   T B (R * Al a d g s * Mkr mk a (512 * g) most { m with stk := st }) (nn (da mk) fun x9 => ldP (Addr.add x9 3) fun x11 => Ycp x11 c) := by
  intro c g0 g1
  refine Yd5 fun q1 q2 q3 => ?_
  have close : ∀ st' t, T B (R * Al a d g s * Mkr mk a (512 * g) most { m with stk := st' }) t → _ := fun st' t ht => Yce (q1 := q1) (q2 := q2) (q3 := q3) ht
  unfold da at *
  (repeat (first | with_reducible refine Yam ?_ | ((with_reducible apply Yaj); (focus rfl); (focus exact hasA); (focus rfl))))
  refine Yaa (X := Stk q3 most st) (by exact frmA) ?_
  refine Yzr (fun h => ?_) (fun l' x h => ?_)
  ·exact T.perm (by ac_rfl) (close _ _ (g0 h))
  ·exact T.perm (by ac_rfl) (close _ _ (g1 l' x h))
 refine hpop _ (fun h => ?_) (fun st' x h => ?_)
 ·subst h
  have hall : ∀ y ∈ m.stk, ∀ z : Nat, y = z → gry m z = false := by
   rw [hj1, List.nil_append]; exact hj2
  rw [Zfb16]
  refine Yfh ?_
  refine Yau ?_
  rw [Zfb10]
  refine Vhv (m := { m with stk := [] }) (by omega) (fun hz => ?_) (fun y p1 p2 p3 p4 => ?_)
  ·rw [Zfb9, Zfb8]
   refine Yau ?_
   rw [Zfb4]
   -- is all to be looked through anew?
   refine Yd5 fun q1 q2 q3 => ?_
   have close : ∀ ag cu t, T B (R * Al a d g s * Mkr mk a (512 * g) most { m with stk := [], again := ag, cur := cu }) t → _ := fun ag cu t ht => Yce (q1 := q1) (q2 := q2) (q3 := q3) ht
   unfold da at *
   (repeat (first | with_reducible refine Yam ?_ | ((with_reducible apply Ynv); (focus rfl); (focus exact hasA); (focus rfl))))
   rw [Zfb3]
   refine Vb2 (fun ha => ?_) (fun ha => ?_)
   ·(repeat (first | with_reducible refine Yam ?_ | ((with_reducible apply Ybc); (focus rfl); (focus exact updA); (focus simp); simp only [List.set, Nat.zero_add, Nat.reduceAdd])))
    exact close _ _ _ (hR ha hall hz)
   ·have := close m.again m.cur _ (hN ha hall hz)
    exact this
  ·rw [Zfb9, Zfb8]
   refine Yal ?_
   rw [Zfb7]
   have hy : y < 512 * g := p3
   have hgy : gry m y = true := p2
   have hSy : m.S y = false := by
    unfold gry at hgy
    simp only [Bool.and_eq_true, Bool.not_eq_true'] at hgy
    exact hgy.2
   have go : T B (R * Al a d g s * Mkr mk a (512 * g) most { m with stk := [], cur := (y : Int) + 1 }) (Zfb6 (da mk) k y) := by
    rw [Zfb6]
    refine Vfv (m := { m with stk := [], cur := (y : Int) + 1 }) hg hy hSy fun m' hm' => ?_
    exact hG y m' hgy p1 hall p4 hm'
   refine Yd5 fun q1 q2 q3 => ?_
   have close := Yce (q1 := q1) (q2 := q2) (q3 := q3) go
   unfold da at *
   (repeat (first | with_reducible refine Yam ?_ | ((with_reducible apply Ybc); (focus rfl); (focus exact updA); (focus simp); simp only [List.set, Nat.zero_add, Nat.reduceAdd])))
   rw [w64 (by omega) (by omega)]
   exact close
 ·rw [Zfb16]
  refine Yfh ?_
  refine Yal ?_
  rw [Zfb14]
  refine Yvz (m := { m with stk := st' }) ?_
  rw [Zfb13]
  have again : ∀ z : Nat → False ∨ True, (∀ z : Nat, x = z → gry m z = false) → T B (R * Al a d g s * Mkr mk a (512 * g) most { m with stk := st' }) (c ()) := by
   intro _ hx w hw
   refine hc st'.length () (by rw [← hln, h]; simp) trivial w (Yds st' (Sat.puI ⟨rfl, x :: junk, by rw [hj1, h]; simp, ?_⟩ hw))
   intro y hy z hz
   rcases List.mem_cons.1 hy with rfl | hy
   ·exact hx z hz
   ·exact hj2 y hy z hz
  have again := again fun _ => .inr trivial
  refine Ybr (fun hcol => ?_) (fun hcol => ?_)
  ·rw [Zfb12]
   unfold col at hcol
   split at hcol
   ·omega
   ·rename_i hS
    split at hcol
    ·rename_i hM
     obtain ⟨n, rfl⟩ : ∃ n : Nat, x = n := by
      refine Int.eq_ofNat_of_zero_le ?_
      unfold has at hM
      simp only [Bool.and_eq_true, decide_eq_true_eq] at hM
      exact hM.1
     rw [Ycd] at hM hS
     have hS : m.S n = false := by simpa using hS
     have hM : m.M n = true := hM
     refine Vfv (m := { m with stk := st' }) hg (hlim n hM) hS fun m' hm' => ?_
     exact hA n st' junk m' (by unfold gry; rw [hM, hS]; rfl) (by rw [hj1, h]; simp) hj2 hm'
    ·omega
  ·refine again fun z hz => ?_
   subst hz
   unfold col at hcol
   rw [Ycd, Ycd] at hcol
   unfold gry
   cases h1 : m.M z with
   |false => rfl
   |true =>
    cases h2 : m.S z with
    |true => rfl
    |false =>
     exfalso
     apply hcol
     have h1 : ({ m with stk := st' } : Mk).M z = true := h1
     have h2 : ({ m with stk := st' } : Mk).S z = false := h2
     rw [if_neg (by rw [h2]; simp), if_pos h1]
end
end
section
set_option maxRecDepth 100000
abbrev Zfr0 (k : (Sl → K)) (x4 : Sl) : K :=
 k x4
abbrev Zfr1 (k : (Sl → K)) (out_1 : Sl) : K :=
 Zfr0 k out_1
abbrev Zfr2 (i_1 : Int) (c : ((Sl × Int × Unit) → K)) (out_3 : Sl) : K :=
 c (out_3, (IntKind.wrap .i64 (i_1 + 1)), ())
abbrev Zfr3 (l : Sl) (out_2 : Sl) (i_1 : Int) (c : ((Sl × Int × Unit) → K)) : K :=
 ixS l.p l.n i_1 1 fun x38 =>
 ldI .i64 x38 fun x39 =>
 alK (.cells #[.int .i64 x39] 3) fun b =>
 semT Tryz.prog (Builtin.append_ #[27, 27] 27 #[out_2.v, .slice (some ⟨b, 0, none⟩) 1 1]) (.one (.sc (.slice))) fun x41 =>
 Zfr2 i_1 c x41
abbrev Zfr4 (l : Sl) (out_2 : Sl) (i_1 : Int) (c : ((Sl × Int × Unit) → K)) (x34 : Bool) : K :=
 brK x34
 (Zfr3 l out_2 i_1 c)
 (Zfr2 i_1 c out_2)
abbrev Zfr5 (l : Sl) (out_2 : Sl) (i_1 : Int) (c : ((Sl × Int × Unit) → K)) (is_1 : Bool) : K :=
 Zfr4 l out_2 i_1 c (!is_1)
abbrev Zfr6 (k_2 : Int) (c_1 : ((Bool × Int × Unit) → K)) (is_3 : Bool) : K :=
 c_1 (is_3, (IntKind.wrap .i64 (k_2 + 1)), ())
abbrev Zfr7 (l : Sl) (gone : Sl) (i_1 : Int) (is_2 : Bool) (k_2 : Int) (c_1 : ((Bool × Int × Unit) → K)) : K :=
 tick fun _ =>
 brK is_2
 (Zfr6 k_2 c_1 true)
 (ixS gone.p gone.n k_2 1 fun x25 =>
 ldI .i64 x25 fun x26 =>
 ixS l.p l.n i_1 1 fun x29 =>
 ldI .i64 x29 fun x30 =>
 Zfr6 k_2 c_1 (x26 == x30))
abbrev Zfr8 (l : Sl) (gone : Sl) (out_2 : Sl) (i_1 : Int) (c : ((Sl × Int × Unit) → K)) (is_2 : Bool) (k_2 : Int) (c_1 : ((Bool × Int × Unit) → K)) (x18 : Bool) : K :=
 brK x18
 (Zfr7 l gone i_1 is_2 k_2 c_1)
 (Zfr5 l out_2 i_1 c is_2)
abbrev Zfr9 (l : Sl) (gone : Sl) (out_2 : Sl) (i_1 : Int) (c : ((Sl × Int × Unit) → K)) (is_2 : Bool) (k_2 : Int) (c_1 : ((Bool × Int × Unit) → K)) : K :=
 Zfr8 l gone out_2 i_1 c is_2 k_2 c_1 (decide (k_2 < ((gone.n : Nat) : Int)))
abbrev Zfr10 (l : Sl) (gone : Sl) (out_2 : Sl) (i_1 : Int) (c : ((Sl × Int × Unit) → K)) (is : Bool) (k_1 : Int) : K :=
 lp (fun (z_ : (Bool × Int × Unit)) c_ => Zfr9 l gone out_2 i_1 c z_.1 z_.2.1 c_) (is, k_1, ())
abbrev Zfr11 (l : Sl) (gone : Sl) (out_2 : Sl) (i_1 : Int) (c : ((Sl × Int × Unit) → K)) (is : Bool) : K :=
 Zfr10 l gone out_2 i_1 c is 0
abbrev Zfr12 (l : Sl) (gone : Sl) (k : (Sl → K)) (out_2 : Sl) (i_1 : Int) (c : ((Sl × Int × Unit) → K)) (x12 : Bool) : K :=
 brK x12
 (Zfr11 l gone out_2 i_1 c false)
 (Zfr1 k out_2)
abbrev Zfr13 (l : Sl) (gone : Sl) (k : (Sl → K)) (out_2 : Sl) (i_1 : Int) (c : ((Sl × Int × Unit) → K)) : K :=
 Zfr12 l gone k out_2 i_1 c (decide (i_1 < ((l.n : Nat) : Int)))
abbrev Zfr14 (l : Sl) (gone : Sl) (k : (Sl → K)) (out : Sl) (i : Int) : K :=
 lp (fun (z_ : (Sl × Int × Unit)) c_ => Zfr13 l gone k z_.1 z_.2.1 c_) (out, i, ())
abbrev Zfr15 (l : Sl) (gone : Sl) (k : (Sl → K)) (out : Sl) : K :=
 Zfr14 l gone k out 0
abbrev Yor (l : Sl) (gone : Sl) : M Sl := fun k =>
 Zfr15 l gone k ⟨none, 0, 0⟩
theorem Yqx (l : Sl) (gone : Sl) (k : Sl → K) (w : World) (h_ : Yor l gone k w) : Ygz l gone k w :=
 Yae (P := Tryz.prog) Tryz.func17 rfl (by kernel_rfl)
 (Qs [] [0, 1] (fun z_ => Zfr15 l gone k ⟨none, 0, 0⟩)
 Qz
 (fun _ => Qs [(5, .slice)] [0, 1] (fun z_ => Zfr15 l gone k z_.1)
 Qz
 (fun (out, _) => Qs [(5, .slice)] [] (fun z_ => Zfr1 k z_.1)
 (Qs [(6, .int .i64)] [0, 1, 5] (fun z_ => Zfr14 l gone k out z_.1)
 Qz
 (fun (i, _) => Qb (Ql [(5, .slice), (6, .int .i64)] [0, 1] (fun (z_ : (Sl × Int × Unit)) c_ => Zfr13 l gone k z_.1 z_.2.1 c_) (out, i, ())
 (fun (out_2, i_1, _) c => Qs [] [0, 1, 5, 6] (fun z_ => Zfr11 l gone out_2 i_1 c false)
 (Qs [(12, .bool)] [0, 1, 5, 6] (fun z_ => Zfr12 l gone k out_2 i_1 c z_.1)
 Qz
 (fun (x12, _) => Qc (x12) (Zfr11 l gone out_2 i_1 c false) (Zfr1 k out_2) Qk Qx))
 (fun _ => Qs [(5, .slice)] [0, 1, 6] (fun z_ => Zfr2 i_1 c z_.1)
 (Qb (Qs [(7, .bool)] [0, 1, 5, 6] (fun z_ => Zfr11 l gone out_2 i_1 c z_.1)
 Qz
 (fun (is, _) => Qs [(7, .bool)] [0, 1, 5, 6] (fun z_ => Zfr5 l out_2 i_1 c z_.1)
 (Qs [(8, .int .i64)] [0, 1, 5, 6, 7] (fun z_ => Zfr10 l gone out_2 i_1 c is z_.1)
 Qz
 (fun (k_1, _) => Qb (Ql [(7, .bool), (8, .int .i64)] [0, 1, 5, 6] (fun (z_ : (Bool × Int × Unit)) c_ => Zfr9 l gone out_2 i_1 c z_.1 z_.2.1 c_) (is, k_1, ())
 (fun (is_2, k_2, _) c_1 => Qs [] [0, 1, 5, 6, 7, 8] (fun z_ => Zfr7 l gone i_1 is_2 k_2 c_1)
 (Qs [(18, .bool)] [0, 1, 5, 6, 7, 8] (fun z_ => Zfr8 l gone out_2 i_1 c is_2 k_2 c_1 z_.1)
 Qz
 (fun (x18, _) => Qc (x18) (Zfr7 l gone i_1 is_2 k_2 c_1) (Zfr5 l out_2 i_1 c is_2) Qk Qx))
 (fun _ => Qs [(7, .bool)] [0, 1, 5, 6, 8] (fun z_ => Zfr6 k_2 c_1 z_.1)
 (Qb (RefK.draw [1] [0, 1, 3, 3, 15, 31, 3, 3, 195, 451, 1023, 2047, 4095] [0, 1, 2, 3, 4, 5, 6, 7, 8, 9, 10, 11, 12] [0, 1, 2, 3, 4, 5, 6, 7, 8, 9, 10, 11, 12] (by kernel_rfl) (by kernel_rfl)))
 (fun (is_3, _) => Qz))))))
 (fun (is_1, _) => Qs [(34, .bool)] [0, 1, 5, 6] (fun z_ => Zfr4 l out_2 i_1 c z_.1)
 Qz
 (fun (x34, _) => Qc (x34) (Zfr3 l out_2 i_1 c) (Zfr2 i_1 c out_2) Qz Qk)))))
 (fun (out_3, _) => Qz))))))
 (fun (out_1, _) => Qs [(4, .slice)] [] (fun z_ => Zfr0 k z_.1)
 Qz
 (fun (x4, _) => Qr))))) h_
abbrev Zfs0 (k : (Bool → K)) (x4 : Bool) : K :=
 k x4
abbrev Zfs1 (k : (Bool → K)) (x4_1 : Bool) : K :=
 k x4_1
abbrev Zfs2 (k : (Bool → K)) (i_1 : Int) (c : ((Int × Unit) → K)) (x25 : Bool) : K :=
 brK x25
 (Zfs1 k false)
 (c ((IntKind.wrap .i64 (i_1 + 1)), ()))
abbrev Zfs3 (a : Sl) (b : Sl) (k : (Bool → K)) (i_1 : Int) (c : ((Int × Unit) → K)) : K :=
 tick fun _ =>
 ixS a.p a.n i_1 1 fun x19 =>
 ldI .i64 x19 fun x20 =>
 ixS b.p b.n i_1 1 fun x23 =>
 ldI .i64 x23 fun x24 =>
 Zfs2 k i_1 c (x20 != x24)
abbrev Zfs4 (a : Sl) (b : Sl) (k : (Bool → K)) (i_1 : Int) (c : ((Int × Unit) → K)) (x14 : Bool) : K :=
 brK x14
 (Zfs3 a b k i_1 c)
 (Zfs0 k true)
abbrev Zfs5 (a : Sl) (b : Sl) (k : (Bool → K)) (i_1 : Int) (c : ((Int × Unit) → K)) : K :=
 Zfs4 a b k i_1 c (decide (i_1 < ((a.n : Nat) : Int)))
abbrev Zfs6 (a : Sl) (b : Sl) (k : (Bool → K)) (i : Int) : K :=
 lp (fun (z_ : (Int × Unit)) c_ => Zfs5 a b k z_.1 c_) (i, ())
abbrev Zfs7 (k : (Bool → K)) (x4_2 : Bool) : K :=
 k x4_2
abbrev Zfs8 (a : Sl) (b : Sl) (k : (Bool → K)) (x10 : Bool) : K :=
 brK x10
 (Zfs7 k false)
 (Zfs6 a b k 0)
abbrev Yuj (a : Sl) (b : Sl) : M Bool := fun k =>
 Zfs8 a b k (((a.n : Nat) : Int) != ((b.n : Nat) : Int))
theorem Yv0 (a : Sl) (b : Sl) (k : Bool → K) (w : World) (h_ : Yuj a b k w) : Yj9 a b k w :=
 Yae (P := Tryz.prog) Tryz.func28 rfl (by kernel_rfl)
 (Qs [] [0, 1] (fun z_ => Zfs8 a b k (((a.n : Nat) : Int) != ((b.n : Nat) : Int)))
 Qz
 (fun _ => Qs [] [0, 1] (fun z_ => Zfs6 a b k 0)
 (Qs [(10, .bool)] [0, 1] (fun z_ => Zfs8 a b k z_.1)
 Qz
 (fun (x10, _) => Qc (x10) (Zfs7 k false) (Zfs6 a b k 0) (Qs [(4, .bool)] [] (fun z_ => Zfs7 k z_.1)
 Qz
 (fun (x4_2, _) => Qr)) Qk))
 (fun _ => Qs [] [] (fun z_ => Zfs0 k true)
 (Qs [(5, .int .i64)] [0, 1] (fun z_ => Zfs6 a b k z_.1)
 Qz
 (fun (i, _) => Qb (Ql [(5, .int .i64)] [0, 1] (fun (z_ : (Int × Unit)) c_ => Zfs5 a b k z_.1 c_) (i, ())
 (fun (i_1, _) c => Qs [] [0, 1, 5] (fun z_ => Zfs3 a b k i_1 c)
 (Qs [(14, .bool)] [0, 1, 5] (fun z_ => Zfs4 a b k i_1 c z_.1)
 Qz
 (fun (x14, _) => Qc (x14) (Zfs3 a b k i_1 c) (Zfs0 k true) Qk Qx))
 (fun _ => Qs [] [0, 1, 5] (fun z_ => c ((IntKind.wrap .i64 (i_1 + 1)), ()))
 (Qb (Qs [(25, .bool)] [0, 1, 5] (fun z_ => Zfs2 k i_1 c z_.1)
 (RefK.draw [] [0, 0, 3, 7, 0, 0, 48, 112, 255] [0, 1, 2, 3, 4, 5, 6, 7, 8] [0, 1, 2, 3, 4, 5, 6, 7, 8] (by kernel_rfl) (by kernel_rfl))
 (fun (x25, _) => Qc (x25) (Zfs1 k false) (c ((IntKind.wrap .i64 (i_1 + 1)), ())) (Qs [(4, .bool)] [] (fun z_ => Zfs1 k z_.1)
 Qz
 (fun (x4_1, _) => Qr)) Qk)))
 (fun _ => Qz))))))
 (fun _ => Qs [(4, .bool)] [] (fun z_ => Zfs0 k z_.1)
 Qz
 (fun (x4, _) => Qr))))) h_
abbrev Zft0 (k : (Int → K)) (x2 : Int) : K :=
 k x2
abbrev Zft1 (k : (Int → K)) (o_1 : Addr) : K :=
 ldI .i64 (o_1.add 0) fun x22 =>
 ldI .i64 (o_1.add 1) fun x25 =>
 Zft0 k (IntKind.wrap .i64 ((IntKind.wrap .i64 (1 + x22)) + x25))
abbrev Zft2 (k : (Int → K)) (x2_1 : Int) : K :=
 k x2_1
abbrev Zft3 (k : (Int → K)) (o_1 : Addr) (x20 : Bool) : K :=
 brK x20
 (Zft2 k 0)
 (Zft1 k o_1)
abbrev Zft4 (k : (Int → K)) (o_1 : Addr) : K :=
 ldI .i64 (o_1.add 0) fun x4 =>
 brK (decide (x4 < 0))
 (Zft3 k o_1 true)
 (ldI .i64 (o_1.add 0) fun x8 =>
 brK (decide (x8 > 63))
 (Zft3 k o_1 true)
 (ldI .i64 (o_1.add 1) fun x13 =>
 brK (decide (x13 < 0))
 (Zft3 k o_1 true)
 (ldI .i64 (o_1.add 1) fun x18 =>
 Zft3 k o_1 (decide (x18 > 16384)))))
abbrev Vbx (o : (Int × Int)) : M Int := fun k =>
 alK (.cells #[.int .i64 o.1, .int .i64 o.2] 74) fun b =>
 Zft4 k ⟨b, 0, none⟩
theorem Yv1 (o : (Int × Int)) (k : Int → K) (w : World) (h_ : Vbx o k w) : Yft o k w :=
 Yae (P := Tryz.prog) Tryz.func34 rfl (by kernel_rfl)
 (Qs [(1, .addr)] [] (fun z_ => Zft4 k z_.1)
 Qz
 (fun (o_1, _) => Qs [] [1] (fun z_ => Zft1 k o_1)
 (Qs [(20, .bool)] [1] (fun z_ => Zft3 k o_1 z_.1)
 (Qp [3, 8, 13])
 (fun (x20, _) => Qc (x20) (Zft2 k 0) (Zft1 k o_1) (Qs [(2, .int .i64)] [] (fun z_ => Zft2 k z_.1)
 Qz
 (fun (x2_1, _) => Qr)) Qk))
 (fun _ => Qs [(2, .int .i64)] [] (fun z_ => Zft0 k z_.1)
 Qz
 (fun (x2, _) => Qr)))) h_
abbrev Zfu0 (k : (Sl → K)) (x6 : Sl) : K :=
 k x6
abbrev Zfu1 (used : Sl) (from_1 : Sl) (k : (Sl → K)) (d_1 : Addr) : K :=
 ldS (d_1.add 0) fun x7_0 =>
 ldS (d_1.add 1) fun x7_1 =>
 ldS (d_1.add 2) fun x7_2 =>
 ldS (d_1.add 3) fun x7_3 =>
 ldS (d_1.add 4) fun x7_4 =>
 ldI .i64 (d_1.add 5) fun x7_5 =>
 ldI .i64 (d_1.add 6) fun x7_6 =>
 ldB (d_1.add 7) fun x7_7 =>
 Yis (x7_0, (x7_1, (x7_2, (x7_3, (x7_4, (x7_5, (x7_6, x7_7))))))) used from_1 ⟨none, 0, 0⟩ fun x10 =>
 Zfu0 k x10
abbrev Yuk (d : (Sl × (Sl × (Sl × (Sl × (Sl × (Int × (Int × Bool)))))))) (used : Sl) (from_1 : Sl) : M Sl := fun k =>
 alK (.cells #[d.1.v, d.2.1.v, d.2.2.1.v, d.2.2.2.1.v, d.2.2.2.2.1.v, .int .i64 d.2.2.2.2.2.1, .int .i64 d.2.2.2.2.2.2.1, .bool d.2.2.2.2.2.2.2] 103) fun b =>
 Zfu1 used from_1 k ⟨b, 0, none⟩
theorem Yv2 (d : (Sl × (Sl × (Sl × (Sl × (Sl × (Int × (Int × Bool)))))))) (used : Sl) (from_1 : Sl) (k : Sl → K) (w : World) (h_ : Yuk d used from_1 k w) : Ykb d used from_1 k w :=
 Yae (P := Tryz.prog) Tryz.func68 rfl (by kernel_rfl)
 (Qs [(3, .addr)] [1, 2] (fun z_ => Zfu1 used from_1 k z_.1)
 Qz
 (fun (d_1, _) => Qs [(6, .slice)] [] (fun z_ => Zfu0 k z_.1)
 Qz
 (fun (x6, _) => Qr))) h_
abbrev Zfv0 (k : (((Int × Int) × Bool) → K)) (x4 : Addr) (x5 : Bool) : K :=
 ldI .i64 (x4.add 0) fun x4_0 =>
 ldI .i64 (x4.add 1) fun x4_1 =>
 k ((x4_0, x4_1), x5)
abbrev Zfv1 (k : (((Int × Int) × Bool) → K)) (x4 : Addr) (o : Addr) : K :=
 ldI .i64 (o.add 0) fun x42_0 =>
 ldI .i64 (o.add 1) fun x42_1 =>
 stK (x4.add 0) (.int .i64 x42_0) <|
 stK (x4.add 1) (.int .i64 x42_1) <|
 Zfv0 k x4 true
abbrev Zfv2 (k : (((Int × Int) × Bool) → K)) (x4 : Addr) (x5_1 : Bool) : K :=
 ldI .i64 (x4.add 0) fun x4_0_1 =>
 ldI .i64 (x4.add 1) fun x4_1_1 =>
 k ((x4_0_1, x4_1_1), x5_1)
abbrev Zfv3 (k : (((Int × Int) × Bool) → K)) (x4 : Addr) : K :=
 stK (x4.add 0) (.int .i64 0) <|
 stK (x4.add 1) (.int .i64 0) <|
 Zfv2 k x4 false
abbrev Zfv4 (k : (((Int × Int) × Bool) → K)) (x4 : Addr) (o : Addr) (x40 : Bool) : K :=
 brK x40
 (Zfv3 k x4)
 (Zfv1 k x4 o)
abbrev Zfv5 (at_1 : Int) (k : (((Int × Int) × Bool) → K)) (d_1 : Addr) (x4 : Addr) (o : Addr) (e : Int) : K :=
 tick fun _ =>
 brK (e != 0)
 (Zfv4 k x4 o true)
 (ldI .i64 (o.add 0) fun x31_0 =>
 ldI .i64 (o.add 1) fun x31_1 =>
 ldS (d_1.add 0) fun x34 =>
 Yft (x31_0, x31_1) fun x32 =>
 chk [.cell (d_1.add 0) (x34.v)] fun _ =>
 Zfv4 k x4 o (decide (x32 > (IntKind.wrap .i64 ((IntKind.wrap .i64 (8 * ((x34.n : Nat) : Int))) - at_1)))))
abbrev Zfv6 (at_1 : Int) (k : (((Int × Int) × Bool) → K)) (d_1 : Addr) (x4 : Addr) : K :=
 ldS (d_1.add 0) fun x22 =>
 Yiu x22 at_1 fun x24 =>
 Yhn at_1 x24 fun x25 =>
 alK (.cells #[.int .i64 0, .int .i64 0] 74) fun b =>
 stK (Addr.add ⟨b, 0, none⟩ 0) (.int .i64 x25.1.1) <|
 stK (Addr.add ⟨b, 0, none⟩ 1) (.int .i64 x25.1.2) <|
 Zfv5 at_1 k d_1 x4 ⟨b, 0, none⟩ x25.2
abbrev Zfv7 (k : (((Int × Int) × Bool) → K)) (x4 : Addr) (x5_2 : Bool) : K :=
 ldI .i64 (x4.add 0) fun x4_0_2 =>
 ldI .i64 (x4.add 1) fun x4_1_2 =>
 k ((x4_0_2, x4_1_2), x5_2)
abbrev Zfv8 (k : (((Int × Int) × Bool) → K)) (x4 : Addr) : K :=
 stK (x4.add 0) (.int .i64 0) <|
 stK (x4.add 1) (.int .i64 0) <|
 Zfv7 k x4 false
abbrev Zfv9 (at_1 : Int) (k : (((Int × Int) × Bool) → K)) (d_1 : Addr) (x4 : Addr) (x17 : Bool) : K :=
 brK x17
 (Zfv8 k x4)
 (Zfv6 at_1 k d_1 x4)
abbrev Zfv10 (at_1 : Int) (k : (((Int × Int) × Bool) → K)) (d_1 : Addr) (x4 : Addr) : K :=
 brK (decide (at_1 < 0))
 (Zfv9 at_1 k d_1 x4 true)
 (ldS (d_1.add 0) fun x13 =>
 Zfv9 at_1 k d_1 x4 (decide (at_1 ≥ (IntKind.wrap .i64 (8 * ((x13.n : Nat) : Int))))))
abbrev Ypy (d : (Sl × (Sl × (Sl × (Sl × (Sl × (Int × (Int × Bool)))))))) (at_1 : Int) : M ((Int × Int) × Bool) := fun k =>
 alK (.cells #[d.1.v, d.2.1.v, d.2.2.1.v, d.2.2.2.1.v, d.2.2.2.2.1.v, .int .i64 d.2.2.2.2.2.1, .int .i64 d.2.2.2.2.2.2.1, .bool d.2.2.2.2.2.2.2] 103) fun b_1 =>
 alK (.cells #[.int .i64 0, .int .i64 0] 74) fun b_2 =>
 Zfv10 at_1 k ⟨b_1, 0, none⟩ ⟨b_2, 0, none⟩
theorem Yv3 (d : (Sl × (Sl × (Sl × (Sl × (Sl × (Int × (Int × Bool)))))))) (at_1 : Int) (k : ((Int × Int) × Bool) → K) (w : World) (h_ : Ypy d at_1 k w) : Ykc d at_1 k w :=
 Yae (P := Tryz.prog) Tryz.func110 rfl (by kernel_rfl)
 (Qs [(2, .addr), (4, .addr)] [1] (fun z_ => Zfv10 at_1 k z_.1 z_.2.1)
 Qz
 (fun (d_1, x4, _) => Qs [] [1, 2, 4] (fun z_ => Zfv6 at_1 k d_1 x4)
 (Qs [(17, .bool)] [1, 2, 4] (fun z_ => Zfv9 at_1 k d_1 x4 z_.1)
 (Qp [2])
 (fun (x17, _) => Qc (x17) (Zfv8 k x4) (Zfv6 at_1 k d_1 x4) (Qs [(5, .bool)] [4] (fun z_ => Zfv7 k x4 z_.1)
 Qz
 (fun (x5_2, _) => Qr)) Qk))
 (fun _ => Qs [(6, .addr), (7, .int .i64)] [1, 2, 4] (fun z_ => Zfv5 at_1 k d_1 x4 z_.1 z_.2.1)
 Qz
 (fun (o, e, _) => Qs [] [4, 6] (fun z_ => Zfv1 k x4 o)
 (Qs [(40, .bool)] [4, 6] (fun z_ => Zfv4 k x4 o z_.1)
 (RefK.draw [2] [0, 1, 3, 7, 15, 7, 39, 103, 231, 7, 999, 2047, 4095] [0, 1, 2, 3, 5, 6, 7, 8, 9, 10, 4, 11, 12] [0, 1, 2, 3, 4, 5, 6, 7, 8, 9, 10, 11, 12] (by kernel_rfl) (by kernel_rfl))
 (fun (x40, _) => Qc (x40) (Zfv3 k x4) (Zfv1 k x4 o) (Qs [(5, .bool)] [4] (fun z_ => Zfv2 k x4 z_.1)
 Qz
 (fun (x5_1, _) => Qr)) Qk))
 (fun _ => Qs [(5, .bool)] [4] (fun z_ => Zfv0 k x4 z_.1)
 Qz
 (fun (x5, _) => Qr)))))) h_
abbrev Zfw0 (k : ((Sl × (Sl × (Sl × (Sl × (Sl × (Int × (Int × Bool))))))) → K)) (x2 : Addr) : K :=
 ldS (x2.add 0) fun x2_0 =>
 ldS (x2.add 1) fun x2_1 =>
 ldS (x2.add 2) fun x2_2 =>
 ldS (x2.add 3) fun x2_3 =>
 ldS (x2.add 4) fun x2_4 =>
 ldI .i64 (x2.add 5) fun x2_5 =>
 ldI .i64 (x2.add 6) fun x2_6 =>
 ldB (x2.add 7) fun x2_7 =>
 k (x2_0, (x2_1, (x2_2, (x2_3, (x2_4, (x2_5, (x2_6, x2_7)))))))
abbrev Zfw1 (k : ((Sl × (Sl × (Sl × (Sl × (Sl × (Int × (Int × Bool))))))) → K)) (x2 : Addr) (d : Addr) : K :=
 ldS (d.add 0) fun x54_0 =>
 ldS (d.add 1) fun x54_1 =>
 ldS (d.add 2) fun x54_2 =>
 ldS (d.add 3) fun x54_3 =>
 ldS (d.add 4) fun x54_4 =>
 ldI .i64 (d.add 5) fun x54_5 =>
 ldI .i64 (d.add 6) fun x54_6 =>
 ldB (d.add 7) fun x54_7 =>
 stK (x2.add 0) (x54_0.v) <|
 stK (x2.add 1) (x54_1.v) <|
 stK (x2.add 2) (x54_2.v) <|
 stK (x2.add 3) (x54_3.v) <|
 stK (x2.add 4) (x54_4.v) <|
 stK (x2.add 5) (.int .i64 x54_5) <|
 stK (x2.add 6) (.int .i64 x54_6) <|
 stK (x2.add 7) (.bool x54_7) <|
 Zfw0 k x2
abbrev Zfw2 (k : ((Sl × (Sl × (Sl × (Sl × (Sl × (Int × (Int × Bool))))))) → K)) (x2 : Addr) (d : Addr) : K :=
 stK (Addr.add (d.add 6) 0) (.int .i64 (-1)) <|
 Zfw1 k x2 d
abbrev Zfw3 (k : ((Sl × (Sl × (Sl × (Sl × (Sl × (Int × (Int × Bool))))))) → K)) (x2 : Addr) (d : Addr) : K :=
 ldS (d.add 0) fun x49 =>
 mkS Tryz.prog 4 ((x49.n : Nat) : Int) ((x49.n : Nat) : Int) fun b =>
 stK (Addr.add (d.add 4) 0) (.slice (some ⟨b, 0, none⟩) (Int.toNat ((x49.n : Nat) : Int)) (Int.toNat ((x49.n : Nat) : Int))) <|
 Zfw2 k x2 d
abbrev Zfw4 (k : ((Sl × (Sl × (Sl × (Sl × (Sl × (Int × (Int × Bool))))))) → K)) (x2 : Addr) (d : Addr) : K :=
 ldS (d.add 0) fun x44 =>
 mkS Tryz.prog 4 ((x44.n : Nat) : Int) ((x44.n : Nat) : Int) fun b_1 =>
 stK (Addr.add (d.add 3) 0) (.slice (some ⟨b_1, 0, none⟩) (Int.toNat ((x44.n : Nat) : Int)) (Int.toNat ((x44.n : Nat) : Int))) <|
 Zfw3 k x2 d
abbrev Zfw5 (k : ((Sl × (Sl × (Sl × (Sl × (Sl × (Int × (Int × Bool))))))) → K)) (x2 : Addr) (d : Addr) : K :=
 ldS (d.add 0) fun x39 =>
 mkS Tryz.prog 219 ((x39.n : Nat) : Int) ((x39.n : Nat) : Int) fun b_2 =>
 stK (Addr.add (d.add 2) 0) (.slice (some ⟨b_2, 0, none⟩) (Int.toNat ((x39.n : Nat) : Int)) (Int.toNat ((x39.n : Nat) : Int))) <|
 Zfw4 k x2 d
abbrev Zfw6 (k : ((Sl × (Sl × (Sl × (Sl × (Sl × (Int × (Int × Bool))))))) → K)) (x2 : Addr) (d : Addr) : K :=
 ldS (d.add 1) fun x33 =>
 ldS (d.add 0) fun x35 =>
 semT Tryz.prog (Builtin.append_ #[100, 100] 100 #[x33.v, x35.v]) (.one (.sc (.slice))) fun x36 =>
 stK (Addr.add (d.add 1) 0) (x36.v) <|
 Zfw5 k x2 d
abbrev Zfw7 (words : Sl) (d : Addr) (i_1 : Int) (c : ((Int × Unit) → K)) : K :=
 tick fun _ =>
 ldS (d.add 0) fun x21 =>
 ixS words.p words.n i_1 1 fun x28 =>
 ldI .u64 x28 fun x29 =>
 ixS x21.p x21.n (IntKind.wrap .i64 (Int.tdiv i_1 8)) 8 fun x30 =>
 ixA x30 8 (Int.tmod i_1 8) 1 fun x31 =>
 stK (x31.add 0) (.int .u64 x29) <|
 c ((IntKind.wrap .i64 (i_1 + 1)), ())
abbrev Zfw8 (words : Sl) (d : Addr) (i_1 : Int) (c : ((Int × Unit) → K)) : K :=
 ldS (d.add 0) fun x15 =>
 alK (.cells #[.int .u64 0, .int .u64 0, .int .u64 0, .int .u64 0, .int .u64 0, .int .u64 0, .int .u64 0, .int .u64 0] 219) fun b_3 =>
 semT Tryz.prog (Builtin.append_ #[100, 100] 100 #[x15.v, .slice (some ⟨b_3, 0, none⟩) 1 1]) (.one (.sc (.slice))) fun x18 =>
 stK (Addr.add (d.add 0) 0) (x18.v) <|
 Zfw7 words d i_1 c
abbrev Zfw9 (words : Sl) (d : Addr) (i_1 : Int) (c : ((Int × Unit) → K)) (x13 : Bool) : K :=
 brK x13
 (Zfw8 words d i_1 c)
 (Zfw7 words d i_1 c)
abbrev Zfw10 (words : Sl) (k : ((Sl × (Sl × (Sl × (Sl × (Sl × (Int × (Int × Bool))))))) → K)) (x2 : Addr) (d : Addr) (i_1 : Int) (c : ((Int × Unit) → K)) (x8 : Bool) : K :=
 brK x8
 (Zfw9 words d i_1 c ((Int.tmod i_1 8) == 0))
 (Zfw6 k x2 d)
abbrev Zfw11 (words : Sl) (k : ((Sl × (Sl × (Sl × (Sl × (Sl × (Int × (Int × Bool))))))) → K)) (x2 : Addr) (d : Addr) (i_1 : Int) (c : ((Int × Unit) → K)) : K :=
 Zfw10 words k x2 d i_1 c (decide (i_1 < ((words.n : Nat) : Int)))
abbrev Zfw12 (words : Sl) (k : ((Sl × (Sl × (Sl × (Sl × (Sl × (Int × (Int × Bool))))))) → K)) (x2 : Addr) (d : Addr) (i : Int) : K :=
 lp (fun (z_ : (Int × Unit)) c_ => Zfw11 words k x2 d z_.1 c_) (i, ())
abbrev Zfw13 (words : Sl) (k : ((Sl × (Sl × (Sl × (Sl × (Sl × (Int × (Int × Bool))))))) → K)) (x2 : Addr) (d : Addr) : K :=
 Zfw12 words k x2 d 0
abbrev Zfw14 (words : Sl) (k : ((Sl × (Sl × (Sl × (Sl × (Sl × (Int × (Int × Bool))))))) → K)) (x2 : Addr) : K :=
 alK (.cells #[.slice none 0 0, .slice none 0 0, .slice none 0 0, .slice none 0 0, .slice none 0 0, .int .i64 0, .int .i64 0, .bool false] 103) fun b_4 =>
 Zfw13 words k x2 ⟨b_4, 0, none⟩
abbrev Ypz (words : Sl) : M (Sl × (Sl × (Sl × (Sl × (Sl × (Int × (Int × Bool))))))) := fun k =>
 alK (.cells #[.slice none 0 0, .slice none 0 0, .slice none 0 0, .slice none 0 0, .slice none 0 0, .int .i64 0, .int .i64 0, .bool false] 103) fun b_5 =>
 Zfw14 words k ⟨b_5, 0, none⟩
theorem Yv4 (words : Sl) (k : (Sl × (Sl × (Sl × (Sl × (Sl × (Int × (Int × Bool))))))) → K) (w : World) (h_ : Ypz words k w) : Ykd words k w :=
 Yae (P := Tryz.prog) Tryz.func113 rfl (by kernel_rfl)
 (Qs [(2, .addr)] [0] (fun z_ => Zfw14 words k z_.1)
 Qz
 (fun (x2, _) => Qs [(3, .addr)] [0, 2] (fun z_ => Zfw13 words k x2 z_.1)
 Qz
 (fun (d, _) => Qs [] [2, 3] (fun z_ => Zfw6 k x2 d)
 (Qs [(4, .int .i64)] [0, 2, 3] (fun z_ => Zfw12 words k x2 d z_.1)
 Qz
 (fun (i, _) => Qb (Ql [(4, .int .i64)] [0, 2, 3] (fun (z_ : (Int × Unit)) c_ => Zfw11 words k x2 d z_.1 c_) (i, ())
 (fun (i_1, _) c => Qs [] [0, 2, 3, 4] (fun z_ => Zfw9 words d i_1 c ((Int.tmod i_1 8) == 0))
 (Qs [(8, .bool)] [0, 2, 3, 4] (fun z_ => Zfw10 words k x2 d i_1 c z_.1)
 Qz
 (fun (x8, _) => Qc (x8) (Zfw9 words d i_1 c ((Int.tmod i_1 8) == 0)) (Zfw6 k x2 d) Qk Qx))
 (fun _ => Qs [] [0, 2, 3, 4] (fun z_ => c ((IntKind.wrap .i64 (i_1 + 1)), ()))
 (Qb (Qs [] [0, 2, 3, 4] (fun z_ => Zfw7 words d i_1 c)
 (Qs [(13, .bool)] [0, 2, 3, 4] (fun z_ => Zfw9 words d i_1 c z_.1)
 Qz
 (fun (x13, _) => Qc (x13) (Zfw8 words d i_1 c) (Zfw7 words d i_1 c) Qz Qk))
 (fun _ => RefK.draw [] [0, 1, 0, 4, 0, 16, 0, 0, 192, 448, 15, 2047, 4095] [0, 1, 2, 3, 4, 5, 6, 7, 8, 9, 10, 11, 12] [0, 1, 2, 3, 4, 5, 6, 7, 8, 9, 10, 11, 12] (by kernel_rfl) (by kernel_rfl))))
 (fun _ => Qz))))))
 (fun _ => Qs [] [2, 3] (fun z_ => Zfw5 k x2 d)
 Qz
 (fun _ => Qs [] [2, 3] (fun z_ => Zfw4 k x2 d)
 Qz
 (fun _ => Qs [] [2, 3] (fun z_ => Zfw3 k x2 d)
 Qz
 (fun _ => Qs [] [2, 3] (fun z_ => Zfw2 k x2 d)
 Qz
 (fun _ => Qs [] [2, 3] (fun z_ => Zfw1 k x2 d)
 Qz
 (fun _ => Qs [] [2] (fun z_ => Zfw0 k x2)
 Qz
 (fun _ => Qr)))))))))) h_
abbrev Zfx0 (k : (Sl → K)) (x8 : Sl) : K :=
 k x8
abbrev Zfx1 (k : (Sl → K)) (x12_1 : Sl) : K :=
 Zfx0 k x12_1
abbrev Zfx2 (x13_1 : Int) (c : ((Sl × Int × Unit) → K)) (x12_3 : Sl) : K :=
 c (x12_3, (IntKind.wrap .i64 (x13_1 + 1)), ())
abbrev Zfx3 (x1 : Sl) (x12_2 : Sl) (x13_1 : Int) (c : ((Sl × Int × Unit) → K)) : K :=
 ixS x1.p x1.n x13_1 1 fun x84 =>
 ldI .i64 x84 fun x85 =>
 alK (.cells #[.int .i64 x85] 3) fun b =>
 semT Tryz.prog (Builtin.append_ #[27, 27] 27 #[x12_2.v, .slice (some ⟨b, 0, none⟩) 1 1]) (.one (.sc (.slice))) fun x87 =>
 Zfx2 x13_1 c x87
abbrev Zfx4 (x1 : Sl) (x12_2 : Sl) (x13_1 : Int) (c : ((Sl × Int × Unit) → K)) (x80 : Bool) : K :=
 brK x80
 (Zfx3 x1 x12_2 x13_1 c)
 (Zfx2 x13_1 c x12_2)
abbrev Zfx5 (x1 : Sl) (x3 : Sl) (x10_1 : Sl) (x12_2 : Sl) (x13_1 : Int) (c : ((Sl × Int × Unit) → K)) : K :=
 ixS x1.p x1.n x13_1 1 fun x70 =>
 ldI .i64 x70 fun x71 =>
 Ydv x10_1 x71 fun x72 =>
 brK x72
 (Zfx4 x1 x12_2 x13_1 c true)
 (ixS x1.p x1.n x13_1 1 fun x77 =>
 ldI .i64 x77 fun x78 =>
 Ydv x3 x78 fun x79 =>
 Zfx4 x1 x12_2 x13_1 c x79)
abbrev Zfx6 (x1 : Sl) (x3 : Sl) (k : (Sl → K)) (x10_1 : Sl) (x12_2 : Sl) (x13_1 : Int) (c : ((Sl × Int × Unit) → K)) (x64 : Bool) : K :=
 brK x64
 (Zfx5 x1 x3 x10_1 x12_2 x13_1 c)
 (Zfx1 k x12_2)
abbrev Zfx7 (x1 : Sl) (x3 : Sl) (k : (Sl → K)) (x10_1 : Sl) (x12_2 : Sl) (x13_1 : Int) (c : ((Sl × Int × Unit) → K)) : K :=
 Zfx6 x1 x3 k x10_1 x12_2 x13_1 c (decide (x13_1 < ((x1.n : Nat) : Int)))
abbrev Zfx8 (x1 : Sl) (x3 : Sl) (k : (Sl → K)) (x10_1 : Sl) (x12 : Sl) (x13 : Int) : K :=
 lp (fun (z_ : (Sl × Int × Unit)) c_ => Zfx7 x1 x3 k x10_1 z_.1 z_.2.1 c_) (x12, x13, ())
abbrev Zfx9 (x1 : Sl) (x3 : Sl) (k : (Sl → K)) (x10_1 : Sl) (x12 : Sl) : K :=
 Zfx8 x1 x3 k x10_1 x12 0
abbrev Zfx10 (x1 : Sl) (x3 : Sl) (k : (Sl → K)) (x10_1 : Sl) : K :=
 Zfx9 x1 x3 k x10_1 ⟨none, 0, 0⟩
abbrev Zfx11 (x11_1 : Int) (c_1 : ((Sl × Sl × Int × Unit) → K)) (x9_2 : Sl) (x10_3 : Sl) : K :=
 c_1 (x9_2, x10_3, (IntKind.wrap .i64 (x11_1 + 1)), ())
abbrev Zfx12 (x4 : Addr) (x9_1 : Sl) (x11_1 : Int) (c_1 : ((Sl × Sl × Int × Unit) → K)) (x10_4 : Sl) : K :=
 tick fun _ =>
 ldS (x4.add 0) fun x54_0 =>
 ldS (x4.add 1) fun x54_1 =>
 ldS (x4.add 2) fun x54_2 =>
 ldS (x4.add 3) fun x54_3 =>
 ldS (x4.add 4) fun x54_4 =>
 ldI .i64 (x4.add 5) fun x54_5 =>
 ldI .i64 (x4.add 6) fun x54_6 =>
 ldB (x4.add 7) fun x54_7 =>
 ixS x9_1.p x9_1.n x11_1 1 fun x57 =>
 ldI .i64 x57 fun x58 =>
 Ykh (x54_0, (x54_1, (x54_2, (x54_3, (x54_4, (x54_5, (x54_6, x54_7))))))) x58 fun x59 =>
 semT Tryz.prog (Builtin.append_ #[27, 27] 27 #[x9_1.v, x59.v]) (.one (.sc (.slice))) fun x60 =>
 Zfx11 x11_1 c_1 x60 x10_4
abbrev Zfx13 (x4 : Addr) (x9_1 : Sl) (x10_2 : Sl) (x11_1 : Int) (c_1 : ((Sl × Sl × Int × Unit) → K)) : K :=
 ixS x9_1.p x9_1.n x11_1 1 fun x49 =>
 ldI .i64 x49 fun x50 =>
 alK (.cells #[.int .i64 x50] 3) fun b_1 =>
 semT Tryz.prog (Builtin.append_ #[27, 27] 27 #[x10_2.v, .slice (some ⟨b_1, 0, none⟩) 1 1]) (.one (.sc (.slice))) fun x52 =>
 Zfx12 x4 x9_1 x11_1 c_1 x52
abbrev Zfx14 (x4 : Addr) (x9_1 : Sl) (x10_2 : Sl) (x11_1 : Int) (c_1 : ((Sl × Sl × Int × Unit) → K)) (x45 : Bool) : K :=
 brK x45
 (Zfx11 x11_1 c_1 x9_1 x10_2)
 (Zfx13 x4 x9_1 x10_2 x11_1 c_1)
abbrev Zfx15 (x1 : Sl) (x3 : Sl) (x4 : Addr) (x9_1 : Sl) (x10_2 : Sl) (x11_1 : Int) (c_1 : ((Sl × Sl × Int × Unit) → K)) : K :=
 ixS x9_1.p x9_1.n x11_1 1 fun x26 =>
 ldI .i64 x26 fun x27 =>
 Ydv x1 x27 fun x28 =>
 brK (!x28)
 (Zfx14 x4 x9_1 x10_2 x11_1 c_1 true)
 (ixS x9_1.p x9_1.n x11_1 1 fun x34 =>
 ldI .i64 x34 fun x35 =>
 Ydv x10_2 x35 fun x36 =>
 brK x36
 (Zfx14 x4 x9_1 x10_2 x11_1 c_1 true)
 (ixS x9_1.p x9_1.n x11_1 1 fun x42 =>
 ldI .i64 x42 fun x43 =>
 Ydv x3 x43 fun x44 =>
 Zfx14 x4 x9_1 x10_2 x11_1 c_1 x44))
abbrev Zfx16 (x1 : Sl) (x3 : Sl) (k : (Sl → K)) (x4 : Addr) (x9_1 : Sl) (x10_2 : Sl) (x11_1 : Int) (c_1 : ((Sl × Sl × Int × Unit) → K)) (x20 : Bool) : K :=
 brK x20
 (Zfx15 x1 x3 x4 x9_1 x10_2 x11_1 c_1)
 (Zfx10 x1 x3 k x10_2)
abbrev Zfx17 (x1 : Sl) (x3 : Sl) (k : (Sl → K)) (x4 : Addr) (x9_1 : Sl) (x10_2 : Sl) (x11_1 : Int) (c_1 : ((Sl × Sl × Int × Unit) → K)) : K :=
 Zfx16 x1 x3 k x4 x9_1 x10_2 x11_1 c_1 (decide (x11_1 < ((x9_1.n : Nat) : Int)))
abbrev Zfx18 (x1 : Sl) (x3 : Sl) (k : (Sl → K)) (x4 : Addr) (x9 : Sl) (x10 : Sl) (x11 : Int) : K :=
 lp (fun (z_ : (Sl × Sl × Int × Unit)) c_ => Zfx17 x1 x3 k x4 z_.1 z_.2.1 z_.2.2.1 c_) (x9, x10, x11, ())
abbrev Zfx19 (x1 : Sl) (x3 : Sl) (k : (Sl → K)) (x4 : Addr) (x9 : Sl) (x10 : Sl) : K :=
 Zfx18 x1 x3 k x4 x9 x10 0
abbrev Zfx20 (x1 : Sl) (x3 : Sl) (k : (Sl → K)) (x4 : Addr) (x9 : Sl) : K :=
 Zfx19 x1 x3 k x4 x9 ⟨none, 0, 0⟩
abbrev Zfx21 (x1 : Sl) (x2 : Sl) (x3 : Sl) (k : (Sl → K)) (x4 : Addr) : K :=
 alK (.cells #[] 3) fun b_2 =>
 semT Tryz.prog (Builtin.append_ #[27, 27] 27 #[.slice (some ⟨b_2, 0, none⟩) 0 0, x2.v]) (.one (.sc (.slice))) fun x16 =>
 Zfx20 x1 x3 k x4 x16
abbrev Ysd (x0 : (Sl × (Sl × (Sl × (Sl × (Sl × (Int × (Int × Bool)))))))) (x1 : Sl) (x2 : Sl) (x3 : Sl) : M Sl := fun k =>
 alK (.cells #[x0.1.v, x0.2.1.v, x0.2.2.1.v, x0.2.2.2.1.v, x0.2.2.2.2.1.v, .int .i64 x0.2.2.2.2.2.1, .int .i64 x0.2.2.2.2.2.2.1, .bool x0.2.2.2.2.2.2.2] 103) fun b_3 =>
 Zfx21 x1 x2 x3 k ⟨b_3, 0, none⟩
theorem Ytn (x0 : (Sl × (Sl × (Sl × (Sl × (Sl × (Int × (Int × Bool)))))))) (x1 : Sl) (x2 : Sl) (x3 : Sl) (k : Sl → K) (w : World) (h_ : Ysd x0 x1 x2 x3 k w) : Yis x0 x1 x2 x3 k w :=
 Yae (P := Tryz.prog) Tryz.func131 rfl (by kernel_rfl)
 (Qs [(4, .addr)] [1, 2, 3] (fun z_ => Zfx21 x1 x2 x3 k z_.1)
 Qz
 (fun (x4, _) => Qs [(9, .slice)] [1, 3, 4] (fun z_ => Zfx20 x1 x3 k x4 z_.1)
 Qz
 (fun (x9, _) => Qs [(10, .slice)] [1, 3, 4, 9] (fun z_ => Zfx19 x1 x3 k x4 x9 z_.1)
 Qz
 (fun (x10, _) => Qs [(10, .slice)] [1, 3] (fun z_ => Zfx10 x1 x3 k z_.1)
 (Qs [(11, .int .i64)] [1, 3, 4, 9, 10] (fun z_ => Zfx18 x1 x3 k x4 x9 x10 z_.1)
 Qz
 (fun (x11, _) => Qb (Ql [(9, .slice), (10, .slice), (11, .int .i64)] [1, 3, 4] (fun (z_ : (Sl × Sl × Int × Unit)) c_ => Zfx17 x1 x3 k x4 z_.1 z_.2.1 z_.2.2.1 c_) (x9, x10, x11, ())
 (fun (x9_1, x10_2, x11_1, _) c_1 => Qs [] [1, 3, 4, 9, 10, 11] (fun z_ => Zfx15 x1 x3 x4 x9_1 x10_2 x11_1 c_1)
 (Qs [(20, .bool)] [1, 3, 4, 9, 10, 11] (fun z_ => Zfx16 x1 x3 k x4 x9_1 x10_2 x11_1 c_1 z_.1)
 Qz
 (fun (x20, _) => Qc (x20) (Zfx15 x1 x3 x4 x9_1 x10_2 x11_1 c_1) (Zfx10 x1 x3 k x10_2) Qk Qx))
 (fun _ => Qs [(9, .slice), (10, .slice)] [1, 3, 4, 11] (fun z_ => Zfx11 x11_1 c_1 z_.1 z_.2.1)
 (Qb (Qs [] [1, 3, 4, 9, 10, 11] (fun z_ => Zfx13 x4 x9_1 x10_2 x11_1 c_1)
 (Qs [(45, .bool)] [1, 3, 4, 9, 10, 11] (fun z_ => Zfx14 x4 x9_1 x10_2 x11_1 c_1 z_.1)
 (Qp [7, 15])
 (fun (x45, _) => Qc (x45) (Zfx11 x11_1 c_1 x9_1 x10_2) (Zfx13 x4 x9_1 x10_2 x11_1 c_1) Qx Qk))
 (fun _ => Qs [(10, .slice)] [1, 3, 4, 9, 11] (fun z_ => Zfx12 x4 x9_1 x11_1 c_1 z_.1)
 Qz
 (fun (x10_4, _) => RefK.draw [] [0, 0, 0, 0, 12, 28, 62, 127, 255] [0, 1, 2, 3, 4, 5, 6, 7, 8] [0, 1, 2, 3, 4, 5, 6, 7, 8] (by kernel_rfl) (by kernel_rfl)))))
 (fun (x9_2, x10_3, _) => Qz))))))
 (fun (x10_1, _) => Qs [(12, .slice)] [1, 3, 10] (fun z_ => Zfx9 x1 x3 k x10_1 z_.1)
 Qz
 (fun (x12, _) => Qs [(12, .slice)] [] (fun z_ => Zfx1 k z_.1)
 (Qs [(13, .int .i64)] [1, 3, 10, 12] (fun z_ => Zfx8 x1 x3 k x10_1 x12 z_.1)
 Qz
 (fun (x13, _) => Qb (Ql [(12, .slice), (13, .int .i64)] [1, 3, 10] (fun (z_ : (Sl × Int × Unit)) c_ => Zfx7 x1 x3 k x10_1 z_.1 z_.2.1 c_) (x12, x13, ())
 (fun (x12_2, x13_1, _) c => Qs [] [1, 3, 10, 12, 13] (fun z_ => Zfx5 x1 x3 x10_1 x12_2 x13_1 c)
 (Qs [(64, .bool)] [1, 3, 10, 12, 13] (fun z_ => Zfx6 x1 x3 k x10_1 x12_2 x13_1 c z_.1)
 Qz
 (fun (x64, _) => Qc (x64) (Zfx5 x1 x3 x10_1 x12_2 x13_1 c) (Zfx1 k x12_2) Qk Qx))
 (fun _ => Qs [(12, .slice)] [1, 3, 10, 13] (fun z_ => Zfx2 x13_1 c z_.1)
 (Qb (Qs [(80, .bool)] [1, 3, 10, 12, 13] (fun z_ => Zfx4 x1 x12_2 x13_1 c z_.1)
 (Qp [6])
 (fun (x80, _) => Qc (x80) (Zfx3 x1 x12_2 x13_1 c) (Zfx2 x13_1 c x12_2) Qz Qk)))
 (fun (x12_3, _) => Qz))))))
 (fun (x12_1, _) => Qs [(8, .slice)] [] (fun z_ => Zfx0 k z_.1)
 Qz
 (fun (x8, _) => Qr)))))))) h_
abbrev Zfy0 (k : (((Int × Int) × Int) → K)) (x4 : Addr) (x5 : Int) : K :=
 ldI .i64 (x4.add 0) fun x4_0 =>
 ldI .i64 (x4.add 1) fun x4_1 =>
 k ((x4_0, x4_1), x5)
abbrev Zfy1 (k : (((Int × Int) × Int) → K)) (x4 : Addr) (o : Addr) : K :=
 ldI .i64 (o.add 0) fun x38_0 =>
 ldI .i64 (o.add 1) fun x38_1 =>
 stK (x4.add 0) (.int .i64 x38_0) <|
 stK (x4.add 1) (.int .i64 x38_1) <|
 Zfy0 k x4 0
abbrev Zfy2 (k : (((Int × Int) × Int) → K)) (x4 : Addr) (x5_1 : Int) : K :=
 ldI .i64 (x4.add 0) fun x4_0_1 =>
 ldI .i64 (x4.add 1) fun x4_1_1 =>
 k ((x4_0_1, x4_1_1), x5_1)
abbrev Zfy3 (k : (((Int × Int) × Int) → K)) (x4 : Addr) : K :=
 stK (x4.add 0) (.int .i64 0) <|
 stK (x4.add 1) (.int .i64 0) <|
 Zfy2 k x4 26
abbrev Zfy4 (k : (((Int × Int) × Int) → K)) (x4 : Addr) (o : Addr) (x36 : Bool) : K :=
 brK x36
 (Zfy3 k x4)
 (Zfy1 k x4 o)
abbrev Zfy5 (at_1 : Int) (w_1 : Int) (k : (((Int × Int) × Int) → K)) (x4 : Addr) (o : Addr) : K :=
 ldI .i64 (o.add 0) fun x27_0 =>
 ldI .i64 (o.add 1) fun x27_1 =>
 Yft (x27_0, x27_1) fun x28 =>
 brK (x28 == 0)
 (Zfy4 k x4 o true)
 (ldI .i64 (o.add 0) fun x31_0 =>
 ldI .i64 (o.add 1) fun x31_1 =>
 Yho (x31_0, x31_1) at_1 fun x33 =>
 Zfy4 k x4 o (x33 != w_1))
abbrev Zfy6 (at_1 : Int) (w_1 : Int) (k : (((Int × Int) × Int) → K)) (x4 : Addr) (n : Int) : K :=
 alK (.cells #[.int .i64 0, .int .i64 0] 74) fun b =>
 stK (Addr.add ⟨b, 0, none⟩ 0) (.int .i64 (IntKind.wrap .i64 (Int.tmod (IntKind.wrap .u32 (Int.tdiv n 256)) 64))) <|
 stK (Addr.add ⟨b, 0, none⟩ 1) (.int .i64 (IntKind.wrap .i64 (Int.tmod (IntKind.wrap .u32 (Int.tdiv n 16384)) 32768))) <|
 Zfy5 at_1 w_1 k x4 ⟨b, 0, none⟩
abbrev Zfy7 (k : (((Int × Int) × Int) → K)) (x4 : Addr) (x5_2 : Int) : K :=
 ldI .i64 (x4.add 0) fun x4_0_2 =>
 ldI .i64 (x4.add 1) fun x4_1_2 =>
 k ((x4_0_2, x4_1_2), x5_2)
abbrev Zfy8 (k : (((Int × Int) × Int) → K)) (x4 : Addr) : K :=
 stK (x4.add 0) (.int .i64 0) <|
 stK (x4.add 1) (.int .i64 0) <|
 Zfy7 k x4 25
abbrev Zfy9 (at_1 : Int) (w_1 : Int) (k : (((Int × Int) × Int) → K)) (x4 : Addr) (n : Int) (x16 : Bool) : K :=
 brK x16
 (Zfy8 k x4)
 (Zfy6 at_1 w_1 k x4 n)
abbrev Zfy10 (at_1 : Int) (w_1 : Int) (k : (((Int × Int) × Int) → K)) (x4 : Addr) (n : Int) (ok : Bool) : K :=
 Zfy9 at_1 w_1 k x4 n (!ok)
abbrev Zfy11 (at_1 : Int) (w_1 : Int) (k : (((Int × Int) × Int) → K)) (x4 : Addr) : K :=
 Ykj w_1 at_1 fun x12 =>
 Zfy10 at_1 w_1 k x4 x12.1 x12.2
abbrev Yqe (at_1 : Int) (w_1 : Int) : M ((Int × Int) × Int) := fun k =>
 alK (.cells #[.int .i64 0, .int .i64 0] 74) fun b_1 =>
 Zfy11 at_1 w_1 k ⟨b_1, 0, none⟩
theorem Yse (at_1 : Int) (w_1 : Int) (k : ((Int × Int) × Int) → K) (w : World) (h_ : Yqe at_1 w_1 k w) : Yhn at_1 w_1 k w :=
 Yae (P := Tryz.prog) Tryz.func170 rfl (by kernel_rfl)
 (Qs [(4, .addr)] [0, 1] (fun z_ => Zfy11 at_1 w_1 k z_.1)
 Qz
 (fun (x4, _) => Qs [(6, .int .u32), (7, .bool)] [0, 1, 4] (fun z_ => Zfy10 at_1 w_1 k x4 z_.1 z_.2.1)
 Qz
 (fun (n, ok, _) => Qs [] [0, 1, 4, 6] (fun z_ => Zfy6 at_1 w_1 k x4 n)
 (Qs [(16, .bool)] [0, 1, 4, 6] (fun z_ => Zfy9 at_1 w_1 k x4 n z_.1)
 Qz
 (fun (x16, _) => Qc (x16) (Zfy8 k x4) (Zfy6 at_1 w_1 k x4 n) (Qs [(5, .int .i64)] [4] (fun z_ => Zfy7 k x4 z_.1)
 Qz
 (fun (x5_2, _) => Qr)) Qk))
 (fun _ => Qs [(8, .addr)] [0, 1, 4] (fun z_ => Zfy5 at_1 w_1 k x4 z_.1)
 Qz
 (fun (o, _) => Qs [] [4, 8] (fun z_ => Zfy1 k x4 o)
 (Qs [(36, .bool)] [4, 8] (fun z_ => Zfy4 k x4 o z_.1)
 (Qp [3])
 (fun (x36, _) => Qc (x36) (Zfy3 k x4) (Zfy1 k x4 o) (Qs [(5, .int .i64)] [4] (fun z_ => Zfy2 k x4 z_.1)
 Qz
 (fun (x5_1, _) => Qr)) Qk))
 (fun _ => Qs [(5, .int .i64)] [4] (fun z_ => Zfy0 k x4 z_.1)
 Qz
 (fun (x5, _) => Qr))))))) h_
abbrev Zfz0 (k : (Int → K)) (x4 : Int) : K :=
 k x4
abbrev Zfz1 (l : Sl) (at_1 : Int) (k : (Int → K)) : K :=
 ixS l.p l.n (IntKind.wrap .i64 (Int.tdiv at_1 8)) 8 fun x19 =>
 ixA x19 8 (Int.tmod at_1 8) 1 fun x20 =>
 ldI .u64 x20 fun x21 =>
 Zfz0 k x21
abbrev Zfz2 (k : (Int → K)) (x4_1 : Int) : K :=
 k x4_1
abbrev Zfz3 (l : Sl) (at_1 : Int) (k : (Int → K)) (x13 : Bool) : K :=
 brK x13
 (Zfz2 k 0)
 (Zfz1 l at_1 k)
abbrev Zfz4 (l : Sl) (at_1 : Int) (k : (Int → K)) : K :=
 brK (decide (at_1 < 0))
 (Zfz3 l at_1 k true)
 (Zfz3 l at_1 k (decide (at_1 ≥ (IntKind.wrap .i64 (8 * ((l.n : Nat) : Int))))))
abbrev Ysf (l : Sl) (at_1 : Int) : M Int := fun k =>
 Zfz4 l at_1 k
theorem Yx6 (l : Sl) (at_1 : Int) (k : Int → K) (w : World) (h_ : Ysf l at_1 k w) : Yiu l at_1 k w :=
 Yae (P := Tryz.prog) Tryz.func171 rfl (by kernel_rfl)
 (Qs [] [0, 1] (fun z_ => Zfz4 l at_1 k)
 Qz
 (fun _ => Qs [] [0, 1] (fun z_ => Zfz1 l at_1 k)
 (Qs [(13, .bool)] [0, 1] (fun z_ => Zfz3 l at_1 k z_.1)
 (Qp [2])
 (fun (x13, _) => Qc (x13) (Zfz2 k 0) (Zfz1 l at_1 k) (Qs [(4, .int .u64)] [] (fun z_ => Zfz2 k z_.1)
 Qz
 (fun (x4_1, _) => Qr)) Qk))
 (fun _ => Qs [(4, .int .u64)] [] (fun z_ => Zfz0 k z_.1)
 Qz
 (fun (x4, _) => Qr)))) h_
abbrev Zga0 (k : (Bool → K)) (x4 : Bool) : K :=
 k x4
abbrev Zga1 (k : (Bool → K)) (x4_1 : Bool) : K :=
 k x4_1
abbrev Zga2 (k : (Bool → K)) (i_1 : Int) (c : ((Int × Unit) → K)) (x17 : Bool) : K :=
 brK x17
 (Zga1 k true)
 (c ((IntKind.wrap .i64 (i_1 + 1)), ()))
abbrev Zga3 (l : Sl) (at_1 : Int) (k : (Bool → K)) (i_1 : Int) (c : ((Int × Unit) → K)) : K :=
 ixS l.p l.n i_1 1 fun x14 =>
 ldI .i64 x14 fun x15 =>
 Zga2 k i_1 c (x15 == at_1)
abbrev Zga4 (l : Sl) (at_1 : Int) (k : (Bool → K)) (i_1 : Int) (c : ((Int × Unit) → K)) (x9 : Bool) : K :=
 brK x9
 (Zga3 l at_1 k i_1 c)
 (Zga0 k false)
abbrev Zga5 (l : Sl) (at_1 : Int) (k : (Bool → K)) (i_1 : Int) (c : ((Int × Unit) → K)) : K :=
 Zga4 l at_1 k i_1 c (decide (i_1 < ((l.n : Nat) : Int)))
abbrev Zga6 (l : Sl) (at_1 : Int) (k : (Bool → K)) (i : Int) : K :=
 lp (fun (z_ : (Int × Unit)) c_ => Zga5 l at_1 k z_.1 c_) (i, ())
abbrev Yul (l : Sl) (at_1 : Int) : M Bool := fun k =>
 Zga6 l at_1 k 0
theorem Yv5 (l : Sl) (at_1 : Int) (k : Bool → K) (w : World) (h_ : Yul l at_1 k w) : Ydv l at_1 k w :=
 Yae (P := Tryz.prog) Tryz.func190 rfl (by kernel_rfl)
 (Qs [] [0, 1] (fun z_ => Zga6 l at_1 k 0)
 Qz
 (fun _ => Qs [] [] (fun z_ => Zga0 k false)
 (Qs [(5, .int .i64)] [0, 1] (fun z_ => Zga6 l at_1 k z_.1)
 Qz
 (fun (i, _) => Qb (Ql [(5, .int .i64)] [0, 1] (fun (z_ : (Int × Unit)) c_ => Zga5 l at_1 k z_.1 c_) (i, ())
 (fun (i_1, _) c => Qs [] [0, 1, 5] (fun z_ => Zga3 l at_1 k i_1 c)
 (Qs [(9, .bool)] [0, 1, 5] (fun z_ => Zga4 l at_1 k i_1 c z_.1)
 Qz
 (fun (x9, _) => Qc (x9) (Zga3 l at_1 k i_1 c) (Zga0 k false) Qk Qx))
 (fun _ => Qs [] [0, 1, 5] (fun z_ => c ((IntKind.wrap .i64 (i_1 + 1)), ()))
 (Qb (Qs [(17, .bool)] [0, 1, 5] (fun z_ => Zga2 k i_1 c z_.1)
 Qz
 (fun (x17, _) => Qc (x17) (Zga1 k true) (c ((IntKind.wrap .i64 (i_1 + 1)), ())) (Qs [(4, .bool)] [] (fun z_ => Zga1 k z_.1)
 Qz
 (fun (x4_1, _) => Qr)) Qk)))
 (fun _ => Qz))))))
 (fun _ => Qs [(4, .bool)] [] (fun z_ => Zga0 k z_.1)
 Qz
 (fun (x4, _) => Qr)))) h_
abbrev Zgb0 (k : (Sl → K)) (x4 : Sl) : K :=
 k x4
abbrev Zgb1 (k : (Sl → K)) (out_1 : Sl) : K :=
 Zgb0 k out_1
abbrev Zgb2 (i_1 : Int) (c : ((Sl × Int × Unit) → K)) (out_3 : Sl) : K :=
 c (out_3, (IntKind.wrap .i64 (i_1 + 1)), ())
abbrev Zgb3 (at_1 : Int) (d_1 : Addr) (out_2 : Sl) (i_1 : Int) (c : ((Sl × Int × Unit) → K)) : K :=
 ldS (d_1.add 0) fun x26 =>
 Yiu x26 (IntKind.wrap .i64 ((IntKind.wrap .i64 (at_1 + 1)) + i_1)) fun x31 =>
 Ymv x31 fun x32 =>
 alK (.cells #[.int .i64 x32] 3) fun b =>
 semT Tryz.prog (Builtin.append_ #[27, 27] 27 #[out_2.v, .slice (some ⟨b, 0, none⟩) 1 1]) (.one (.sc (.slice))) fun x34 =>
 Zgb2 i_1 c x34
abbrev Zgb4 (at_1 : Int) (k : (Sl → K)) (d_1 : Addr) (out_2 : Sl) (i_1 : Int) (c : ((Sl × Int × Unit) → K)) (x21 : Bool) : K :=
 brK x21
 (Zgb3 at_1 d_1 out_2 i_1 c)
 (Zgb1 k out_2)
abbrev Zgb5 (at_1 : Int) (k : (Sl → K)) (d_1 : Addr) (o : Addr) (ok : Bool) (out_2 : Sl) (i_1 : Int) (c : ((Sl × Int × Unit) → K)) : K :=
 brK ok
 (ldI .i64 (o.add 0) fun x19 =>
 Zgb4 at_1 k d_1 out_2 i_1 c (decide (i_1 < x19)))
 (Zgb4 at_1 k d_1 out_2 i_1 c false)
abbrev Zgb6 (at_1 : Int) (k : (Sl → K)) (d_1 : Addr) (o : Addr) (ok : Bool) (out : Sl) (i : Int) : K :=
 lp (fun (z_ : (Sl × Int × Unit)) c_ => Zgb5 at_1 k d_1 o ok z_.1 z_.2.1 c_) (out, i, ())
abbrev Zgb7 (at_1 : Int) (k : (Sl → K)) (d_1 : Addr) (o : Addr) (ok : Bool) (out : Sl) : K :=
 Zgb6 at_1 k d_1 o ok out 0
abbrev Zgb8 (at_1 : Int) (k : (Sl → K)) (d_1 : Addr) (o : Addr) (ok : Bool) : K :=
 Zgb7 at_1 k d_1 o ok ⟨none, 0, 0⟩
abbrev Zgb9 (at_1 : Int) (k : (Sl → K)) (d_1 : Addr) : K :=
 ldS (d_1.add 0) fun x10_0 =>
 ldS (d_1.add 1) fun x10_1 =>
 ldS (d_1.add 2) fun x10_2 =>
 ldS (d_1.add 3) fun x10_3 =>
 ldS (d_1.add 4) fun x10_4 =>
 ldI .i64 (d_1.add 5) fun x10_5 =>
 ldI .i64 (d_1.add 6) fun x10_6 =>
 ldB (d_1.add 7) fun x10_7 =>
 Ykc (x10_0, (x10_1, (x10_2, (x10_3, (x10_4, (x10_5, (x10_6, x10_7))))))) at_1 fun x12 =>
 alK (.cells #[.int .i64 0, .int .i64 0] 74) fun b_1 =>
 stK (Addr.add ⟨b_1, 0, none⟩ 0) (.int .i64 x12.1.1) <|
 stK (Addr.add ⟨b_1, 0, none⟩ 1) (.int .i64 x12.1.2) <|
 Zgb8 at_1 k d_1 ⟨b_1, 0, none⟩ x12.2
abbrev Yum (d : (Sl × (Sl × (Sl × (Sl × (Sl × (Int × (Int × Bool)))))))) (at_1 : Int) : M Sl := fun k =>
 alK (.cells #[d.1.v, d.2.1.v, d.2.2.1.v, d.2.2.2.1.v, d.2.2.2.2.1.v, .int .i64 d.2.2.2.2.2.1, .int .i64 d.2.2.2.2.2.2.1, .bool d.2.2.2.2.2.2.2] 103) fun b_2 =>
 Zgb9 at_1 k ⟨b_2, 0, none⟩
theorem Yv6 (d : (Sl × (Sl × (Sl × (Sl × (Sl × (Int × (Int × Bool)))))))) (at_1 : Int) (k : Sl → K) (w : World) (h_ : Yum d at_1 k w) : Ykh d at_1 k w :=
 Yae (P := Tryz.prog) Tryz.func191 rfl (by kernel_rfl)
 (Qs [(2, .addr)] [1] (fun z_ => Zgb9 at_1 k z_.1)
 Qz
 (fun (d_1, _) => Qs [(5, .addr), (6, .bool)] [1, 2] (fun z_ => Zgb8 at_1 k d_1 z_.1 z_.2.1)
 Qz
 (fun (o, ok, _) => Qs [(7, .slice)] [1, 2, 5, 6] (fun z_ => Zgb7 at_1 k d_1 o ok z_.1)
 Qz
 (fun (out, _) => Qs [(7, .slice)] [] (fun z_ => Zgb1 k z_.1)
 (Qs [(8, .int .i64)] [1, 2, 5, 6, 7] (fun z_ => Zgb6 at_1 k d_1 o ok out z_.1)
 Qz
 (fun (i, _) => Qb (Ql [(7, .slice), (8, .int .i64)] [1, 2, 5, 6] (fun (z_ : (Sl × Int × Unit)) c_ => Zgb5 at_1 k d_1 o ok z_.1 z_.2.1 c_) (out, i, ())
 (fun (out_2, i_1, _) c => Qs [] [1, 2, 5, 6, 7, 8] (fun z_ => Zgb3 at_1 d_1 out_2 i_1 c)
 (Qs [(21, .bool)] [1, 2, 5, 6, 7, 8] (fun z_ => Zgb4 at_1 k d_1 out_2 i_1 c z_.1)
 (Qp [1])
 (fun (x21, _) => Qc (x21) (Zgb3 at_1 d_1 out_2 i_1 c) (Zgb1 k out_2) Qk Qx))
 (fun _ => Qs [(7, .slice)] [1, 2, 5, 6, 8] (fun z_ => Zgb2 i_1 c z_.1)
 (Qb Qz)
 (fun (out_3, _) => Qz))))))
 (fun (out_1, _) => Qs [(4, .slice)] [] (fun z_ => Zgb0 k z_.1)
 Qz
 (fun (x4, _) => Qr)))))) h_
abbrev Zgc0 (k : ((Int × Bool) → K)) (x4 : Int) (x5 : Bool) : K :=
 k (x4, x5)
abbrev Zgc1 (k : ((Int × Bool) → K)) (x4_1 : Int) (x5_1 : Bool) : K :=
 k (x4_1, x5_1)
abbrev Zgc2 (k : ((Int × Bool) → K)) (n : Int) (x14 : Bool) : K :=
 brK x14
 (Zgc1 k n true)
 (Zgc0 k 0 false)
abbrev Zgc3 (w_1 : Int) (place : Int) (k : ((Int × Bool) → K)) (n : Int) : K :=
 Yhc n place fun x12 =>
 Zgc2 k n (x12 == w_1)
abbrev Yun (w_1 : Int) (place : Int) : M (Int × Bool) := fun k =>
 Zgc3 w_1 place k (IntKind.wrap .u32 (Int.tmod w_1 4294967296))
theorem Yv7 (w_1 : Int) (place : Int) (k : (Int × Bool) → K) (w : World) (h_ : Yun w_1 place k w) : Ykj w_1 place k w :=
 Yae (P := Tryz.prog) Tryz.func214 rfl (by kernel_rfl)
 (Qs [] [0, 1] (fun z_ => Zgc3 w_1 place k (IntKind.wrap .u32 (Int.tmod w_1 4294967296)))
 Qz
 (fun _ => Qs [(6, .int .u32)] [0, 1] (fun z_ => Zgc3 w_1 place k z_.1)
 Qz
 (fun (n, _) => Qs [] [] (fun z_ => Zgc0 k 0 false)
 (Qs [(14, .bool)] [6] (fun z_ => Zgc2 k n z_.1)
 Qz
 (fun (x14, _) => Qc (x14) (Zgc1 k n true) (Zgc0 k 0 false) (Qs [(4, .int .u32), (5, .bool)] [] (fun z_ => Zgc1 k z_.1 z_.2.1)
 Qz
 (fun (x4_1, x5_1, _) => Qr)) Qk))
 (fun _ => Qs [(4, .int .u32), (5, .bool)] [] (fun z_ => Zgc0 k z_.1 z_.2.1)
 Qz
 (fun (x4, x5, _) => Qr))))) h_
abbrev Zgd0 (k : (Int → K)) (x4 : Int) : K :=
 k x4
abbrev Zgd1 (at_1 : Int) (k : (Int → K)) (o_1 : Addr) : K :=
 ldI .i64 (o_1.add 0) fun x9 =>
 ldI .i64 (o_1.add 1) fun x13 =>
 Yhc (IntKind.wrap .u32 (IntKind.wrap .i64 ((IntKind.wrap .i64 (165 + (IntKind.wrap .i64 (256 * x9)))) + (IntKind.wrap .i64 (16384 * x13))))) at_1 fun x18 =>
 Zgd0 k x18
abbrev Zgd2 (k : (Int → K)) (x4_1 : Int) : K :=
 k x4_1
abbrev Zgd3 (at_1 : Int) (k : (Int → K)) (o_1 : Addr) (x7 : Bool) : K :=
 brK x7
 (Zgd2 k 0)
 (Zgd1 at_1 k o_1)
abbrev Zgd4 (at_1 : Int) (k : (Int → K)) (o_1 : Addr) : K :=
 ldI .i64 (o_1.add 0) fun x5_0 =>
 ldI .i64 (o_1.add 1) fun x5_1 =>
 Yft (x5_0, x5_1) fun x6 =>
 Zgd3 at_1 k o_1 (x6 == 0)
abbrev Yqf (o : (Int × Int)) (at_1 : Int) : M Int := fun k =>
 alK (.cells #[.int .i64 o.1, .int .i64 o.2] 74) fun b =>
 Zgd4 at_1 k ⟨b, 0, none⟩
theorem Ysg (o : (Int × Int)) (at_1 : Int) (k : Int → K) (w : World) (h_ : Yqf o at_1 k w) : Yho o at_1 k w :=
 Yae (P := Tryz.prog) Tryz.func215 rfl (by kernel_rfl)
 (Qs [(2, .addr)] [1] (fun z_ => Zgd4 at_1 k z_.1)
 Qz
 (fun (o_1, _) => Qs [] [1, 2] (fun z_ => Zgd1 at_1 k o_1)
 (Qs [(7, .bool)] [1, 2] (fun z_ => Zgd3 at_1 k o_1 z_.1)
 Qz
 (fun (x7, _) => Qc (x7) (Zgd2 k 0) (Zgd1 at_1 k o_1) (Qs [(4, .int .u64)] [] (fun z_ => Zgd2 k z_.1)
 Qz
 (fun (x4_1, _) => Qr)) Qk))
 (fun _ => Qs [(4, .int .u64)] [] (fun z_ => Zgd0 k z_.1)
 Qz
 (fun (x4, _) => Qr)))) h_
abbrev Zge0 (k : (Int → K)) (x2 : Int) : K :=
 k x2
abbrev Zge1 (k : (Int → K)) (x2_1 : Int) : K :=
 k x2_1
abbrev Zge2 (w_1 : Int) (k : (Int → K)) (x4 : Bool) : K :=
 brK x4
 (Zge1 k 1099511627776)
 (Zge0 k (IntKind.wrap .i64 w_1))
abbrev Yx7 (w_1 : Int) : M Int := fun k =>
 Zge2 w_1 k (decide (w_1 > 1099511627776))
theorem Yx8 (w_1 : Int) (k : Int → K) (w : World) (h_ : Yx7 w_1 k w) : Ymv w_1 k w :=
 Yae (P := Tryz.prog) Tryz.func224 rfl (by kernel_rfl)
 (Qs [] [0] (fun z_ => Zge2 w_1 k (decide (w_1 > 1099511627776)))
 Qz
 (fun _ => Qs [] [0] (fun z_ => Zge0 k (IntKind.wrap .i64 w_1))
 (Qs [(4, .bool)] [0] (fun z_ => Zge2 w_1 k z_.1)
 Qz
 (fun (x4, _) => Qc (x4) (Zge1 k 1099511627776) (Zge0 k (IntKind.wrap .i64 w_1)) (Qs [(2, .int .i64)] [] (fun z_ => Zge1 k z_.1)
 Qz
 (fun (x2_1, _) => Qr)) Qk))
 (fun _ => Qs [(2, .int .i64)] [] (fun z_ => Zge0 k z_.1)
 Qz
 (fun (x2, _) => Qr)))) h_
abbrev Zgf0 (k : (Int → K)) (x4 : Int) : K :=
 k x4
abbrev Zgf1 (n : Int) (place : Int) (k : (Int → K)) : K :=
 alK (.cells #[.int .u64 (IntKind.wrap .u64 n), .int .u64 (IntKind.wrap .u64 place)] 109) fun b =>
 Yny ⟨(some ⟨b, 0, none⟩), 2, 2⟩ fun x10 =>
 Zgf0 k (IntKind.wrap .u64 ((IntKind.wrap .u64 ((IntKind.wrap .u64 x10) * 4294967296)) + (IntKind.wrap .u64 n)))
abbrev Yuo (n : Int) (place : Int) : M Int := fun k =>
 Zgf1 n place k
theorem Yv8 (n : Int) (place : Int) (k : Int → K) (w : World) (h_ : Yuo n place k w) : Yhc n place k w :=
 Yae (P := Tryz.prog) Tryz.func232 rfl (by kernel_rfl)
 (Qs [] [0, 1] (fun z_ => Zgf1 n place k)
 Qz
 (fun _ => Qs [(4, .int .u64)] [] (fun z_ => Zgf0 k z_.1)
 Qz
 (fun (x4, _) => Qr))) h_
abbrev Zgg0 (k : (Int → K)) (x2 : Int) : K :=
 k x2
abbrev Zgg1 (l : Sl) (k : (Int → K)) : K :=
 Yi0 l fun x4 =>
 Ykm 0 x4 fun x5 =>
 Zgg0 k x5
abbrev Ysh (l : Sl) : M Int := fun k =>
 Zgg1 l k
theorem Yto (l : Sl) (k : Int → K) (w : World) (h_ : Ysh l k w) : Yny l k w :=
 Yae (P := Tryz.prog) Tryz.func257 rfl (by kernel_rfl)
 (Qs [] [0] (fun z_ => Zgg1 l k)
 Qz
 (fun _ => Qs [(2, .int .u32)] [] (fun z_ => Zgg0 k z_.1)
 Qz
 (fun (x2, _) => Qr))) h_
abbrev Zgh0 (k : (Int → K)) (x4 : Int) : K :=
 k x4
abbrev Zgh1 (k : (Int → K)) (s_1 : Int) : K :=
 Zgh0 k (IntKind.wrap .u32 (4294967295 - s_1))
abbrev Zgh2 (i_1 : Int) (c : ((Int × Int × Unit) → K)) (s_3 : Int) : K :=
 c (s_3, (IntKind.wrap .i64 (i_1 + 1)), ())
abbrev Zgh3 (k_2 : Int) (c_1 : ((Int × Int × Unit) → K)) (s_6 : Int) : K :=
 c_1 (s_6, (IntKind.wrap .i64 (k_2 + 1)), ())
abbrev Zgh4 (k_2 : Int) (c_1 : ((Int × Int × Unit) → K)) (s_7 : Int) (x33 : Bool) : K :=
 brK x33
 (Zgh3 k_2 c_1 (bitI .xor .u32 s_7 3988292384))
 (Zgh3 k_2 c_1 s_7)
abbrev Zgh5 (k_2 : Int) (c_1 : ((Int × Int × Unit) → K)) (low : Int) (s_7 : Int) : K :=
 Zgh4 k_2 c_1 s_7 (low == 1)
abbrev Zgh6 (s_5 : Int) (k_2 : Int) (c_1 : ((Int × Int × Unit) → K)) (low : Int) : K :=
 Zgh5 k_2 c_1 low (IntKind.wrap .u32 (Int.tdiv s_5 2))
abbrev Zgh7 (i_1 : Int) (c : ((Int × Int × Unit) → K)) (s_5 : Int) (k_2 : Int) (c_1 : ((Int × Int × Unit) → K)) (x25 : Bool) : K :=
 brK x25
 (Zgh6 s_5 k_2 c_1 (Int.tmod s_5 2))
 (Zgh2 i_1 c s_5)
abbrev Zgh8 (i_1 : Int) (c : ((Int × Int × Unit) → K)) (s_5 : Int) (k_2 : Int) (c_1 : ((Int × Int × Unit) → K)) : K :=
 Zgh7 i_1 c s_5 k_2 c_1 (decide (k_2 < 8))
abbrev Zgh9 (i_1 : Int) (c : ((Int × Int × Unit) → K)) (s_4 : Int) (k_1 : Int) : K :=
 lp (fun (z_ : (Int × Int × Unit)) c_ => Zgh8 i_1 c z_.1 z_.2.1 c_) (s_4, k_1, ())
abbrev Zgh10 (i_1 : Int) (c : ((Int × Int × Unit) → K)) (s_4 : Int) : K :=
 Zgh9 i_1 c s_4 0
abbrev Zgh11 (data : Sl) (s_2 : Int) (i_1 : Int) (c : ((Int × Int × Unit) → K)) : K :=
 ixS data.p data.n i_1 1 fun x20 =>
 ldI .u8 x20 fun x21 =>
 Zgh10 i_1 c (bitI .xor .u32 s_2 (IntKind.wrap .u32 x21))
abbrev Zgh12 (data : Sl) (k : (Int → K)) (s_2 : Int) (i_1 : Int) (c : ((Int × Int × Unit) → K)) (x14 : Bool) : K :=
 brK x14
 (Zgh11 data s_2 i_1 c)
 (Zgh1 k s_2)
abbrev Zgh13 (data : Sl) (k : (Int → K)) (s_2 : Int) (i_1 : Int) (c : ((Int × Int × Unit) → K)) : K :=
 Zgh12 data k s_2 i_1 c (decide (i_1 < ((data.n : Nat) : Int)))
abbrev Zgh14 (data : Sl) (k : (Int → K)) (s : Int) (i : Int) : K :=
 lp (fun (z_ : (Int × Int × Unit)) c_ => Zgh13 data k z_.1 z_.2.1 c_) (s, i, ())
abbrev Zgh15 (data : Sl) (k : (Int → K)) (s : Int) : K :=
 Zgh14 data k s 0
abbrev Yl0 (sum : Int) (data : Sl) : M Int := fun k =>
 Zgh15 data k (IntKind.wrap .u32 (4294967295 - sum))
theorem Yv9 (sum : Int) (data : Sl) (k : Int → K) (w : World) (h_ : Yl0 sum data k w) : Ykm sum data k w :=
 Yae (P := Tryz.prog) Tryz.func268 rfl (by kernel_rfl)
 (Qs [] [0, 1] (fun z_ => Zgh15 data k (IntKind.wrap .u32 (4294967295 - sum)))
 Qz
 (fun _ => Qs [(5, .int .u32)] [1] (fun z_ => Zgh15 data k z_.1)
 Qz
 (fun (s, _) => Qs [(5, .int .u32)] [] (fun z_ => Zgh1 k z_.1)
 (Qs [(6, .int .i64)] [1, 5] (fun z_ => Zgh14 data k s z_.1)
 Qz
 (fun (i, _) => Qb (Ql [(5, .int .u32), (6, .int .i64)] [1] (fun (z_ : (Int × Int × Unit)) c_ => Zgh13 data k z_.1 z_.2.1 c_) (s, i, ())
 (fun (s_2, i_1, _) c => Qs [] [1, 5, 6] (fun z_ => Zgh11 data s_2 i_1 c)
 (Qs [(14, .bool)] [1, 5, 6] (fun z_ => Zgh12 data k s_2 i_1 c z_.1)
 Qz
 (fun (x14, _) => Qc (x14) (Zgh11 data s_2 i_1 c) (Zgh1 k s_2) Qk Qx))
 (fun _ => Qs [(5, .int .u32)] [1, 6] (fun z_ => Zgh2 i_1 c z_.1)
 (Qb (Qs [(5, .int .u32)] [1, 6] (fun z_ => Zgh10 i_1 c z_.1)
 Qz
 (fun (s_4, _) => Qs [(7, .int .i64)] [1, 5, 6] (fun z_ => Zgh9 i_1 c s_4 z_.1)
 Qz
 (fun (k_1, _) => Qb (Ql [(5, .int .u32), (7, .int .i64)] [1, 6] (fun (z_ : (Int × Int × Unit)) c_ => Zgh8 i_1 c z_.1 z_.2.1 c_) (s_4, k_1, ())
 (fun (s_5, k_2, _) c_1 => Qs [] [1, 5, 6, 7] (fun z_ => Zgh6 s_5 k_2 c_1 (Int.tmod s_5 2))
 (Qs [(25, .bool)] [1, 5, 6, 7] (fun z_ => Zgh7 i_1 c s_5 k_2 c_1 z_.1)
 Qz
 (fun (x25, _) => Qc (x25) (Zgh6 s_5 k_2 c_1 (Int.tmod s_5 2)) (Zgh2 i_1 c s_5) Qk Qx))
 (fun _ => Qs [(5, .int .u32)] [1, 6, 7] (fun z_ => Zgh3 k_2 c_1 z_.1)
 (Qb (Qs [(8, .int .u32)] [1, 5, 6, 7] (fun z_ => Zgh6 s_5 k_2 c_1 z_.1)
 Qz
 (fun (low, _) => Qs [(5, .int .u32)] [1, 6, 7, 8] (fun z_ => Zgh5 k_2 c_1 low z_.1)
 Qz
 (fun (s_7, _) => Qs [(33, .bool)] [1, 5, 6, 7] (fun z_ => Zgh4 k_2 c_1 s_7 z_.1)
 Qz
 (fun (x33, _) => Qc (x33) (Zgh3 k_2 c_1 (bitI .xor .u32 s_7 3988292384)) (Zgh3 k_2 c_1 s_7) Qz Qk)))))
 (fun (s_6, _) => Qz))))))))
 (fun (s_3, _) => Qz))))))
 (fun (s_1, _) => Qs [(4, .int .u32)] [] (fun z_ => Zgh0 k z_.1)
 Qz
 (fun (x4, _) => Qr))))) h_
abbrev Zgi0 (k : (Sl → K)) (x2 : Sl) : K :=
 k x2
abbrev Zgi1 (k : (Sl → K)) (out_1 : Sl) : K :=
 Zgi0 k out_1
abbrev Zgi2 (i_1 : Int) (c : ((Sl × Int × Unit) → K)) (out_3 : Sl) : K :=
 c (out_3, (IntKind.wrap .i64 (i_1 + 1)), ())
abbrev Zgi3 (k_2 : Int) (c_1 : ((Sl × Int × Int × Unit) → K)) (out_5 : Sl) (w_3 : Int) : K :=
 c_1 (out_5, w_3, (IntKind.wrap .i64 (k_2 + 1)), ())
abbrev Zgi4 (w_2 : Int) (k_2 : Int) (c_1 : ((Sl × Int × Int × Unit) → K)) (out_6 : Sl) : K :=
 Zgi3 k_2 c_1 out_6 (IntKind.wrap .u64 (Int.tdiv w_2 256))
abbrev Zgi5 (out_4 : Sl) (w_2 : Int) (k_2 : Int) (c_1 : ((Sl × Int × Int × Unit) → K)) : K :=
 alK (.cells #[.int .u8 (IntKind.wrap .u8 (Int.tmod w_2 256))] 5) fun b =>
 semT Tryz.prog (Builtin.append_ #[60, 60] 60 #[out_4.v, .slice (some ⟨b, 0, none⟩) 1 1]) (.one (.sc (.slice))) fun x26 =>
 Zgi4 w_2 k_2 c_1 x26
abbrev Zgi6 (i_1 : Int) (c : ((Sl × Int × Unit) → K)) (out_4 : Sl) (w_2 : Int) (k_2 : Int) (c_1 : ((Sl × Int × Int × Unit) → K)) (x18 : Bool) : K :=
 brK x18
 (Zgi5 out_4 w_2 k_2 c_1)
 (Zgi2 i_1 c out_4)
abbrev Zgi7 (i_1 : Int) (c : ((Sl × Int × Unit) → K)) (out_4 : Sl) (w_2 : Int) (k_2 : Int) (c_1 : ((Sl × Int × Int × Unit) → K)) : K :=
 Zgi6 i_1 c out_4 w_2 k_2 c_1 (decide (k_2 < 8))
abbrev Zgi8 (out_2 : Sl) (i_1 : Int) (c : ((Sl × Int × Unit) → K)) (w_1 : Int) (k_1 : Int) : K :=
 lp (fun (z_ : (Sl × Int × Int × Unit)) c_ => Zgi7 i_1 c z_.1 z_.2.1 z_.2.2.1 c_) (out_2, w_1, k_1, ())
abbrev Zgi9 (out_2 : Sl) (i_1 : Int) (c : ((Sl × Int × Unit) → K)) (w_1 : Int) : K :=
 Zgi8 out_2 i_1 c w_1 0
abbrev Zgi10 (words : Sl) (out_2 : Sl) (i_1 : Int) (c : ((Sl × Int × Unit) → K)) : K :=
 ixS words.p words.n i_1 1 fun x15 =>
 ldI .u64 x15 fun x16 =>
 Zgi9 out_2 i_1 c x16
abbrev Zgi11 (words : Sl) (k : (Sl → K)) (out_2 : Sl) (i_1 : Int) (c : ((Sl × Int × Unit) → K)) (x10 : Bool) : K :=
 brK x10
 (Zgi10 words out_2 i_1 c)
 (Zgi1 k out_2)
abbrev Zgi12 (words : Sl) (k : (Sl → K)) (out_2 : Sl) (i_1 : Int) (c : ((Sl × Int × Unit) → K)) : K :=
 Zgi11 words k out_2 i_1 c (decide (i_1 < ((words.n : Nat) : Int)))
abbrev Zgi13 (words : Sl) (k : (Sl → K)) (out : Sl) (i : Int) : K :=
 lp (fun (z_ : (Sl × Int × Unit)) c_ => Zgi12 words k z_.1 z_.2.1 c_) (out, i, ())
abbrev Zgi14 (words : Sl) (k : (Sl → K)) (out : Sl) : K :=
 Zgi13 words k out 0
abbrev Ysi (words : Sl) : M Sl := fun k =>
 Zgi14 words k ⟨none, 0, 0⟩
theorem Ytp (words : Sl) (k : Sl → K) (w : World) (h_ : Ysi words k w) : Yi0 words k w :=
 Yae (P := Tryz.prog) Tryz.func269 rfl (by kernel_rfl)
 (Qs [] [0] (fun z_ => Zgi14 words k ⟨none, 0, 0⟩)
 Qz
 (fun _ => Qs [(3, .slice)] [0] (fun z_ => Zgi14 words k z_.1)
 Qz
 (fun (out, _) => Qs [(3, .slice)] [] (fun z_ => Zgi1 k z_.1)
 (Qs [(4, .int .i64)] [0, 3] (fun z_ => Zgi13 words k out z_.1)
 Qz
 (fun (i, _) => Qb (Ql [(3, .slice), (4, .int .i64)] [0] (fun (z_ : (Sl × Int × Unit)) c_ => Zgi12 words k z_.1 z_.2.1 c_) (out, i, ())
 (fun (out_2, i_1, _) c => Qs [] [0, 3, 4] (fun z_ => Zgi10 words out_2 i_1 c)
 (Qs [(10, .bool)] [0, 3, 4] (fun z_ => Zgi11 words k out_2 i_1 c z_.1)
 Qz
 (fun (x10, _) => Qc (x10) (Zgi10 words out_2 i_1 c) (Zgi1 k out_2) Qk Qx))
 (fun _ => Qs [(3, .slice)] [0, 4] (fun z_ => Zgi2 i_1 c z_.1)
 (Qb (Qs [(5, .int .u64)] [0, 3, 4] (fun z_ => Zgi9 out_2 i_1 c z_.1)
 Qz
 (fun (w_1, _) => Qs [(6, .int .i64)] [0, 3, 4, 5] (fun z_ => Zgi8 out_2 i_1 c w_1 z_.1)
 Qz
 (fun (k_1, _) => Qb (Ql [(3, .slice), (5, .int .u64), (6, .int .i64)] [0, 4] (fun (z_ : (Sl × Int × Int × Unit)) c_ => Zgi7 i_1 c z_.1 z_.2.1 z_.2.2.1 c_) (out_2, w_1, k_1, ())
 (fun (out_4, w_2, k_2, _) c_1 => Qs [] [0, 3, 4, 5, 6] (fun z_ => Zgi5 out_4 w_2 k_2 c_1)
 (Qs [(18, .bool)] [0, 3, 4, 5, 6] (fun z_ => Zgi6 i_1 c out_4 w_2 k_2 c_1 z_.1)
 Qz
 (fun (x18, _) => Qc (x18) (Zgi5 out_4 w_2 k_2 c_1) (Zgi2 i_1 c out_4) Qk Qx))
 (fun _ => Qs [(3, .slice), (5, .int .u64)] [0, 4, 6] (fun z_ => Zgi3 k_2 c_1 z_.1 z_.2.1)
 (Qb (Qs [(3, .slice)] [0, 4, 5, 6] (fun z_ => Zgi4 w_2 k_2 c_1 z_.1)
 Qz
 (fun (out_6, _) => Qz)))
 (fun (out_5, w_3, _) => Qz))))))))
 (fun (out_3, _) => Qz))))))
 (fun (out_1, _) => Qs [(2, .slice)] [] (fun z_ => Zgi0 k z_.1)
 Qz
 (fun (x2, _) => Qr))))) h_
end
def bitN (x : Nat) : Nat := x / 2 ^^^ (if x % 2 = 1 then 3988292384 else 0)
def tabL : List Nat := [0, 498536548, 997073096, 651767980, 1994146192, 1802195444, 1303535960, 1342533948, 3988292384, 4027552580, 3604390888, 3412177804, 2607071920, 2262029012, 2685067896, 3183342108]
def tabN (i : Nat) : Nat := tabL.getD i 0
theorem Yq5 (a b : Nat) : bitN (a ^^^ b) = bitN a ^^^ bitN b := by
 unfold bitN
 have h1 : (a ^^^ b) / 2 = a / 2 ^^^ b / 2 := by
  have := Nat.xor_div_two_pow (a := a) (b := b) (n := 1)
  simpa using this
 have h2 : (a ^^^ b) % 2 = (a % 2) ^^^ (b % 2) := by
  have := Nat.xor_mod_two_pow (a := a) (b := b) (n := 1)
  simpa using this
 rw [h1, h2]
 have ha : a % 2 = 0 ∨ a % 2 = 1 := by omega
 have hb : b % 2 = 0 ∨ b % 2 = 1 := by omega
 rcases ha with ha | ha <;> rcases hb with hb | hb <;> rw [ha, hb]
 ·simp
 ·simp [Nat.xor_assoc]
 ·have e : ((1 : Nat) ^^^ 0) = 1 := rfl
  rw [e]
  simp only [if_true, if_neg (show ¬ (0 : Nat) = 1 by omega), Nat.xor_zero]
  rw [Nat.xor_assoc, Nat.xor_comm (b / 2), ← Nat.xor_assoc]
 ·have e : ((1 : Nat) ^^^ 1) = 0 := rfl
  rw [e]
  simp only [if_true, if_neg (show ¬ (0 : Nat) = 1 by omega), Nat.xor_zero]
  rw [Nat.xor_assoc, Nat.xor_comm 3988292384, Nat.xor_assoc, Nat.xor_self, Nat.xor_zero]
theorem Yq6 (z : Nat) : bitN (2 * z) = z := by
 unfold bitN
 rw [Nat.mul_div_cancel_left _ (by omega), if_neg (by omega), Nat.xor_zero]
def bit4 (x : Nat) : Nat := bitN (bitN (bitN (bitN x)))
theorem Ve6 : ∀ i, i < 16 → bit4 i = tabN i := by decide +kernel
theorem split16 (x : Nat) : x = (16 * (x / 16)) ^^^ (x % 16) := by
 apply Nat.eq_of_testBit_eq
 intro j
 rw [Nat.testBit_xor]
 have h1 : (16 * (x / 16)).testBit j = (decide (4 ≤ j) && x.testBit j) := by
  rw [Nat.mul_comm, show (16 : Nat) = 2 ^ 4 from rfl, Nat.testBit_mul_two_pow, Nat.testBit_div_two_pow]
  by_cases h : 4 ≤ j
  ·rw [Nat.sub_add_cancel h]
  ·simp [h]
 have h2 : (x % 16).testBit j = (decide (j < 4) && x.testBit j) := by
  rw [show (16 : Nat) = 2 ^ 4 from rfl, Nat.testBit_mod_two_pow]
 rw [h1, h2]
 by_cases h : 4 ≤ j
 ·rw [decide_eq_true h, decide_eq_false (by omega : ¬ j < 4)]; simp
 ·rw [decide_eq_false h, decide_eq_true (by omega : j < 4)]; simp
theorem Vda (x : Nat) : bit4 x = x / 16 ^^^ tabN (x % 16) := by
 have h : ∀ a b, bit4 (a ^^^ b) = bit4 a ^^^ bit4 b := fun a b => by unfold bit4; rw [Yq5, Yq5, Yq5, Yq5]
 have h2 : bit4 (16 * (x / 16)) = x / 16 := by
  unfold bit4
  rw [show 16 * (x / 16) = 2 * (2 * (2 * (2 * (x / 16)))) by omega, Yq6, Yq6, Yq6, Yq6]
 have h3 := Ve6 (x % 16) (Nat.mod_lt _ (by omega))
 have h4 : bit4 x = bit4 ((16 * (x / 16)) ^^^ (x % 16)) := by rw [← split16]
 rw [h4, h, h2, h3]
/-- one byte by the table -/
def tabB (s b : Nat) : Nat := tabN (((tabN ((s % 256 ^^^ b) % 16) ^^^ s / 16) % 256 ^^^ b / 16) % 16) ^^^ (tabN ((s % 256 ^^^ b) % 16) ^^^ s / 16) / 16
theorem Yqg (a b : Nat) : (a % 256 ^^^ b) % 16 = (a ^^^ b) % 16 := by
 have h1 := Nat.xor_mod_two_pow (a := a % 256) (b := b) (n := 4)
 have h2 := Nat.xor_mod_two_pow (a := a) (b := b) (n := 4)
 rw [show (2 : Nat) ^ 4 = 16 from rfl] at h1 h2
 rw [h1, h2, Nat.mod_mod_of_dvd _ (by decide)]
theorem Vgx {s b : Nat} (hb : b < 256) : tabB s b = bit4 (bit4 (s ^^^ b)) := by
 unfold tabB
 rw [Yqg, Yqg]
 have hd : ∀ a c : Nat, (a ^^^ c) / 16 = a / 16 ^^^ c / 16 := fun a c => by
  have := Nat.xor_div_two_pow (a := a) (b := c) (n := 4)
  rwa [show (2 : Nat) ^ 4 = 16 from rfl] at this
 have e1 : bit4 (s ^^^ b) = (tabN ((s ^^^ b) % 16) ^^^ s / 16) ^^^ b / 16 := by
  rw [Vda, hd, Nat.xor_comm (tabN _), Nat.xor_assoc, Nat.xor_comm (b / 16), ← Nat.xor_assoc]
 rw [e1]
 generalize tabN ((s ^^^ b) % 16) ^^^ s / 16 = s'
 rw [Vda, hd, show b / 16 / 16 = 0 by omega, Nat.xor_zero, Nat.xor_comm]
theorem Ysj {x : Nat} (h : x < 2 ^ 32) : bitN x < 2 ^ 32 := by
 unfold bitN
 refine Nat.xor_lt_two_pow (by omega) ?_
 split <;> decide
section
set_option maxRecDepth 100000
abbrev Zgj0 (k : (Bool → K)) (x6 : Bool) : K :=
 k x6
abbrev Zgj1 (k : (Bool → K)) (x7 : Addr) (x12 : Sl) : K :=
 ldP (Addr.add (x7.add 0) 0) fun x121 =>
 Yan x121 fun x122 =>
 Yj9 x122 x12 fun x124 =>
 Zgj0 k x124
abbrev Zgj2 (k : (Bool → K)) (x6_1 : Bool) : K :=
 k x6_1
abbrev Zgj3 (k : (Bool → K)) (x13_1 : Int) (c : ((Int × Unit) → K)) (x118 : Bool) : K :=
 brK x118
 (Zgj2 k false)
 (c ((IntKind.wrap .i64 (x13_1 + 1)), ()))
abbrev Zgj4 (k : (Bool → K)) (x13_1 : Int) (c : ((Int × Unit) → K)) (x14 : Bool) (x15 : Int) : K :=
 brK (!x14)
 (Zgj3 k x13_1 c true)
 (Zgj3 k x13_1 c (x15 != 0))
abbrev Zgj5 (k : (Bool → K)) (x7 : Addr) (x13_1 : Int) (c : ((Int × Unit) → K)) : K :=
 tick fun _ =>
 ldP (x7.add 3) fun x106 =>
 ldP (x7.add 3) fun x108 =>
 Yc9 x108 fun x109 =>
 chk [.cell (x7.add 3) (.pointer x106)] fun _ =>
 Ya9 x106 x109 fun x110 =>
 Zgj4 k x13_1 c x110.1 x110.2
abbrev Zgj6 (k : (Bool → K)) (x7 : Addr) (x12 : Sl) (x13_1 : Int) (c : ((Int × Unit) → K)) (x101 : Bool) : K :=
 brK x101
 (Zgj5 k x7 x13_1 c)
 (Zgj1 k x7 x12)
abbrev Zgj7 (k : (Bool → K)) (x7 : Addr) (x12 : Sl) (x13_1 : Int) (c : ((Int × Unit) → K)) : K :=
 Zgj6 k x7 x12 x13_1 c (decide (x13_1 < 2))
abbrev Zgj8 (k : (Bool → K)) (x7 : Addr) (x12 : Sl) (x13 : Int) : K :=
 lp (fun (z_ : (Int × Unit)) c_ => Zgj7 k x7 x12 z_.1 c_) (x13, ())
abbrev Zgj9 (k : (Bool → K)) (x7 : Addr) (x12 : Sl) : K :=
 Zgj8 k x7 x12 0
abbrev Zgj10 (k : (Bool → K)) (x7 : Addr) : K :=
 ldP (x7.add 0) fun x98_0 =>
 ldP (x7.add 1) fun x98_1 =>
 ldS (x7.add 2) fun x98_2 =>
 ldP (x7.add 3) fun x98_3 =>
 ldP (x7.add 4) fun x98_4 =>
 Yd1 (x98_0, (x98_1, (x98_2, (x98_3, x98_4)))) fun x99 =>
 Zgj9 k x7 x99
abbrev Zgj11 (k : (Bool → K)) (x6_2 : Bool) : K :=
 k x6_2
abbrev Zgj12 (k : (Bool → K)) (x9_1 : Int) (c_1 : ((Int × Unit) → K)) (x97 : Bool) : K :=
 brK x97
 (Zgj11 k false)
 (c_1 ((IntKind.wrap .i64 (x9_1 + 1)), ()))
abbrev Zgj13 (k : (Bool → K)) (x7 : Addr) (x9_1 : Int) (c_1 : ((Int × Unit) → K)) (x10_1 : Int) : K :=
 ldP (x7.add 3) fun x87 =>
 Yc2 x87 x10_1 fun x89 =>
 brK (x89 != 0)
 (Zgj12 k x9_1 c_1 true)
 (ldP (Addr.add (x7.add 0) 0) fun x94 =>
 Ybp x94 x10_1 fun x96 =>
 Zgj12 k x9_1 c_1 x96)
abbrev Zgj14 (k : (Bool → K)) (x7 : Addr) (x9_1 : Int) (c_1 : ((Int × Unit) → K)) (x10_1 : Int) : K :=
 ldP (x7.add 3) fun x83 =>
 Ydb x83 x10_1 fun x85 =>
 Zgj13 k x7 x9_1 c_1 x10_1
abbrev Zgj15 (k : (Bool → K)) (x6_3 : Bool) : K :=
 k x6_3
abbrev Zgj16 (k : (Bool → K)) (x7 : Addr) (x9_1 : Int) (c_1 : ((Int × Unit) → K)) (x10_1 : Int) (x81 : Bool) : K :=
 brK x81
 (Zgj15 k false)
 (Zgj14 k x7 x9_1 c_1 x10_1)
abbrev Zgj17 (x2 : Sl) (k : (Bool → K)) (x7 : Addr) (x9_1 : Int) (c_1 : ((Int × Unit) → K)) (x10_1 : Int) : K :=
 tick fun _ =>
 ldP (Addr.add (x7.add 0) 0) fun x72 =>
 ixS x2.p x2.n x9_1 1 fun x75 =>
 ldI .u8 x75 fun x76 =>
 Ybo x72 (IntKind.wrap .i64 (Int.tmod x76 4)) x10_1 fun x80 =>
 Zgj16 k x7 x9_1 c_1 x10_1 (x80 != 0)
abbrev Zgj18 (x2 : Sl) (k : (Bool → K)) (x7 : Addr) (x9_1 : Int) (c_1 : ((Int × Unit) → K)) (x10_1 : Int) (x69 : Bool) : K :=
 brK x69
 (c_1 ((IntKind.wrap .i64 (x9_1 + 1)), ()))
 (Zgj17 x2 k x7 x9_1 c_1 x10_1)
abbrev Zgj19 (x2 : Sl) (k : (Bool → K)) (x7 : Addr) (x9_1 : Int) (c_1 : ((Int × Unit) → K)) (x10_1 : Int) : K :=
 Zgj18 x2 k x7 x9_1 c_1 x10_1 (x10_1 == 0)
abbrev Zgj20 (x2 : Sl) (k : (Bool → K)) (x7 : Addr) (x9_1 : Int) (c_1 : ((Int × Unit) → K)) (x11 : Sl) : K :=
 ixS x2.p x2.n x9_1 1 fun x60 =>
 ldI .u8 x60 fun x61 =>
 nz ((x11.n : Nat) : Int) <|
 ixS x11.p x11.n (Int.tmod (IntKind.wrap .i64 x61) ((x11.n : Nat) : Int)) 1 fun x66 =>
 ldI .i64 x66 fun x67 =>
 Zgj19 x2 k x7 x9_1 c_1 x67
abbrev Zgj21 (x2 : Sl) (k : (Bool → K)) (x7 : Addr) (x9_1 : Int) (c_1 : ((Int × Unit) → K)) (x10 : Int) (x11 : Sl) (x56 : Bool) : K :=
 brK x56
 (Zgj20 x2 k x7 x9_1 c_1 x11)
 (Zgj19 x2 k x7 x9_1 c_1 x10)
abbrev Zgj22 (x2 : Sl) (k : (Bool → K)) (x7 : Addr) (x9_1 : Int) (c_1 : ((Int × Unit) → K)) (x10 : Int) (x11 : Sl) : K :=
 Zgj21 x2 k x7 x9_1 c_1 x10 x11 (decide (((x11.n : Nat) : Int) > 0))
abbrev Zgj23 (x2 : Sl) (k : (Bool → K)) (x7 : Addr) (x9_1 : Int) (c_1 : ((Int × Unit) → K)) (x10 : Int) : K :=
 tick fun _ =>
 ldP (Addr.add (x7.add 0) 0) fun x49 =>
 ldP (x7.add 0) fun x51_0 =>
 ldP (x7.add 1) fun x51_1 =>
 ldS (x7.add 2) fun x51_2 =>
 ldP (x7.add 3) fun x51_3 =>
 ldP (x7.add 4) fun x51_4 =>
 Yan x49 fun x50 =>
 chk [.cell (x7.add 0) (.pointer x51_0), .cell (x7.add 1) (.pointer x51_1), .cell (x7.add 2) (x51_2.v), .cell (x7.add 3) (.pointer x51_3), .cell (x7.add 4) (.pointer x51_4)] fun _ =>
 Yd1 (x51_0, (x51_1, (x51_2, (x51_3, x51_4)))) fun x52 =>
 Ygz x50 x52 fun x53 =>
 Zgj22 x2 k x7 x9_1 c_1 x10 x53
abbrev Zgj24 (x2 : Sl) (k : (Bool → K)) (x7 : Addr) (x9_1 : Int) (c_1 : ((Int × Unit) → K)) (x46 : Bool) : K :=
 brK x46
 (c_1 ((IntKind.wrap .i64 (x9_1 + 1)), ()))
 (Zgj23 x2 k x7 x9_1 c_1 0)
abbrev Zgj25 (k : (Bool → K)) (x6_4 : Bool) : K :=
 k x6_4
abbrev Zgj26 (x2 : Sl) (k : (Bool → K)) (x7 : Addr) (x9_1 : Int) (c_1 : ((Int × Unit) → K)) (x42 : Bool) : K :=
 brK x42
 (Zgj25 k false)
 (Zgj24 x2 k x7 x9_1 c_1 (decide (x9_1 ≥ ((x2.n : Nat) : Int))))
abbrev Zgj27 (x1 : Sl) (x2 : Sl) (k : (Bool → K)) (x7 : Addr) (x9_1 : Int) (c_1 : ((Int × Unit) → K)) : K :=
 tick fun _ =>
 ldP (x7.add 0) fun x36_0 =>
 ldP (x7.add 1) fun x36_1 =>
 ldS (x7.add 2) fun x36_2 =>
 ldP (x7.add 3) fun x36_3 =>
 ldP (x7.add 4) fun x36_4 =>
 ixS x1.p x1.n x9_1 5 fun x39 =>
 ldI .i64 (x39.add 0) fun x40_0 =>
 ldI .i64 (x39.add 1) fun x40_1 =>
 ldI .i64 (x39.add 2) fun x40_2 =>
 ldI .i64 (x39.add 3) fun x40_3 =>
 ldI .i64 (x39.add 4) fun x40_4 =>
 Ygy (x36_0, (x36_1, (x36_2, (x36_3, x36_4)))) (x40_0, (x40_1, (x40_2, (x40_3, x40_4)))) fun x41 =>
 Zgj26 x2 k x7 x9_1 c_1 (!x41)
abbrev Zgj28 (x1 : Sl) (x2 : Sl) (k : (Bool → K)) (x7 : Addr) (x9_1 : Int) (c_1 : ((Int × Unit) → K)) (x33 : Bool) : K :=
 brK x33
 (Zgj27 x1 x2 k x7 x9_1 c_1)
 (Zgj10 k x7)
abbrev Zgj29 (x1 : Sl) (x2 : Sl) (k : (Bool → K)) (x7 : Addr) (x9_1 : Int) (c_1 : ((Int × Unit) → K)) : K :=
 brK (decide (x9_1 < ((x1.n : Nat) : Int)))
 (Zgj28 x1 x2 k x7 x9_1 c_1 (decide (x9_1 < 60)))
 (Zgj28 x1 x2 k x7 x9_1 c_1 false)
abbrev Zgj30 (x1 : Sl) (x2 : Sl) (k : (Bool → K)) (x7 : Addr) (x9 : Int) : K :=
 lp (fun (z_ : (Int × Unit)) c_ => Zgj29 x1 x2 k x7 z_.1 c_) (x9, ())
abbrev Zgj31 (k : (Bool → K)) (x6_5 : Bool) : K :=
 k x6_5
abbrev Zgj32 (x1 : Sl) (x2 : Sl) (k : (Bool → K)) (x7 : Addr) (x25 : Bool) : K :=
 brK x25
 (Zgj31 k false)
 (Zgj30 x1 x2 k x7 0)
abbrev Zgj33 (x1 : Sl) (x2 : Sl) (k : (Bool → K)) (x7 : Addr) (x8 : Bool) : K :=
 Zgj32 x1 x2 k x7 (!x8)
abbrev Zgj34 (x0 : Int) (x1 : Sl) (x2 : Sl) (k : (Bool → K)) : K :=
 Ygi 5 (IntKind.wrap .i64 x0) fun x21 =>
 alK (.cells #[.pointer none, .pointer none, .slice none 0 0, .pointer none, .pointer none] 33) fun b =>
 stK (Addr.add ⟨b, 0, none⟩ 0) (.pointer x21.1.1) <|
 stK (Addr.add ⟨b, 0, none⟩ 1) (.pointer x21.1.2.1) <|
 stK (Addr.add ⟨b, 0, none⟩ 2) (x21.1.2.2.1.v) <|
 stK (Addr.add ⟨b, 0, none⟩ 3) (.pointer x21.1.2.2.2.1) <|
 stK (Addr.add ⟨b, 0, none⟩ 4) (.pointer x21.1.2.2.2.2) <|
 Zgj33 x1 x2 k ⟨b, 0, none⟩ x21.2
abbrev Zgj35 (k : (Bool → K)) (x6_6 : Bool) : K :=
 k x6_6
abbrev Zgj36 (x0 : Int) (x1 : Sl) (x2 : Sl) (k : (Bool → K)) (x17 : Bool) : K :=
 brK x17
 (Zgj35 k false)
 (Zgj34 x0 x1 x2 k)
abbrev Zgj37 (x0 : Int) (x1 : Sl) (x2 : Sl) (k : (Bool → K)) : K :=
 Yip fun x16 =>
 Zgj36 x0 x1 x2 k (!x16)
abbrev Yjs (x0 : Int) (x1 : Sl) (x2 : Sl) : M Bool := fun k =>
 Zgj37 x0 x1 x2 k
theorem Ynr (x0 : Int) (x1 : Sl) (x2 : Sl) (k : Bool → K) (w : World) (h_ : Yjs x0 x1 x2 k w) : Yez x0 x1 x2 k w :=
 Yae (P := Tryz.prog) Tryz.func4 rfl (by kernel_rfl)
 (Qs [] [0, 1, 2] (fun z_ => Zgj37 x0 x1 x2 k)
 Qz
 (fun _ => Qs [] [0, 1, 2] (fun z_ => Zgj34 x0 x1 x2 k)
 (Qs [(17, .bool)] [0, 1, 2] (fun z_ => Zgj36 x0 x1 x2 k z_.1)
 Qz
 (fun (x17, _) => Qc (x17) (Zgj35 k false) (Zgj34 x0 x1 x2 k) (Qs [(6, .bool)] [] (fun z_ => Zgj35 k z_.1)
 Qz
 (fun (x6_6, _) => Qr)) Qk))
 (fun _ => Qs [(7, .addr), (8, .bool)] [1, 2] (fun z_ => Zgj33 x1 x2 k z_.1 z_.2.1)
 Qz
 (fun (x7, x8, _) => Qs [] [1, 2, 7] (fun z_ => Zgj30 x1 x2 k x7 0)
 (Qs [(25, .bool)] [1, 2, 7] (fun z_ => Zgj32 x1 x2 k x7 z_.1)
 Qz
 (fun (x25, _) => Qc (x25) (Zgj31 k false) (Zgj30 x1 x2 k x7 0) (Qs [(6, .bool)] [] (fun z_ => Zgj31 k z_.1)
 Qz
 (fun (x6_5, _) => Qr)) Qk))
 (fun _ => Qs [] [7] (fun z_ => Zgj10 k x7)
 (Qs [(9, .int .i64)] [1, 2, 7] (fun z_ => Zgj30 x1 x2 k x7 z_.1)
 Qz
 (fun (x9, _) => Qb (Ql [(9, .int .i64)] [1, 2, 7] (fun (z_ : (Int × Unit)) c_ => Zgj29 x1 x2 k x7 z_.1 c_) (x9, ())
 (fun (x9_1, _) c_1 => Qs [] [1, 2, 7, 9] (fun z_ => Zgj27 x1 x2 k x7 x9_1 c_1)
 (Qs [(33, .bool)] [1, 2, 7, 9] (fun z_ => Zgj28 x1 x2 k x7 x9_1 c_1 z_.1)
 (Qp [4])
 (fun (x33, _) => Qc (x33) (Zgj27 x1 x2 k x7 x9_1 c_1) (Zgj10 k x7) Qk Qx))
 (fun _ => Qs [] [1, 2, 7, 9] (fun z_ => c_1 ((IntKind.wrap .i64 (x9_1 + 1)), ()))
 (Qb (Qs [] [1, 2, 7, 9] (fun z_ => Zgj24 x2 k x7 x9_1 c_1 (decide (x9_1 ≥ ((x2.n : Nat) : Int))))
 (Qs [(42, .bool)] [1, 2, 7, 9] (fun z_ => Zgj26 x2 k x7 x9_1 c_1 z_.1)
 (RefK.draw [] [0, 0, 0, 6, 14, 31, 63] [0, 1, 2, 3, 4, 5, 6] [0, 1, 2, 3, 4, 5, 6] (by kernel_rfl) (by kernel_rfl))
 (fun (x42, _) => Qc (x42) (Zgj25 k false) (Zgj24 x2 k x7 x9_1 c_1 (decide (x9_1 ≥ ((x2.n : Nat) : Int)))) (Qs [(6, .bool)] [] (fun z_ => Zgj25 k z_.1)
 Qz
 (fun (x6_4, _) => Qr)) Qk))
 (fun _ => Qs [] [1, 2, 7, 9] (fun z_ => Zgj23 x2 k x7 x9_1 c_1 0)
 (Qs [(46, .bool)] [1, 2, 7, 9] (fun z_ => Zgj24 x2 k x7 x9_1 c_1 z_.1)
 Qz
 (fun (x46, _) => Qc (x46) (c_1 ((IntKind.wrap .i64 (x9_1 + 1)), ())) (Zgj23 x2 k x7 x9_1 c_1 0) Qx Qk))
 (fun _ => Qs [(10, .int .i64)] [1, 2, 7, 9] (fun z_ => Zgj23 x2 k x7 x9_1 c_1 z_.1)
 Qz
 (fun (x10, _) => Qs [(11, .slice)] [1, 2, 7, 9, 10] (fun z_ => Zgj22 x2 k x7 x9_1 c_1 x10 z_.1)
 (RefK.draw [] [0, 1, 3, 7, 0, 31, 63, 127] [0, 1, 2, 4, 3, 5, 6, 7] [0, 1, 2, 3, 4, 5, 6, 7] (by kernel_rfl) (by kernel_rfl))
 (fun (x11, _) => Qs [(10, .int .i64)] [1, 2, 7, 9] (fun z_ => Zgj19 x2 k x7 x9_1 c_1 z_.1)
 (Qs [(56, .bool)] [1, 2, 7, 9, 10, 11] (fun z_ => Zgj21 x2 k x7 x9_1 c_1 x10 x11 z_.1)
 Qz
 (fun (x56, _) => Qc (x56) (Zgj20 x2 k x7 x9_1 c_1 x11) (Zgj19 x2 k x7 x9_1 c_1 x10) Qz Qk))
 (fun (x10_1, _) => Qs [] [1, 2, 7, 9, 10] (fun z_ => Zgj17 x2 k x7 x9_1 c_1 x10_1)
 (Qs [(69, .bool)] [1, 2, 7, 9, 10] (fun z_ => Zgj18 x2 k x7 x9_1 c_1 x10_1 z_.1)
 Qz
 (fun (x69, _) => Qc (x69) (c_1 ((IntKind.wrap .i64 (x9_1 + 1)), ())) (Zgj17 x2 k x7 x9_1 c_1 x10_1) Qx Qk))
 (fun _ => Qs [] [1, 2, 7, 9, 10] (fun z_ => Zgj14 k x7 x9_1 c_1 x10_1)
 (Qs [(81, .bool)] [1, 2, 7, 9, 10] (fun z_ => Zgj16 k x7 x9_1 c_1 x10_1 z_.1)
 (RefK.draw [] [0, 1, 3, 0, 0, 24, 56, 120, 248, 0, 1023, 2047] [0, 1, 2, 3, 4, 5, 6, 7, 8, 9, 10, 11] [0, 1, 2, 3, 4, 5, 6, 7, 8, 9, 10, 11] (by kernel_rfl) (by kernel_rfl))
 (fun (x81, _) => Qc (x81) (Zgj15 k false) (Zgj14 k x7 x9_1 c_1 x10_1) (Qs [(6, .bool)] [] (fun z_ => Zgj15 k z_.1)
 Qz
 (fun (x6_3, _) => Qr)) Qk))
 (fun _ => Qs [] [1, 2, 7, 9, 10] (fun z_ => Zgj13 k x7 x9_1 c_1 x10_1)
 Qz
 (fun _ => Qs [(97, .bool)] [1, 2, 7, 9] (fun z_ => Zgj12 k x9_1 c_1 z_.1)
 (Qp [5])
 (fun (x97, _) => Qc (x97) (Zgj11 k false) (c_1 ((IntKind.wrap .i64 (x9_1 + 1)), ())) (Qs [(6, .bool)] [] (fun z_ => Zgj11 k z_.1)
 Qz
 (fun (x6_2, _) => Qr)) Qk)))))))))))
 (fun _ => Qz))))))
 (fun _ => Qs [(12, .slice)] [7] (fun z_ => Zgj9 k x7 z_.1)
 Qz
 (fun (x12, _) => Qs [] [7, 12] (fun z_ => Zgj1 k x7 x12)
 (Qs [(13, .int .i64)] [7, 12] (fun z_ => Zgj8 k x7 x12 z_.1)
 Qz
 (fun (x13, _) => Qb (Ql [(13, .int .i64)] [7, 12] (fun (z_ : (Int × Unit)) c_ => Zgj7 k x7 x12 z_.1 c_) (x13, ())
 (fun (x13_1, _) c => Qs [] [7, 12, 13] (fun z_ => Zgj5 k x7 x13_1 c)
 (Qs [(101, .bool)] [7, 12, 13] (fun z_ => Zgj6 k x7 x12 x13_1 c z_.1)
 Qz
 (fun (x101, _) => Qc (x101) (Zgj5 k x7 x13_1 c) (Zgj1 k x7 x12) Qk Qx))
 (fun _ => Qs [] [7, 12, 13] (fun z_ => c ((IntKind.wrap .i64 (x13_1 + 1)), ()))
 (Qb (Qs [(14, .bool), (15, .int .i64)] [7, 12, 13] (fun z_ => Zgj4 k x13_1 c z_.1 z_.2.1)
 (RefK.draw [] [0, 1, 0, 4, 12, 31, 63, 127, 127, 255, 1023] [0, 1, 2, 3, 4, 5, 6, 7, 8, 9, 10] [0, 1, 2, 3, 4, 5, 6, 7, 9, 8, 10] (by kernel_rfl) (by kernel_rfl))
 (fun (x14, x15, _) => Qs [(118, .bool)] [7, 12, 13] (fun z_ => Zgj3 k x13_1 c z_.1)
 (Qp [2])
 (fun (x118, _) => Qc (x118) (Zgj2 k false) (c ((IntKind.wrap .i64 (x13_1 + 1)), ())) (Qs [(6, .bool)] [] (fun z_ => Zgj2 k z_.1)
 Qz
 (fun (x6_1, _) => Qr)) Qk))))
 (fun _ => Qz))))))
 (fun _ => Qs [(6, .bool)] [] (fun z_ => Zgj0 k z_.1)
 Qz
 (fun (x6, _) => Qr))))))))) h_
abbrev Zgk0 (k : (Bool → K)) (x0 : Bool) : K :=
 k x0
abbrev Zgk1 (k : (Bool → K)) (r : Addr) (done : Bool) (e : Int) : K :=
 brK done
 (brK (e == 0)
 (ldP (r.add 3) fun x24 =>
 Yc1 x24 fun x25 =>
 brK (x25 == 1)
 (ldP (r.add 3) fun x30 =>
 Yda x30 fun x31 =>
 brK (x31 == 0)
 (ldP (r.add 3) fun x36 =>
 Ydd x36 fun x37 =>
 Zgk0 k (x37 == 4))
 (Zgk0 k false))
 (Zgk0 k false))
 (Zgk0 k false))
 (Zgk0 k false)
abbrev Zgk2 (k : (Bool → K)) (r : Addr) : K :=
 ldP (r.add 3) fun x13 =>
 Ya9 x13 100 fun x14 =>
 Zgk1 k r x14.1 x14.2
abbrev Zgk3 (k : (Bool → K)) (x0_1 : Bool) : K :=
 k x0_1
abbrev Zgk4 (k : (Bool → K)) (r : Addr) (x10 : Bool) : K :=
 brK x10
 (Zgk3 k false)
 (Zgk2 k r)
abbrev Zgk5 (k : (Bool → K)) (r : Addr) (ok : Bool) : K :=
 Zgk4 k r (!ok)
abbrev Zgk6 (k : (Bool → K)) : K :=
 Ygi 3 4 fun x6 =>
 alK (.cells #[.pointer none, .pointer none, .slice none 0 0, .pointer none, .pointer none] 33) fun b =>
 stK (Addr.add ⟨b, 0, none⟩ 0) (.pointer x6.1.1) <|
 stK (Addr.add ⟨b, 0, none⟩ 1) (.pointer x6.1.2.1) <|
 stK (Addr.add ⟨b, 0, none⟩ 2) (x6.1.2.2.1.v) <|
 stK (Addr.add ⟨b, 0, none⟩ 3) (.pointer x6.1.2.2.2.1) <|
 stK (Addr.add ⟨b, 0, none⟩ 4) (.pointer x6.1.2.2.2.2) <|
 Zgk5 k ⟨b, 0, none⟩ x6.2
abbrev Ysk : M Bool := fun k =>
 Zgk6 k
theorem Ytq (k : Bool → K) (w : World) (h_ : Ysk k w) : Yip k w :=
 Yae (P := Tryz.prog) Tryz.func9 rfl (by kernel_rfl)
 (Qs [] [] (fun z_ => Zgk6 k)
 Qz
 (fun _ => Qs [(1, .addr), (2, .bool)] [] (fun z_ => Zgk5 k z_.1 z_.2.1)
 Qz
 (fun (r, ok, _) => Qs [] [1] (fun z_ => Zgk2 k r)
 (Qs [(10, .bool)] [1] (fun z_ => Zgk4 k r z_.1)
 Qz
 (fun (x10, _) => Qc (x10) (Zgk3 k false) (Zgk2 k r) (Qs [(0, .bool)] [] (fun z_ => Zgk3 k z_.1)
 Qz
 (fun (x0_1, _) => Qr)) Qk))
 (fun _ => Qs [(3, .bool), (4, .int .i64)] [1] (fun z_ => Zgk1 k r z_.1 z_.2.1)
 Qz
 (fun (done, e, _) => Qs [(0, .bool)] [] (fun z_ => Zgk0 k z_.1)
 (Qp [1, 5, 11, 17])
 (fun (x0, _) => Qr)))))) h_
abbrev Zgl0 (k : (((OA × (OA × (Sl × (OA × OA)))) × Bool) → K)) (x4 : Addr) (x5 : Bool) : K :=
 ldP (x4.add 0) fun x4_0 =>
 ldP (x4.add 1) fun x4_1 =>
 ldS (x4.add 2) fun x4_2 =>
 ldP (x4.add 3) fun x4_3 =>
 ldP (x4.add 4) fun x4_4 =>
 k ((x4_0, (x4_1, (x4_2, (x4_3, x4_4)))), x5)
abbrev Zgl1 (k : (((OA × (OA × (Sl × (OA × OA)))) × Bool) → K)) (x4 : Addr) (r : Addr) : K :=
 tick fun _ =>
 ldP (r.add 0) fun x27_0 =>
 ldP (r.add 1) fun x27_1 =>
 ldS (r.add 2) fun x27_2 =>
 ldP (r.add 3) fun x27_3 =>
 ldP (r.add 4) fun x27_4 =>
 ldP (r.add 3) fun x29 =>
 stK (x4.add 0) (.pointer x27_0) <|
 stK (x4.add 1) (.pointer x27_1) <|
 stK (x4.add 2) (x27_2.v) <|
 stK (x4.add 3) (.pointer x27_3) <|
 stK (x4.add 4) (.pointer x27_4) <|
 chk [.cell (r.add 3) (.pointer x29)] fun _ =>
 Zgl0 k x4 (!(Option.isNone x29))
abbrev Zgl2 (most : Int) (k : (((OA × (OA × (Sl × (OA × OA)))) × Bool) → K)) (x4 : Addr) (w_1 : Addr) (r : Addr) : K :=
 ldP (w_1.add 0) fun x22 =>
 Ymo x22 most ⟨.func 61, #[], #[.pointer (some r)]⟩ fun x25 =>
 stK (Addr.add (r.add 3) 0) (.pointer x25) <|
 Zgl1 k x4 r
abbrev Zgl3 (k : (((OA × (OA × (Sl × (OA × OA)))) × Bool) → K)) (x4 : Addr) (x5_1 : Bool) : K :=
 ldP (x4.add 0) fun x4_0_1 =>
 ldP (x4.add 1) fun x4_1_1 =>
 ldS (x4.add 2) fun x4_2_1 =>
 ldP (x4.add 3) fun x4_3_1 =>
 ldP (x4.add 4) fun x4_4_1 =>
 k ((x4_0_1, (x4_1_1, (x4_2_1, (x4_3_1, x4_4_1)))), x5_1)
abbrev Zgl4 (k : (((OA × (OA × (Sl × (OA × OA)))) × Bool) → K)) (x4 : Addr) (r : Addr) : K :=
 ldP (r.add 0) fun x20_0 =>
 ldP (r.add 1) fun x20_1 =>
 ldS (r.add 2) fun x20_2 =>
 ldP (r.add 3) fun x20_3 =>
 ldP (r.add 4) fun x20_4 =>
 stK (x4.add 0) (.pointer x20_0) <|
 stK (x4.add 1) (.pointer x20_1) <|
 stK (x4.add 2) (x20_2.v) <|
 stK (x4.add 3) (.pointer x20_3) <|
 stK (x4.add 4) (.pointer x20_4) <|
 Zgl3 k x4 false
abbrev Zgl5 (most : Int) (k : (((OA × (OA × (Sl × (OA × OA)))) × Bool) → K)) (x4 : Addr) (w_1 : Addr) (r : Addr) (x19 : Bool) : K :=
 brK x19
 (Zgl4 k x4 r)
 (Zgl2 most k x4 w_1 r)
abbrev Zgl6 (most : Int) (k : (((OA × (OA × (Sl × (OA × OA)))) × Bool) → K)) (x4 : Addr) (w_1 : Addr) (ok : Bool) (r : Addr) : K :=
 Zgl5 most k x4 w_1 r (!ok)
abbrev Zgl7 (most : Int) (k : (((OA × (OA × (Sl × (OA × OA)))) × Bool) → K)) (x4 : Addr) (w_1 : Addr) (ok : Bool) : K :=
 ldP (w_1.add 0) fun x14_0 =>
 ldP (w_1.add 1) fun x14_1 =>
 ldS (w_1.add 2) fun x14_2 =>
 alK (.cells #[.int .i64 0, .int .i64 0, .int .i64 0, .int .i64 0, .int .i64 0, .int .i64 0, .int .i64 0, .int .i64 0, .int .i64 0, .int .i64 0] 120) fun b =>
 alK (.cells #[.pointer none, .pointer none, .slice none 0 0, .pointer none, .pointer none] 33) fun b_1 =>
 stK (Addr.add ⟨b_1, 0, none⟩ 0) (.pointer x14_0) <|
 stK (Addr.add ⟨b_1, 0, none⟩ 1) (.pointer x14_1) <|
 stK (Addr.add ⟨b_1, 0, none⟩ 2) (x14_2.v) <|
 stK (Addr.add ⟨b_1, 0, none⟩ 3) (.pointer none) <|
 stK (Addr.add ⟨b_1, 0, none⟩ 4) (.pointer (some ⟨b, 0, none⟩)) <|
 Zgl6 most k x4 w_1 ok ⟨b_1, 0, none⟩
abbrev Zgl8 (blocks : Int) (most : Int) (k : (((OA × (OA × (Sl × (OA × OA)))) × Bool) → K)) (x4 : Addr) : K :=
 Yiq blocks fun x11 =>
 alK (.cells #[.pointer none, .pointer none, .slice none 0 0] 29) fun b_2 =>
 stK (Addr.add ⟨b_2, 0, none⟩ 0) (.pointer x11.1.1) <|
 stK (Addr.add ⟨b_2, 0, none⟩ 1) (.pointer x11.1.2.1) <|
 stK (Addr.add ⟨b_2, 0, none⟩ 2) (x11.1.2.2.v) <|
 Zgl7 most k x4 ⟨b_2, 0, none⟩ x11.2
abbrev Ysl (blocks : Int) (most : Int) : M ((OA × (OA × (Sl × (OA × OA)))) × Bool) := fun k =>
 alK (.cells #[.pointer none, .pointer none, .slice none 0 0, .pointer none, .pointer none] 33) fun b_3 =>
 Zgl8 blocks most k ⟨b_3, 0, none⟩
theorem Ytr (blocks : Int) (most : Int) (k : ((OA × (OA × (Sl × (OA × OA)))) × Bool) → K) (w : World) (h_ : Ysl blocks most k w) : Ygi blocks most k w :=
 Yae (P := Tryz.prog) Tryz.func10 rfl (by kernel_rfl)
 (Qs [(4, .addr)] [0, 1] (fun z_ => Zgl8 blocks most k z_.1)
 Qz
 (fun (x4, _) => Qs [(6, .addr), (7, .bool)] [1, 4] (fun z_ => Zgl7 most k x4 z_.1 z_.2.1)
 Qz
 (fun (w_1, ok, _) => Qs [(8, .addr)] [1, 4, 6, 7] (fun z_ => Zgl6 most k x4 w_1 ok z_.1)
 Qz
 (fun (r, _) => Qs [] [1, 4, 6, 8] (fun z_ => Zgl2 most k x4 w_1 r)
 (Qs [(19, .bool)] [1, 4, 6, 8] (fun z_ => Zgl5 most k x4 w_1 r z_.1)
 Qz
 (fun (x19, _) => Qc (x19) (Zgl4 k x4 r) (Zgl2 most k x4 w_1 r) (Qs [(5, .bool)] [4] (fun z_ => Zgl3 k x4 z_.1)
 Qz
 (fun (x5_1, _) => Qr)) Qk))
 (fun _ => Qs [] [4, 8] (fun z_ => Zgl1 k x4 r)
 Qz
 (fun _ => Qs [(5, .bool)] [4] (fun z_ => Zgl0 k x4 z_.1)
 (RefK.draw [] [0, 0, 2, 6, 1, 31] [0, 1, 2, 3, 4, 5] [0, 4, 1, 2, 3, 5] (by kernel_rfl) (by kernel_rfl))
 (fun (x5, _) => Qr))))))) h_
abbrev Zgm0 (k : (Bool → K)) (x4 : Bool) : K :=
 k x4
abbrev Zgm1 (k : (Bool → K)) (x4_1 : Bool) : K :=
 k x4_1
abbrev Zgm2 (k : (Bool → K)) (x8 : Int) : K :=
 brK (x8 == 0)
 (Zgm1 k true)
 (Zgm1 k (x8 == 4))
abbrev Zgm3 (k : (Bool → K)) (x2 : Addr) (x5 : Int) (x7 : Int) (x8 : Int) : K :=
 ldP (x2.add 4) fun x47 =>
 nn x47 fun x50 =>
 ixA x50 10 x5 1 fun x51 =>
 stK (x51.add 0) (.int .i64 x7) <|
 Zgm2 k x8
abbrev Zgm4 (k : (Bool → K)) (x2 : Addr) (x5 : Int) (x7 : Int) (x8 : Int) : K :=
 ldP (x2.add 3) fun x43 =>
 Ydk x43 x7 fun x45 =>
 Zgm3 k x2 x5 x7 x8
abbrev Zgm5 (k : (Bool → K)) (x2 : Addr) (x5 : Int) (x7 : Int) (x8 : Int) (x41 : Bool) : K :=
 brK x41
 (Zgm4 k x2 x5 x7 x8)
 (Zgm2 k x8)
abbrev Zgm6 (k : (Bool → K)) (x2 : Addr) (x5 : Int) (x7 : Int) (x8 : Int) : K :=
 Zgm5 k x2 x5 x7 x8 (x8 == 0)
abbrev Zgm7 (k : (Bool → K)) (x2 : Addr) (x5 : Int) (x9 : Int) : K :=
 ldP (x2.add 4) fun x105 =>
 nn x105 fun x108 =>
 ixA x108 10 x5 1 fun x109 =>
 stK (x109.add 0) (.int .i64 x9) <|
 Zgm0 k true
abbrev Zgm8 (k : (Bool → K)) (x2 : Addr) (x5 : Int) (x9 : Int) (x103 : Bool) : K :=
 brK x103
 (Zgm7 k x2 x5 x9)
 (Zgm0 k true)
abbrev Zgm9 (k : (Bool → K)) (x2 : Addr) (x5 : Int) (x9 : Int) (x10 : Int) : K :=
 Zgm8 k x2 x5 x9 (x10 == 0)
abbrev Zgm10 (k : (Bool → K)) (x2 : Addr) (x3 : Addr) (x5 : Int) (x6 : Int) : K :=
 tick fun _ =>
 ldP (Addr.add (x2.add 0) 1) fun x90 =>
 ldP (x2.add 4) fun x92 =>
 nn x92 fun x94 =>
 ixA x94 10 x6 1 fun x95 =>
 ldI .i64 x95 fun x96 =>
 ldI .i64 (x3.add 3) fun x98 =>
 Yfu x90 x96 x98 fun x99 =>
 Zgm9 k x2 x5 x99.1 x99.2
abbrev Zgm11 (k : (Bool → K)) (x2 : Addr) (x3 : Addr) (x5 : Int) (x6 : Int) (x86 : Bool) : K :=
 brK x86
 (Zgm10 k x2 x3 x5 x6)
 (Zgm0 k true)
abbrev Zgm12 (k : (Bool → K)) (x2 : Addr) (x3 : Addr) (x5 : Int) (x6 : Int) : K :=
 tick fun _ =>
 ldP (Addr.add (x2.add 0) 1) fun x130 =>
 ldP (x2.add 4) fun x132 =>
 nn x132 fun x134 =>
 ixA x134 10 x5 1 fun x135 =>
 ldI .i64 x135 fun x136 =>
 ldI .i64 (x3.add 3) fun x138 =>
 ldP (x2.add 4) fun x140 =>
 nn x140 fun x142 =>
 ixA x142 10 x6 1 fun x143 =>
 ldI .i64 x143 fun x144 =>
 Ye1 x130 x136 x138 x144 fun x145 =>
 Zgm0 k true
abbrev Zgm13 (k : (Bool → K)) (x2 : Addr) (x3 : Addr) (x5 : Int) (x6 : Int) : K :=
 tick fun _ =>
 ldP (x2.add 3) fun x120 =>
 ldP (x2.add 4) fun x122 =>
 nn x122 fun x124 =>
 ixA x124 10 x6 1 fun x125 =>
 ldI .i64 x125 fun x126 =>
 Yc3 x120 x126 fun x127 =>
 Zgm12 k x2 x3 x5 x6
abbrev Zgm14 (k : (Bool → K)) (x2 : Addr) (x3 : Addr) (x5 : Int) (x6 : Int) (x118 : Bool) : K :=
 brK x118
 (Zgm13 k x2 x3 x5 x6)
 (Zgm0 k true)
abbrev Zgm15 (k : (Bool → K)) (x4_2 : Bool) : K :=
 k x4_2
abbrev Zgm16 (k : (Bool → K)) (x12 : Int) : K :=
 Zgm15 k (x12 == 0)
abbrev Zgm17 (k : (Bool → K)) (x2 : Addr) (x3 : Addr) : K :=
 ldP (x2.add 3) fun x150 =>
 ldI .i64 (x3.add 3) fun x152 =>
 Ya9 x150 (min2I (max2I x152 0) 50) fun x155 =>
 Zgm16 k x155.2
abbrev Zgm18 (k : (Bool → K)) (x2 : Addr) (x3 : Addr) (x146 : Bool) : K :=
 brK x146
 (Zgm17 k x2 x3)
 (Zgm0 k true)
abbrev Zgm19 (k : (Bool → K)) (x2 : Addr) (x3 : Addr) (x5 : Int) (x6 : Int) : K :=
 ldP (x2.add 4) fun x113 =>
 nn x113 fun x115 =>
 ixA x115 10 x5 1 fun x116 =>
 ldI .i64 x116 fun x117 =>
 Zgm14 k x2 x3 x5 x6 (decide (x117 > 0))
abbrev Zgm20 (k : (Bool → K)) (x2 : Addr) (x3 : Addr) (x5 : Int) (x6 : Int) (x20 : Int) (x110 : Bool) : K :=
 brK x110
 (Zgm19 k x2 x3 x5 x6)
 (Zgm18 k x2 x3 (x20 == 5))
abbrev Zgm21 (k : (Bool → K)) (x2 : Addr) (x3 : Addr) (x5 : Int) (x6 : Int) : K :=
 ldP (x2.add 4) fun x81 =>
 nn x81 fun x83 =>
 ixA x83 10 x6 1 fun x84 =>
 ldI .i64 x84 fun x85 =>
 Zgm11 k x2 x3 x5 x6 (decide (x85 > 0))
abbrev Zgm22 (k : (Bool → K)) (x2 : Addr) (x3 : Addr) (x5 : Int) (x6 : Int) (x20 : Int) (x78 : Bool) : K :=
 brK x78
 (Zgm21 k x2 x3 x5 x6)
 (Zgm20 k x2 x3 x5 x6 x20 (x20 == 4))
abbrev Zgm23 (k : (Bool → K)) (x2 : Addr) (x5 : Int) : K :=
 ldP (x2.add 4) fun x74 =>
 nn x74 fun x76 =>
 ixA x76 10 x5 1 fun x77 =>
 stK (x77.add 0) (.int .i64 0) <|
 Zgm0 k true
abbrev Zgm24 (k : (Bool → K)) (x2 : Addr) (x3 : Addr) (x5 : Int) (x6 : Int) (x20 : Int) (x71 : Bool) : K :=
 brK x71
 (Zgm23 k x2 x5)
 (Zgm22 k x2 x3 x5 x6 x20 (x20 == 3))
abbrev Zgm25 (k : (Bool → K)) (x2 : Addr) (x5 : Int) (x6 : Int) : K :=
 tick fun _ =>
 ldP (x2.add 4) fun x61 =>
 ldP (x2.add 4) fun x64 =>
 nn x64 fun x66 =>
 ixA x66 10 x6 1 fun x67 =>
 ldI .i64 x67 fun x68 =>
 nn x61 fun x69 =>
 ixA x69 10 x5 1 fun x70 =>
 stK (x70.add 0) (.int .i64 x68) <|
 Zgm0 k true
abbrev Zgm26 (k : (Bool → K)) (x2 : Addr) (x3 : Addr) (x5 : Int) (x6 : Int) (x20 : Int) (x58 : Bool) : K :=
 brK x58
 (Zgm25 k x2 x5 x6)
 (Zgm24 k x2 x3 x5 x6 x20 (x20 == 2))
abbrev Zgm27 (k : (Bool → K)) (x2 : Addr) (x3 : Addr) (x5 : Int) : K :=
 ldP (Addr.add (x2.add 0) 0) fun x26 =>
 ldI .i64 (x3.add 3) fun x30 =>
 ldI .i64 (x3.add 4) fun x34 =>
 Yb3 x26 (Int.tmod x5 4) (min2I (max2I x30 0) 6) (min2I (max2I x34 0) 300) fun x37 =>
 Zgm6 k x2 x5 x37.1 x37.2
abbrev Zgm28 (k : (Bool → K)) (x2 : Addr) (x3 : Addr) (x5 : Int) (x6 : Int) (x20 : Int) (x21 : Bool) : K :=
 brK x21
 (Zgm27 k x2 x3 x5)
 (Zgm26 k x2 x3 x5 x6 x20 (x20 == 1))
abbrev Zgm29 (k : (Bool → K)) (x2 : Addr) (x3 : Addr) (x5 : Int) (x6 : Int) (x20 : Int) : K :=
 Zgm28 k x2 x3 x5 x6 x20 (x20 == 0)
abbrev Zgm30 (k : (Bool → K)) (x2 : Addr) (x3 : Addr) (x5 : Int) (x6 : Int) : K :=
 ldI .i64 (x3.add 0) fun x20_1 =>
 Zgm29 k x2 x3 x5 x6 x20_1
abbrev Zgm31 (k : (Bool → K)) (x2 : Addr) (x3 : Addr) : K :=
 tick fun _ =>
 ldI .i64 (x3.add 1) fun x14 =>
 ldI .i64 (x3.add 2) fun x17 =>
 Ygj x14 fun x15 =>
 chk [.cell (x3.add 2) (.int .i64 x17)] fun _ =>
 Ygj x17 fun x18 =>
 Zgm30 k x2 x3 x15 x18
abbrev Yos (x0 : (OA × (OA × (Sl × (OA × OA))))) (x1 : (Int × (Int × (Int × (Int × Int))))) : M Bool := fun k =>
 alK (.cells #[.pointer x0.1, .pointer x0.2.1, x0.2.2.1.v, .pointer x0.2.2.2.1, .pointer x0.2.2.2.2] 33) fun b =>
 alK (.cells #[.int .i64 x1.1, .int .i64 x1.2.1, .int .i64 x1.2.2.1, .int .i64 x1.2.2.2.1, .int .i64 x1.2.2.2.2] 38) fun b_1 =>
 Zgm31 k ⟨b, 0, none⟩ ⟨b_1, 0, none⟩
theorem Yqy (x0 : (OA × (OA × (Sl × (OA × OA))))) (x1 : (Int × (Int × (Int × (Int × Int))))) (k : Bool → K) (w : World) (h_ : Yos x0 x1 k w) : Ygy x0 x1 k w :=
 Yae (P := Tryz.prog) Tryz.func11 rfl (by kernel_rfl)
 (Qs [(2, .addr), (3, .addr)] [] (fun z_ => Zgm31 k z_.1 z_.2.1)
 Qz
 (fun (x2, x3, _) => Qs [(5, .int .i64), (6, .int .i64)] [2, 3] (fun z_ => Zgm30 k x2 x3 z_.1 z_.2.1)
 (RefK.draw [] [0, 1, 3, 0, 8, 31, 63, 127] [0, 1, 3, 4, 2, 5, 6, 7] [0, 1, 2, 3, 4, 5, 6, 7] (by kernel_rfl) (by kernel_rfl))
 (fun (x5, x6, _) => Qs [] [] (fun z_ => Zgm0 k true)
 (Qs [(20, .int .i64)] [2, 3, 5, 6] (fun z_ => Zgm29 k x2 x3 x5 x6 z_.1)
 Qz
 (fun (x20, _) => Qb (Qs [(21, .bool)] [2, 3, 5, 6, 20] (fun z_ => Zgm28 k x2 x3 x5 x6 x20 z_.1)
 Qz
 (fun (x21, _) => Qc (x21) (Zgm27 k x2 x3 x5) (Zgm26 k x2 x3 x5 x6 x20 (x20 == 1)) (Qs [(7, .int .i64), (8, .int .i64)] [2, 5] (fun z_ => Zgm6 k x2 x5 z_.1 z_.2.1)
 Qz
 (fun (x7, x8, _) => Qs [] [8] (fun z_ => Zgm2 k x8)
 (Qs [(41, .bool)] [2, 5, 7, 8] (fun z_ => Zgm5 k x2 x5 x7 x8 z_.1)
 Qz
 (fun (x41, _) => Qc (x41) (Zgm4 k x2 x5 x7 x8) (Zgm2 k x8) (Qs [] [2, 5, 7, 8] (fun z_ => Zgm3 k x2 x5 x7 x8)
 Qz
 (fun _ => Qz)) Qk))
 (fun _ => Qs [(4, .bool)] [] (fun z_ => Zgm1 k z_.1)
 (Qp [2])
 (fun (x4_1, _) => Qr)))) (Qs [(58, .bool)] [2, 3, 5, 6, 20] (fun z_ => Zgm26 k x2 x3 x5 x6 x20 z_.1)
 Qz
 (fun (x58, _) => Qc (x58) (Zgm25 k x2 x5 x6) (Zgm24 k x2 x3 x5 x6 x20 (x20 == 2)) (RefK.draw [] [0, 1, 0, 0, 8, 0, 24, 120, 248, 3, 1023, 2047] [0, 1, 2, 3, 4, 5, 6, 7, 8, 9, 10, 11] [0, 1, 2, 3, 4, 5, 6, 7, 8, 9, 10, 11] (by kernel_rfl) (by kernel_rfl)) (Qs [(71, .bool)] [2, 3, 5, 6, 20] (fun z_ => Zgm24 k x2 x3 x5 x6 x20 z_.1)
 Qz
 (fun (x71, _) => Qc (x71) (Zgm23 k x2 x5) (Zgm22 k x2 x3 x5 x6 x20 (x20 == 3)) Qz (Qs [(78, .bool)] [2, 3, 5, 6, 20] (fun z_ => Zgm22 k x2 x3 x5 x6 x20 z_.1)
 Qz
 (fun (x78, _) => Qc (x78) (Zgm21 k x2 x3 x5 x6) (Zgm20 k x2 x3 x5 x6 x20 (x20 == 4)) (Qs [(86, .bool)] [2, 3, 5, 6] (fun z_ => Zgm11 k x2 x3 x5 x6 z_.1)
 Qz
 (fun (x86, _) => Qc (x86) (Zgm10 k x2 x3 x5 x6) (Zgm0 k true) (Qs [(9, .int .i64), (10, .int .i64)] [2, 5] (fun z_ => Zgm9 k x2 x5 z_.1 z_.2.1)
 (RefK.draw [] [0, 1, 3, 0, 8, 0, 24, 120, 248, 0, 512, 2047, 4095, 8191, 8191, 16383, 65535] [0, 1, 2, 3, 4, 5, 6, 7, 8, 9, 10, 11, 12, 13, 14, 15, 16] [0, 1, 2, 3, 4, 5, 6, 7, 8, 9, 10, 11, 12, 13, 15, 14, 16] (by kernel_rfl) (by kernel_rfl))
 (fun (x9, x10, _) => Qs [(103, .bool)] [2, 5, 9] (fun z_ => Zgm8 k x2 x5 x9 z_.1)
 Qz
 (fun (x103, _) => Qc (x103) (Zgm7 k x2 x5 x9) (Zgm0 k true) Qz Qk))) Qk)) (Qs [(110, .bool)] [2, 3, 5, 6, 20] (fun z_ => Zgm20 k x2 x3 x5 x6 x20 z_.1)
 Qz
 (fun (x110, _) => Qc (x110) (Zgm19 k x2 x3 x5 x6) (Zgm18 k x2 x3 (x20 == 5)) (Qs [(118, .bool)] [2, 3, 5, 6] (fun z_ => Zgm14 k x2 x3 x5 x6 z_.1)
 Qz
 (fun (x118, _) => Qc (x118) (Zgm13 k x2 x3 x5 x6) (Zgm0 k true) (Qs [] [2, 3, 5, 6] (fun z_ => Zgm12 k x2 x3 x5 x6)
 (RefK.draw [] [0, 1, 0, 4, 0, 12, 60, 124, 255] [0, 1, 2, 3, 4, 5, 6, 7, 8] [0, 1, 2, 3, 4, 5, 6, 7, 8] (by kernel_rfl) (by kernel_rfl))
 (fun _ => RefK.draw [] [0, 1, 3, 0, 8, 0, 24, 120, 248, 0, 512, 0, 2048, 0, 6144, 30720, 63488, 131071] [0, 1, 2, 3, 4, 5, 6, 7, 8, 9, 10, 11, 12, 13, 14, 15, 16, 17] [0, 1, 2, 3, 4, 5, 6, 7, 8, 9, 10, 11, 12, 13, 14, 15, 16, 17] (by kernel_rfl) (by kernel_rfl))) Qk)) (Qs [(146, .bool)] [2, 3] (fun z_ => Zgm18 k x2 x3 z_.1)
 Qz
 (fun (x146, _) => Qc (x146) (Zgm17 k x2 x3) (Zgm0 k true) (Qs [(12, .int .i64)] [] (fun z_ => Zgm16 k z_.1)
 Qz
 (fun (x12, _) => Qs [(4, .bool)] [] (fun z_ => Zgm15 k z_.1)
 Qz
 (fun (x4_2, _) => Qr))) Qk))))))))))))))
 (fun _ => Qs [(4, .bool)] [] (fun z_ => Zgm0 k z_.1)
 Qz
 (fun (x4, _) => Qr))))) h_
abbrev Zgn0 (k : (Sl → K)) (x2 : Sl) : K :=
 k x2
abbrev Zgn1 (k : (Sl → K)) (r_1 : Addr) : K :=
 tick fun _ =>
 ldP (Addr.add (r_1.add 0) 0) fun x4_0 =>
 ldP (Addr.add (r_1.add 0) 1) fun x4_1 =>
 ldS (Addr.add (r_1.add 0) 2) fun x4_2 =>
 ldP (Addr.add (r_1.add 0) 0) fun x8 =>
 ldP (r_1.add 4) fun x11 =>
 nn x11 fun x12 =>
 Yd2 (x4_0, (x4_1, x4_2)) fun x5 =>
 chk [.cell (r_1.add 4) (.pointer x11), .cell (Addr.add (r_1.add 0) 0) (.pointer x8)] fun _ =>
 Yan x8 fun x9 =>
 chk [.cell (r_1.add 4) (.pointer x11)] fun _ =>
 Ykb (x5.1, (x5.2.1, (x5.2.2.1, (x5.2.2.2.1, (x5.2.2.2.2.1, (x5.2.2.2.2.2.1, (x5.2.2.2.2.2.2.1, x5.2.2.2.2.2.2.2))))))) x9 ⟨(some (cutA x12 0 10 1)), (10 - 0), (10 - 0)⟩ fun x14 =>
 Zgn0 k x14
abbrev Ylp (r : (OA × (OA × (Sl × (OA × OA))))) : M Sl := fun k =>
 alK (.cells #[.pointer r.1, .pointer r.2.1, r.2.2.1.v, .pointer r.2.2.2.1, .pointer r.2.2.2.2] 33) fun b =>
 Zgn1 k ⟨b, 0, none⟩
theorem Yot (r : (OA × (OA × (Sl × (OA × OA))))) (k : Sl → K) (w : World) (h_ : Ylp r k w) : Yd1 r k w :=
 Yae (P := Tryz.prog) Tryz.func18 rfl (by kernel_rfl)
 (Qs [(1, .addr)] [] (fun z_ => Zgn1 k z_.1)
 Qz
 (fun (r_1, _) => Qs [(2, .slice)] [] (fun z_ => Zgn0 k z_.1)
 (RefK.draw [] [0, 1, 3, 0, 8, 24, 63, 0, 128, 384, 896, 2047, 4095] [0, 1, 3, 4, 5, 7, 8, 9, 10, 2, 6, 11, 12] [0, 1, 2, 3, 4, 5, 6, 7, 8, 9, 10, 11, 12] (by kernel_rfl) (by kernel_rfl))
 (fun (x2, _) => Qr))) h_
abbrev Zgo0 (k : ((Sl × (Sl × (Sl × (Sl × (Sl × (Int × (Int × Bool))))))) → K)) (x2 : Addr) : K :=
 ldS (x2.add 0) fun x2_0 =>
 ldS (x2.add 1) fun x2_1 =>
 ldS (x2.add 2) fun x2_2 =>
 ldS (x2.add 3) fun x2_3 =>
 ldS (x2.add 4) fun x2_4 =>
 ldI .i64 (x2.add 5) fun x2_5 =>
 ldI .i64 (x2.add 6) fun x2_6 =>
 ldB (x2.add 7) fun x2_7 =>
 k (x2_0, (x2_1, (x2_2, (x2_3, (x2_4, (x2_5, (x2_6, x2_7)))))))
abbrev Zgo1 (k : ((Sl × (Sl × (Sl × (Sl × (Sl × (Int × (Int × Bool))))))) → K)) (x2 : Addr) (out_1 : Sl) : K :=
 Ykd out_1 fun x24 =>
 stK (x2.add 0) (x24.1.v) <|
 stK (x2.add 1) (x24.2.1.v) <|
 stK (x2.add 2) (x24.2.2.1.v) <|
 stK (x2.add 3) (x24.2.2.2.1.v) <|
 stK (x2.add 4) (x24.2.2.2.2.1.v) <|
 stK (x2.add 5) (.int .i64 x24.2.2.2.2.2.1) <|
 stK (x2.add 6) (.int .i64 x24.2.2.2.2.2.2.1) <|
 stK (x2.add 7) (.bool x24.2.2.2.2.2.2.2) <|
 Zgo0 k x2
abbrev Zgo2 (i_1 : Int) (c : ((Sl × Int × Unit) → K)) (out_3 : Sl) : K :=
 c (out_3, (IntKind.wrap .i64 (i_1 + 1)), ())
abbrev Zgo3 (w_2 : Addr) (out_2 : Sl) (i_1 : Int) (c : ((Sl × Int × Unit) → K)) : K :=
 ldP (w_2.add 1) fun x18 =>
 Ybw x18 i_1 fun x20 =>
 alK (.cells #[.int .u64 x20] 109) fun b =>
 semT Tryz.prog (Builtin.append_ #[162, 162] 162 #[out_2.v, .slice (some ⟨b, 0, none⟩) 1 1]) (.one (.sc (.slice))) fun x22 =>
 Zgo2 i_1 c x22
abbrev Zgo4 (k : ((Sl × (Sl × (Sl × (Sl × (Sl × (Int × (Int × Bool))))))) → K)) (w_2 : Addr) (x2 : Addr) (out_2 : Sl) (i_1 : Int) (c : ((Sl × Int × Unit) → K)) (x13 : Bool) : K :=
 brK x13
 (Zgo3 w_2 out_2 i_1 c)
 (Zgo1 k x2 out_2)
abbrev Zgo5 (k : ((Sl × (Sl × (Sl × (Sl × (Sl × (Int × (Int × Bool))))))) → K)) (w_2 : Addr) (x2 : Addr) (out_2 : Sl) (i_1 : Int) (c : ((Sl × Int × Unit) → K)) : K :=
 ldP (w_2.add 1) fun x7 =>
 Yat x7 fun x8 =>
 brK (decide (i_1 < x8))
 (Zgo4 k w_2 x2 out_2 i_1 c (decide (i_1 < 8192)))
 (Zgo4 k w_2 x2 out_2 i_1 c false)
abbrev Zgo6 (k : ((Sl × (Sl × (Sl × (Sl × (Sl × (Int × (Int × Bool))))))) → K)) (w_2 : Addr) (x2 : Addr) (out : Sl) (i : Int) : K :=
 lp (fun (z_ : (Sl × Int × Unit)) c_ => Zgo5 k w_2 x2 z_.1 z_.2.1 c_) (out, i, ())
abbrev Zgo7 (k : ((Sl × (Sl × (Sl × (Sl × (Sl × (Int × (Int × Bool))))))) → K)) (w_2 : Addr) (x2 : Addr) (out : Sl) : K :=
 Zgo6 k w_2 x2 out 0
abbrev Zgo8 (k : ((Sl × (Sl × (Sl × (Sl × (Sl × (Int × (Int × Bool))))))) → K)) (w_2 : Addr) (x2 : Addr) : K :=
 Zgo7 k w_2 x2 ⟨none, 0, 0⟩
abbrev Ydz (w_1 : (OA × (OA × Sl))) : M (Sl × (Sl × (Sl × (Sl × (Sl × (Int × (Int × Bool))))))) := fun k =>
 alK (.cells #[.pointer w_1.1, .pointer w_1.2.1, w_1.2.2.v] 29) fun b_1 =>
 alK (.cells #[.slice none 0 0, .slice none 0 0, .slice none 0 0, .slice none 0 0, .slice none 0 0, .int .i64 0, .int .i64 0, .bool false] 103) fun b_2 =>
 Zgo8 k ⟨b_1, 0, none⟩ ⟨b_2, 0, none⟩
theorem You (w_1 : (OA × (OA × Sl))) (k : (Sl × (Sl × (Sl × (Sl × (Sl × (Int × (Int × Bool))))))) → K) (w : World) (h_ : Ydz w_1 k w) : Yd2 w_1 k w :=
 Yae (P := Tryz.prog) Tryz.func50 rfl (by kernel_rfl)
 (Qs [(1, .addr), (2, .addr)] [] (fun z_ => Zgo8 k z_.1 z_.2.1)
 Qz
 (fun (w_2, x2, _) => Qs [(3, .slice)] [1, 2] (fun z_ => Zgo7 k w_2 x2 z_.1)
 Qz
 (fun (out, _) => Qs [(3, .slice)] [2] (fun z_ => Zgo1 k x2 z_.1)
 (Qs [(4, .int .i64)] [1, 2, 3] (fun z_ => Zgo6 k w_2 x2 out z_.1)
 Qz
 (fun (i, _) => Qb (Ql [(3, .slice), (4, .int .i64)] [1, 2] (fun (z_ : (Sl × Int × Unit)) c_ => Zgo5 k w_2 x2 z_.1 z_.2.1 c_) (out, i, ())
 (fun (out_2, i_1, _) c => Qs [] [1, 2, 3, 4] (fun z_ => Zgo3 w_2 out_2 i_1 c)
 (Qs [(13, .bool)] [1, 2, 3, 4] (fun z_ => Zgo4 k w_2 x2 out_2 i_1 c z_.1)
 (Qp [5])
 (fun (x13, _) => Qc (x13) (Zgo3 w_2 out_2 i_1 c) (Zgo1 k x2 out_2) Qk Qx))
 (fun _ => Qs [(3, .slice)] [1, 2, 4] (fun z_ => Zgo2 i_1 c z_.1)
 (Qb Qz)
 (fun (out_3, _) => Qz))))))
 (fun (out_1, _) => Qs [] [2] (fun z_ => Zgo0 k x2)
 Qz
 (fun _ => Qr))))) h_
abbrev Zgp0 (k : (((OA × (OA × Sl)) × Bool) → K)) (x2 : Addr) (x3 : Bool) : K :=
 ldP (x2.add 0) fun x2_0 =>
 ldP (x2.add 1) fun x2_1 =>
 ldS (x2.add 2) fun x2_2 =>
 k ((x2_0, (x2_1, x2_2)), x3)
abbrev Zgp1 (k : (((OA × (OA × Sl)) × Bool) → K)) (x2 : Addr) (d : OA) (e_1 : Int) (a : OA) : K :=
 tick fun _ =>
 brK (e_1 == 0)
 (brK (!(Option.isNone a))
 (nn a fun x53 =>
 ldP (x53.add 0) fun x55 =>
 stK (x2.add 0) (.pointer a) <|
 stK (x2.add 1) (.pointer d) <|
 stK (x2.add 2) (.slice none 0 0) <|
 chk [.cell (x53.add 0) (.pointer x55)] fun _ =>
 Zgp0 k x2 (!(Option.isNone x55)))
 (stK (x2.add 0) (.pointer a) <|
 stK (x2.add 1) (.pointer d) <|
 stK (x2.add 2) (.slice none 0 0) <|
 Zgp0 k x2 false))
 (stK (x2.add 0) (.pointer a) <|
 stK (x2.add 1) (.pointer d) <|
 stK (x2.add 2) (.slice none 0 0) <|
 Zgp0 k x2 false)
abbrev Zgp2 (k : (((OA × (OA × Sl)) × Bool) → K)) (x2 : Addr) (d : OA) (m : OA) : K :=
 Ymq d m ⟨none, 0, 0⟩ fun x39 =>
 Zgp1 k x2 d x39.2 x39.1
abbrev Zgp3 (k : (((OA × (OA × Sl)) × Bool) → K)) (x2 : Addr) (x3_1 : Bool) : K :=
 ldP (x2.add 0) fun x2_0_1 =>
 ldP (x2.add 1) fun x2_1_1 =>
 ldS (x2.add 2) fun x2_2_1 =>
 k ((x2_0_1, (x2_1_1, x2_2_1)), x3_1)
abbrev Zgp4 (k : (((OA × (OA × Sl)) × Bool) → K)) (x2 : Addr) : K :=
 stK (x2.add 0) (.pointer none) <|
 stK (x2.add 1) (.pointer none) <|
 stK (x2.add 2) (.slice none 0 0) <|
 Zgp3 k x2 false
abbrev Zgp5 (k : (((OA × (OA × Sl)) × Bool) → K)) (x2 : Addr) (d : OA) (m : OA) (x34 : Bool) : K :=
 brK x34
 (Zgp4 k x2)
 (Zgp2 k x2 d m)
abbrev Zgp6 (k : (((OA × (OA × Sl)) × Bool) → K)) (x2 : Addr) (d : OA) (m : OA) (e : Int) : K :=
 brK (e != 0)
 (Zgp5 k x2 d m true)
 (Zgp5 k x2 d m (Option.isNone m))
abbrev Zgp7 (k : (((OA × (OA × Sl)) × Bool) → K)) (x2 : Addr) (g : Addr) (d : OA) : K :=
 ldI .i64 (g.add 0) fun x25_0 =>
 Ymp d x25_0 fun x26 =>
 Zgp6 k x2 d x26.1 x26.2
abbrev Zgp8 (k : (((OA × (OA × Sl)) × Bool) → K)) (x2 : Addr) (x3_2 : Bool) : K :=
 ldP (x2.add 0) fun x2_0_2 =>
 ldP (x2.add 1) fun x2_1_2 =>
 ldS (x2.add 2) fun x2_2_2 =>
 k ((x2_0_2, (x2_1_2, x2_2_2)), x3_2)
abbrev Zgp9 (k : (((OA × (OA × Sl)) × Bool) → K)) (x2 : Addr) : K :=
 stK (x2.add 0) (.pointer none) <|
 stK (x2.add 1) (.pointer none) <|
 stK (x2.add 2) (.slice none 0 0) <|
 Zgp8 k x2 false
abbrev Zgp10 (k : (((OA × (OA × Sl)) × Bool) → K)) (x2 : Addr) (g : Addr) (d : OA) (x21 : Bool) : K :=
 brK x21
 (Zgp9 k x2)
 (Zgp7 k x2 g d)
abbrev Zgp11 (k : (((OA × (OA × Sl)) × Bool) → K)) (x2 : Addr) (g : Addr) (d : OA) : K :=
 brK (Option.isNone d)
 (Zgp10 k x2 g d true)
 (ldI .i64 (g.add 0) fun x18_0 =>
 Yg0 d x18_0 fun x19 =>
 Zgp10 k x2 g d (x19 != 0))
abbrev Zgp12 (k : (((OA × (OA × Sl)) × Bool) → K)) (x2 : Addr) (g : Addr) : K :=
 ldI .i64 (g.add 0) fun x11_0 =>
 Yco x11_0 fun x12 =>
 Yrc x12 fun x13 =>
 Zgp11 k x2 g x13
abbrev Zgp13 (n : Int) (k : (((OA × (OA × Sl)) × Bool) → K)) (x2 : Addr) : K :=
 alK (.cells #[.int .i64 0] 43) fun b =>
 stK (Addr.add ⟨b, 0, none⟩ 0) (.int .i64 n) <|
 Zgp12 k x2 ⟨b, 0, none⟩
abbrev Ysm (n : Int) : M ((OA × (OA × Sl)) × Bool) := fun k =>
 alK (.cells #[.pointer none, .pointer none, .slice none 0 0] 29) fun b_1 =>
 Zgp13 n k ⟨b_1, 0, none⟩
theorem Yts (n : Int) (k : ((OA × (OA × Sl)) × Bool) → K) (w : World) (h_ : Ysm n k w) : Yiq n k w :=
 Yae (P := Tryz.prog) Tryz.func59 rfl (by kernel_rfl)
 (Qs [(2, .addr)] [0] (fun z_ => Zgp13 n k z_.1)
 Qz
 (fun (x2, _) => Qs [(4, .addr)] [2] (fun z_ => Zgp12 k x2 z_.1)
 Qz
 (fun (g, _) => Qs [(5, .ptr)] [2, 4] (fun z_ => Zgp11 k x2 g z_.1)
 Qz
 (fun (d, _) => Qs [] [2, 4, 5] (fun z_ => Zgp7 k x2 g d)
 (Qs [(21, .bool)] [2, 4, 5] (fun z_ => Zgp10 k x2 g d z_.1)
 (Qp [2])
 (fun (x21, _) => Qc (x21) (Zgp9 k x2) (Zgp7 k x2 g d) (Qs [(3, .bool)] [2] (fun z_ => Zgp8 k x2 z_.1)
 Qz
 (fun (x3_2, _) => Qr)) Qk))
 (fun _ => Qs [(6, .ptr), (7, .int .i64)] [2, 5] (fun z_ => Zgp6 k x2 d z_.1 z_.2.1)
 Qz
 (fun (m, e, _) => Qs [] [2, 5, 6] (fun z_ => Zgp2 k x2 d m)
 (Qs [(34, .bool)] [2, 5, 6] (fun z_ => Zgp5 k x2 d m z_.1)
 (Qp [2])
 (fun (x34, _) => Qc (x34) (Zgp4 k x2) (Zgp2 k x2 d m) (Qs [(3, .bool)] [2] (fun z_ => Zgp3 k x2 z_.1)
 Qz
 (fun (x3_1, _) => Qr)) Qk))
 (fun _ => Qs [(7, .int .i64), (8, .ptr)] [2, 5] (fun z_ => Zgp1 k x2 d z_.1 z_.2.1)
 Qz
 (fun (e_1, a, _) => Qs [(3, .bool)] [2] (fun z_ => Zgp0 k x2 z_.1)
 (RefK.draw [5, 9] [0, 0, 3, 0, 8, 24, 56, 120, 248, 504, 1016, 2040, 4088, 8184, 16376, 32760, 1023, 131071] [0, 1, 2, 3, 4, 5, 6, 7, 8, 9, 10, 11, 12, 13, 14, 15, 16, 17] [0, 1, 2, 3, 4, 5, 6, 7, 8, 9, 16, 10, 11, 12, 13, 14, 15, 17] (by kernel_rfl) (by kernel_rfl))
 (fun (x3, _) => Qr))))))))) h_
abbrev Zgq0 (k : (Sl → K)) (x1 : Sl) : K :=
 k x1
abbrev Zgq1 (cap0 : Addr) (k : (Sl → K)) : K :=
 ldP (cap0.add 4) fun x3 =>
 nn x3 fun x4 =>
 Zgq0 k ⟨(some (cutA x4 0 10 1)), (10 - 0), (10 - 0)⟩
abbrev Yov (cap0 : Addr) : M Sl := fun k =>
 Zgq1 cap0 k
theorem Yqz (cap0 : Addr) (k : Sl → K) (w : World) (h_ : Yov cap0 k w) : Yka cap0 k w :=
 Yae (P := Tryz.prog) Tryz.func61 rfl (by kernel_rfl)
 (Qs [] [0] (fun z_ => Zgq1 cap0 k)
 Qz
 (fun _ => Qs [(1, .slice)] [] (fun z_ => Zgq0 k z_.1)
 Qz
 (fun (x1, _) => Qr))) h_
abbrev Zgr0 (k : (Int → K)) (x2 : Int) : K :=
 k x2
abbrev Ysn (i : Int) : M Int := fun k =>
 Zgr0 k (Int.tmod (IntKind.wrap .i64 ((Int.tmod i 10) + 10)) 10)
theorem Ytt (i : Int) (k : Int → K) (w : World) (h_ : Ysn i k w) : Ygj i k w :=
 Yae (P := Tryz.prog) Tryz.func62 rfl (by kernel_rfl)
 (Qs [] [0] (fun z_ => Zgr0 k (Int.tmod (IntKind.wrap .i64 ((Int.tmod i 10) + 10)) 10))
 Qz
 (fun _ => Qs [(2, .int .i64)] [] (fun z_ => Zgr0 k z_.1)
 Qz
 (fun (x2, _) => Qr))) h_
end
section
variable {B : World} {P R : SL} {t : K}
end
end Go.Proofs.YtdgcbapclnnkkaaGreat.X
