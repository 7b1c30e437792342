/- Part 3 of the proof that the law holds for every input: the theorems of this part. Conditions: each theorem bears its own; the last has none. -/
import Derived.Test.YtdgcbapclnnkkaaGreatKb
import Derived.RangeFuncNested
import Derived.RangeFuncBound
import Derived.RangeFuncCalls
import Derived.RangeFuncLeaves
set_option linter.all false
set_option maxRecDepth 4000
namespace Go.Proofs.YtdgcbapclnnkkaaGreat.X
open Go
/-- cells that an address leads to, wherever the assertion holds -/
def At (P : SL) (a : Addr) (vs : List Value) : Prop := ∀ B w, Sat B P w → ∀ j v, vs[j]? = some v → w.cell? (a.add j) = some v
section
variable {B : World} {P Q R : SL} {t : K}
theorem At.init {a : Addr} {vs : List Value} (h : At P a vs) : At (P * Q) a vs := fun B w s => h B w s.left
theorem T_ixEl {s : Sl} {sz : Nat} {vs : List Value} {i : Int} {k : Addr → K} (hsz : 0 < sz) (h : Rd P s sz vs) (h0 : 0 ≤ i) (hi : (i.toNat + 1) * sz ≤ vs.length) (ht : ∀ a, At P a (cut vs (i.toNat * sz) sz) → T B P (k a)) : T B P (ixS s.p s.n i sz k) := by
  intro w hw
  obtain ⟨e1, _, e3⟩ := h B w hw
  have hlt : i.toNat < s.n := by
    rw [e1] at hi
    exact Nat.le_of_mul_le_mul_right hi hsz
  rw [Nat.add_mul, Nat.one_mul] at hi
  rcases e3 with ⟨_, rfl⟩ | ⟨a, p1, p2⟩
  · simp at hi; omega
  · refine ⟨a, p1, ⟨h0, by omega⟩, ht _ (fun B' w' hw' j v hj => ?_) w hw⟩
    obtain ⟨_, _, f3⟩ := h B' w' hw'
    have hjs : j < sz := by
      have : (cut vs (i.toNat * sz) sz).length = sz := cut_length hi
      rw [← this]; exact (List.getElem?_eq_some_iff.1 hj).1
    rw [cut_get hjs] at hj
    rcases f3 with ⟨q1, _⟩ | ⟨a', q1, q2⟩
    · rw [p1] at q1; cases q1
    · rw [p1] at q1; cases q1
      rw [add_add]; exact q2 _ _ hj
theorem T_ldAt {a : Addr} {vs : List Value} {j : Nat} {kd : IntKind} {n : Int} {k : Int → K} (h : At P a vs) (hj : vs[j]? = some (.int kd n)) (ht : T B P (k n)) : T B P (ldI kd (a.add j) k) :=
  fun w hw => ⟨n, h B w hw j _ hj, ht w hw⟩
theorem T_vopen {E : TypeId} {sz : Nat} {s : Sl} {vs : List Value} (hF : Frm P (vec E sz s vs) R) (hne : vs ≠ [])
    (ht : ∀ b rest, s.p = some ⟨b, 0, none⟩ → s.n * sz = vs.length → s.c * sz = vs.length + rest.length → s.c ≤ maxLen → T B (R * pt b (.cells (vs ++ rest).toArray E)) t) : T B P t := by
  unfold Frm at hF; subst hF
  intro w hw
  rcases vec_cases hw with ⟨_, _, rfl, _⟩ | ⟨b, rest, h1, h2, h3, h4, hR⟩
  · exact absurd rfl hne
  · exact ht b rest h1 h2 h3 h4 w hR
/-- headers of blocks -/
def hds (l : List Hd) : List Value := l.flatMap fun h => [.int .i64 h.1, .int .i64 h.2.1, .int .i64 h.2.2]
def prs (l : List (Int × Int)) : List Value := l.flatMap fun h => [.int .i64 h.1, .int .i64 h.2]
theorem kd_hd : Kd Tryz.prog 80 143 3 := ⟨by kernel_rfl, by kernel_rfl, by kernel_rfl, by kernel_rfl, by kernel_rfl, by decide +kernel, by decide +kernel⟩
theorem kd_sp : Kd Tryz.prog 150 152 2 := ⟨by kernel_rfl, by kernel_rfl, by kernel_rfl, by kernel_rfl, by kernel_rfl, by decide +kernel, by decide +kernel⟩
theorem hds_cons (h : Hd) (l : List Hd) : hds (h :: l) = .int .i64 h.1 :: .int .i64 h.2.1 :: .int .i64 h.2.2 :: hds l := rfl
theorem prs_cons (h : Int × Int) (l : List (Int × Int)) : prs (h :: l) = .int .i64 h.1 :: .int .i64 h.2 :: prs l := rfl
theorem hds_append (l m : List Hd) : hds (l ++ m) = hds l ++ hds m := List.flatMap_append
theorem prs_append (l m : List (Int × Int)) : prs (l ++ m) = prs l ++ prs m := List.flatMap_append
theorem hds_len (l : List Hd) : (hds l).length = l.length * 3 := by
  induction l with
  | nil => rfl
  | cons h l ih => rw [hds_cons]; simp only [List.length_cons, ih]; omega
theorem prs_len (l : List (Int × Int)) : (prs l).length = l.length * 2 := by
  induction l with
  | nil => rfl
  | cons h l ih => rw [prs_cons]; simp only [List.length_cons, ih]; omega
theorem hds_scal (l : List Hd) : (hds l).all scal = true := by
  induction l with
  | nil => rfl
  | cons h l ih => rw [hds_cons]; simp only [List.all_cons, ih, scal, Bool.and_self]
theorem hds_cut {l : List Hd} {i : Nat} (h : i < l.length) : cut (hds l) (i * 3) 3 = [.int .i64 l[i].1, .int .i64 l[i].2.1, .int .i64 l[i].2.2] := by
  induction l generalizing i with
  | nil => simp at h
  | cons x l ih =>
    cases i with
    | zero => rfl
    | succ i =>
      have := ih (i := i) (by simpa using h)
      rw [hds_cons, List.getElem_cons_succ, ← this]
      unfold cut
      rw [show (i + 1) * 3 = i * 3 + 1 + 1 + 1 by omega]; rfl
theorem prs_cut {l : List (Int × Int)} {i : Nat} (h : i < l.length) : cut (prs l) (i * 2) 2 = [.int .i64 l[i].1, .int .i64 l[i].2] := by
  induction l generalizing i with
  | nil => simp at h
  | cons x l ih =>
    cases i with
    | zero => rfl
    | succ i =>
      have := ih (i := i) (by simpa using h)
      rw [prs_cons, List.getElem_cons_succ, ← this]
      unfold cut
      rw [show (i + 1) * 2 = i * 2 + 1 + 1 by omega]; rfl
theorem hds_set {l : List Hd} {i : Nat} {x : Hd} (h : i < l.length) : (((hds l).set (i * 3) (.int .i64 x.1)).set (i * 3 + 1) (.int .i64 x.2.1)).set (i * 3 + 2) (.int .i64 x.2.2) = hds (l.set i x) := by
  induction l generalizing i with
  | nil => simp at h
  | cons y l ih =>
    cases i with
    | zero => rfl
    | succ i =>
      have := ih (i := i) (by simpa using h)
      rw [List.set_cons_succ, hds_cons, hds_cons, ← this, show (i + 1) * 3 = i * 3 + 1 + 1 + 1 by omega]; rfl
theorem prs_set1 {l : List (Int × Int)} {i : Nat} {x : Int} (h : i < l.length) : (prs l).set (i * 2 + 1) (.int .i64 x) = prs (l.set i (l[i].1, x)) := by
  induction l generalizing i with
  | nil => simp at h
  | cons y l ih =>
    cases i with
    | zero => rfl
    | succ i =>
      have := ih (i := i) (by simpa using h)
      rw [List.getElem_cons_succ, List.set_cons_succ, prs_cons, prs_cons, ← this, show (i + 1) * 2 + 1 = i * 2 + 1 + 1 + 1 by omega]; rfl
theorem repZ_hds (n : Nat) : repZ (zerosP Tryz.prog 143) n = hds (List.replicate n (0, 0, 0)) := by
  have : zerosP Tryz.prog 143 = [.int .i64 0, .int .i64 0, .int .i64 0] := by kernel_rfl
  rw [this]
  induction n with
  | zero => rfl
  | succ n ih => rw [List.replicate_succ, hds_cons, ← ih]; rfl
/-- a header out of a slice -/
theorem T_ixH {s : Sl} {l : List Hd} {i : Int} {k : Addr → K} (h : Rd P s 3 (hds l)) (h0 : 0 ≤ i) (hi : i.toNat < l.length)
    (ht : ∀ a, At P a [.int .i64 l[i.toNat].1, .int .i64 l[i.toNat].2.1, .int .i64 l[i.toNat].2.2] → T B P (k a)) : T B P (ixS s.p s.n i 3 k) := by
  refine T_ixEl (by omega) h h0 (by rw [hds_len]; omega) fun a ha => ?_
  rw [hds_cut hi] at ha
  exact ht a ha
theorem T_ixP {s : Sl} {l : List (Int × Int)} {i : Int} {k : Addr → K} (h : Rd P s 2 (prs l)) (h0 : 0 ≤ i) (hi : i.toNat < l.length)
    (ht : ∀ a, At P a [.int .i64 l[i.toNat].1, .int .i64 l[i.toNat].2] → T B P (k a)) : T B P (ixS s.p s.n i 2 k) := by
  refine T_ixEl (by omega) h h0 (by rw [prs_len]; omega) fun a ha => ?_
  rw [prs_cut hi] at ha
  exact ht a ha
theorem T_stH {s : Sl} {l : List Hd} {i : Int} {x : Hd} (hF : Frm P (vec 143 3 s (hds l)) R) (h0 : 0 ≤ i) (hi : i.toNat < l.length) (ht : T B (R * vec 143 3 s (hds (l.set i.toNat x))) t) :
    T B P (ixS s.p s.n i 3 fun a => stK (a.add 0) (.int .i64 x.1) (stK (a.add 1) (.int .i64 x.2.1) (stK (a.add 2) (.int .i64 x.2.2) t))) := by
  have hl := hds_len l
  refine T_vopen hF (fun e => by rw [e] at hl; simp at hl; omega) fun b rest h1 h2 h3 h4 => ?_
  refine T_ixS h1 h0 (by omega) ?_
  rw [add_mk, Nat.zero_add]
  refine T_st (i := i.toNat * 3) (by rw [add_mk]; rfl) Upd.last (by simp; omega) ?_
  refine T_st (i := i.toNat * 3 + 1) (by rw [add_mk]) Upd.last (by simp; omega) ?_
  refine T_st (i := i.toNat * 3 + 2) (by rw [add_mk]) Upd.last (by simp; omega) ?_
  rw [List.set_append_left _ _ (by omega), List.set_append_left _ _ (by simp; omega), List.set_append_left _ _ (by simp; omega), hds_set hi]
  refine T_vecI h1 ?_ ?_ h4 ht
  · rw [h2, hds_len, hds_len]; simp
  · rw [h3, hds_len, hds_len]; simp
theorem T_stP1 {s : Sl} {l : List (Int × Int)} {i : Int} {x : Int} (hF : Frm P (vec 152 2 s (prs l)) R) (h0 : 0 ≤ i) (hi : i.toNat < l.length) (ht : T B (R * vec 152 2 s (prs (l.set i.toNat (l[i.toNat].1, x)))) t) :
    T B P (ixS s.p s.n i 2 fun a => stK ((a.add 1).add 0) (.int .i64 x) t) := by
  have hl := prs_len l
  refine T_vopen hF (fun e => by rw [e] at hl; simp at hl; omega) fun b rest h1 h2 h3 h4 => ?_
  refine T_ixS h1 h0 (by omega) ?_
  rw [add_mk, Nat.zero_add]
  refine T_st (i := i.toNat * 2 + 1) (by rw [add_mk, add_mk]) Upd.last (by simp; omega) ?_
  rw [List.set_append_left _ _ (by omega), prs_set1 hi]
  refine T_vecI h1 ?_ ?_ h4 ht
  · rw [h2, prs_len, prs_len]; simp
  · rw [h3, prs_len, prs_len]; simp
end
section
set_option maxRecDepth 100000
abbrev Zci0 (k : (Int → K)) (x2 : Int) : K :=
  k x2
abbrev Zci1 (t : OA) (k : (Int → K)) : K :=
  nn t fun x4 =>
  ldS (x4.add 2) fun x6 =>
  Zci0 k ((x6.n : Nat) : Int)
abbrev blocks_Table_Len (t : OA) : M Int := fun k =>
  Zci1 t k
theorem blocks_Table_Len_ok (t : OA) (k : Int → K) (w : World) (hyp_ : blocks_Table_Len t k w) : c_blocks_Table_Len t k w :=
  cl_of (P := Tryz.prog) Tryz.func13 rfl (by kernel_rfl)
  (Qs [] [0] (fun z_ => Zci1 t k)
  Qz
  (fun _ => Qs [(2, .int .i64)] [] (fun z_ => Zci0 k z_.1)
  Qz
  (fun ⟨x2, _⟩ => Qr))) hyp_
abbrev Zcj0 (k : (Sl → K)) (x2 : Sl) : K :=
  k x2
abbrev Zcj1 (t : OA) (k : (Sl → K)) : K :=
  alK (.cells #[] 143) fun b =>
  nn t fun x5 =>
  ldS (x5.add 2) fun x7 =>
  semT Tryz.prog (Builtin.append_ #[80, 80] 80 #[.slice (some ⟨b, 0, none⟩) 0 0, x7.v]) (.one (.sc (.slice))) fun x8 =>
  Zcj0 k x8
abbrev blocks_Table_All (t : OA) : M Sl := fun k =>
  Zcj1 t k
theorem blocks_Table_All_ok (t : OA) (k : Sl → K) (w : World) (hyp_ : blocks_Table_All t k w) : c_blocks_Table_All t k w :=
  cl_of (P := Tryz.prog) Tryz.func36 rfl (by kernel_rfl)
  (Qs [] [0] (fun z_ => Zcj1 t k)
  Qz
  (fun _ => Qs [(2, .slice)] [] (fun z_ => Zcj0 k z_.1)
  Qz
  (fun ⟨x2, _⟩ => Qr))) hyp_
abbrev Zck0 (k : (Int → K)) (x2 : Addr) : K :=
  ldI .i64 (x2.add 0) fun x2_0 =>
  k x2_0
abbrev Zck1 (m : OA) (k : (Int → K)) (x2 : Addr) : K :=
  nn m fun x4 =>
  ldI .i64 (Addr.add (x4.add 2) 0) fun x6_0 =>
  stK (x2.add 0) (.int .i64 x6_0) <|
  Zck0 k x2
abbrev bman_Manager_Geometry (m : OA) : M Int := fun k =>
  alK (.cells #[.int .i64 0] 43) fun b =>
  Zck1 m k ⟨b, 0, none⟩
theorem bman_Manager_Geometry_ok (m : OA) (k : Int → K) (w : World) (hyp_ : bman_Manager_Geometry m k w) : c_bman_Manager_Geometry m k w :=
  cl_of (P := Tryz.prog) Tryz.func57 rfl (by kernel_rfl)
  (Qs [(2, .addr)] [0] (fun z_ => Zck1 m k z_.1)
  Qz
  (fun ⟨x2, _⟩ => Qs [] [2] (fun z_ => Zck0 k x2)
  Qz
  (fun _ => Qr))) hyp_
abbrev Zcl0 (k : (Bool → K)) (x4 : Bool) : K :=
  k x4
abbrev Zcl1 (s : OA) (at_1 : Int) (k : (Bool → K)) : K :=
  c_bitmap_Set_in s at_1 fun x7 =>
  brK x7
  (nn s fun x10 =>
  ldS (x10.add 0) fun x12 =>
  ixS x12.p x12.n (IntKind.wrap .i64 (Int.tdiv at_1 64)) 1 fun x15 =>
  ldI .u64 x15 fun x16 =>
  nneg (IntKind.wrap .u64 (Int.tmod at_1 64)) <|
  Zcl0 k ((bitI .and .u64 (shrI .u64 x16 (IntKind.wrap .u64 (Int.tmod at_1 64))) 1) == 1))
  (Zcl0 k false)
abbrev bitmap_Set_Has (s : OA) (at_1 : Int) : M Bool := fun k =>
  Zcl1 s at_1 k
theorem bitmap_Set_Has_ok (s : OA) (at_1 : Int) (k : Bool → K) (w : World) (hyp_ : bitmap_Set_Has s at_1 k w) : c_bitmap_Set_Has s at_1 k w :=
  cl_of (P := Tryz.prog) Tryz.func77 rfl (by kernel_rfl)
  (Qs [] [0, 1] (fun z_ => Zcl1 s at_1 k)
  Qz
  (fun _ => Qs [(4, .bool)] [] (fun z_ => Zcl0 k z_.1)
  (Qp [3])
  (fun ⟨x4, _⟩ => Qr))) hyp_
abbrev Zcm0 (k : (Int → K)) (x4 : Int) : K :=
  k x4
abbrev Zcm1 (m : OA) (block : Int) (k : (Int → K)) (n_1 : Int) : K :=
  nn m fun x50 =>
  ldP (x50.add 1) fun x52 =>
  c_runs_Index_Give x52 block n_1 fun x55 =>
  Zcm0 k x55
abbrev Zcm2 (k : (Int → K)) (x4_1 : Int) : K :=
  k x4_1
abbrev Zcm3 (m : OA) (block : Int) (k : (Int → K)) (n_1 : Int) (e : Int) (x47 : Bool) : K :=
  brK x47
  (Zcm2 k e)
  (Zcm1 m block k n_1)
abbrev Zcm4 (m : OA) (block : Int) (k : (Int → K)) (n_1 : Int) (e : Int) : K :=
  Zcm3 m block k n_1 e (e != 0)
abbrev Zcm5 (m : OA) (block : Int) (k : (Int → K)) (n_1 : Int) : K :=
  tick fun _ =>
  nn m fun x37 =>
  ldP (x37.add 0) fun x39 =>
  mkS Tryz.prog 143 (IntKind.wrap .i64 (n_1 - 1)) (IntKind.wrap .i64 (n_1 - 1)) fun b =>
  c_blocks_Table_Put x39 (IntKind.wrap .i64 (block + 1)) ⟨(some ⟨b, 0, none⟩), (Int.toNat (IntKind.wrap .i64 (n_1 - 1))), (Int.toNat (IntKind.wrap .i64 (n_1 - 1)))⟩ fun x45 =>
  Zcm4 m block k n_1 x45
abbrev Zcm6 (m : OA) (block : Int) (k : (Int → K)) (n_1 : Int) (x35 : Bool) : K :=
  brK x35
  (Zcm5 m block k n_1)
  (Zcm1 m block k n_1)
abbrev Zcm7 (k : (Int → K)) (x4_2 : Int) : K :=
  k x4_2
abbrev Zcm8 (m : OA) (block : Int) (k : (Int → K)) (n_1 : Int) (e_1 : Int) (x32 : Bool) : K :=
  brK x32
  (Zcm7 k e_1)
  (Zcm6 m block k n_1 (decide (n_1 > 1)))
abbrev Zcm9 (m : OA) (block : Int) (k : (Int → K)) (n_1 : Int) (e_1 : Int) : K :=
  Zcm8 m block k n_1 e_1 (e_1 != 0)
abbrev Zcm10 (m : OA) (block : Int) (k : (Int → K)) (n_1 : Int) : K :=
  nn m fun x24 =>
  ldP (x24.add 0) fun x26 =>
  alK (.cells #[.int .i64 0, .int .i64 0, .int .i64 0] 143) fun b_1 =>
  c_blocks_Table_Put x26 block ⟨(some ⟨b_1, 0, none⟩), 1, 1⟩ fun x30 =>
  Zcm9 m block k n_1 x30
abbrev Zcm11 (k : (Int → K)) (x4_3 : Int) : K :=
  k x4_3
abbrev Zcm12 (m : OA) (block : Int) (k : (Int → K)) (h : Addr) : K :=
  ldI .i64 (h.add 2) fun x22 =>
  Zcm10 m block k x22
abbrev Zcm13 (m : OA) (block : Int) (k : (Int → K)) (h : Addr) (x19 : Bool) : K :=
  brK x19
  (Zcm12 m block k h)
  (Zcm11 k 42)
abbrev Zcm14 (m : OA) (block : Int) (k : (Int → K)) (h : Addr) (n : Int) (x16 : Int) (x17 : Bool) : K :=
  brK x17
  (Zcm10 m block k n)
  (Zcm13 m block k h (x16 == 2))
abbrev Zcm15 (m : OA) (block : Int) (k : (Int → K)) (h : Addr) (n : Int) (x16 : Int) : K :=
  Zcm14 m block k h n x16 (x16 == 1)
abbrev Zcm16 (m : OA) (block : Int) (k : (Int → K)) (h : Addr) (n : Int) : K :=
  ldI .i64 (h.add 0) fun x16_1 =>
  Zcm15 m block k h n x16_1
abbrev Zcm17 (m : OA) (block : Int) (k : (Int → K)) (h : Addr) : K :=
  Zcm16 m block k h 1
abbrev Zcm18 (m : OA) (block : Int) (k : (Int → K)) : K :=
  nn m fun x10 =>
  ldP (x10.add 0) fun x12 =>
  c_blocks_Table_Get x12 block fun x14 =>
  alK (.cells #[.int .i64 0, .int .i64 0, .int .i64 0] 143) fun b_2 =>
  stK (Addr.add ⟨b_2, 0, none⟩ 0) (.int .i64 x14.1) <|
  stK (Addr.add ⟨b_2, 0, none⟩ 1) (.int .i64 x14.2.1) <|
  stK (Addr.add ⟨b_2, 0, none⟩ 2) (.int .i64 x14.2.2) <|
  Zcm17 m block k ⟨b_2, 0, none⟩
abbrev bman_Manager_Release (m : OA) (block : Int) : M Int := fun k =>
  Zcm18 m block k
theorem bman_Manager_Release_ok (m : OA) (block : Int) (k : Int → K) (w : World) (hyp_ : bman_Manager_Release m block k w) : c_bman_Manager_Release m block k w :=
  cl_of (P := Tryz.prog) Tryz.func79 rfl (by kernel_rfl)
  (Qs [] [0, 1] (fun z_ => Zcm18 m block k)
  Qz
  (fun _ => Qs [(5, .addr)] [0, 1] (fun z_ => Zcm17 m block k z_.1)
  Qz
  (fun ⟨h, _⟩ => Qs [(6, .int .i64)] [0, 1, 5] (fun z_ => Zcm16 m block k h z_.1)
  Qz
  (fun ⟨n, _⟩ => Qs [(6, .int .i64)] [0, 1] (fun z_ => Zcm10 m block k z_.1)
  (Qs [(16, .int .i64)] [0, 1, 5, 6] (fun z_ => Zcm15 m block k h n z_.1)
  Qz
  (fun ⟨x16, _⟩ => Qb (Qs [(17, .bool)] [0, 1, 5, 6, 16] (fun z_ => Zcm14 m block k h n x16 z_.1)
  Qz
  (fun ⟨x17, _⟩ => Qc (x17) (Zcm10 m block k n) (Zcm13 m block k h (x16 == 2)) Qk (Qs [(19, .bool)] [0, 1, 5] (fun z_ => Zcm13 m block k h z_.1)
  Qz
  (fun ⟨x19, _⟩ => Qc (x19) (Zcm12 m block k h) (Zcm11 k 42) Qz (Qs [(4, .int .i64)] [] (fun z_ => Zcm11 k z_.1)
  Qz
  (fun ⟨x4_3, _⟩ => Qr))))))))
  (fun ⟨n_1, _⟩ => Qs [] [0, 1, 6] (fun z_ => Zcm6 m block k n_1 (decide (n_1 > 1)))
  (Qs [(7, .int .i64)] [0, 1, 6] (fun z_ => Zcm9 m block k n_1 z_.1)
  Qz
  (fun ⟨e_1, _⟩ => Qs [(32, .bool)] [0, 1, 6, 7] (fun z_ => Zcm8 m block k n_1 e_1 z_.1)
  Qz
  (fun ⟨x32, _⟩ => Qc (x32) (Zcm7 k e_1) (Zcm6 m block k n_1 (decide (n_1 > 1))) (Qs [(4, .int .i64)] [] (fun z_ => Zcm7 k z_.1)
  Qz
  (fun ⟨x4_2, _⟩ => Qr)) Qk)))
  (fun _ => Qs [] [0, 1, 6] (fun z_ => Zcm1 m block k n_1)
  (Qs [(35, .bool)] [0, 1, 6] (fun z_ => Zcm6 m block k n_1 z_.1)
  Qz
  (fun ⟨x35, _⟩ => Qc (x35) (Zcm5 m block k n_1) (Zcm1 m block k n_1) (Qs [(8, .int .i64)] [0, 1, 6] (fun z_ => Zcm4 m block k n_1 z_.1)
  (RefK.draw [] [0, 1, 3, 7, 0, 16, 0, 64, 192, 511, 1023] [0, 1, 2, 3, 4, 5, 6, 7, 8, 9, 10] [0, 1, 2, 3, 4, 5, 6, 7, 8, 9, 10] (by kernel_rfl) (by kernel_rfl))
  (fun ⟨e, _⟩ => Qs [(47, .bool)] [0, 1, 6, 8] (fun z_ => Zcm3 m block k n_1 e z_.1)
  Qz
  (fun ⟨x47, _⟩ => Qc (x47) (Zcm2 k e) (Zcm1 m block k n_1) (Qs [(4, .int .i64)] [] (fun z_ => Zcm2 k z_.1)
  Qz
  (fun ⟨x4_1, _⟩ => Qr)) Qk))) Qk))
  (fun _ => Qs [(4, .int .i64)] [] (fun z_ => Zcm0 k z_.1)
  Qz
  (fun ⟨x4, _⟩ => Qr)))))))) hyp_
abbrev Zcn0 (k : (Bool → K)) (x4 : Bool) : K :=
  k x4
abbrev Zcn1 (s : OA) (k : (Bool → K)) : K :=
  nn s fun x24 =>
  ldI .i64 (x24.add 2) fun x26 =>
  nn s fun x28 =>
  stK (Addr.add (x28.add 2) 0) (.int .i64 (IntKind.wrap .i64 (x26 - 1))) <|
  Zcn0 k true
abbrev Zcn2 (s : OA) (at_1 : Int) (k : (Bool → K)) : K :=
  nn s fun x10 =>
  ldS (x10.add 0) fun x12 =>
  ixS x12.p x12.n (IntKind.wrap .i64 (Int.tdiv at_1 64)) 1 fun x15 =>
  ldI .u64 x15 fun x16 =>
  nneg (IntKind.wrap .u64 (Int.tmod at_1 64)) <|
  ixS x12.p x12.n (IntKind.wrap .i64 (Int.tdiv at_1 64)) 1 fun x22 =>
  stK (x22.add 0) (.int .u64 (bitI .andNot .u64 x16 (shlI .u64 1 (IntKind.wrap .u64 (Int.tmod at_1 64))))) <|
  Zcn1 s k
abbrev Zcn3 (k : (Bool → K)) (x4_1 : Bool) : K :=
  k x4_1
abbrev Zcn4 (s : OA) (at_1 : Int) (k : (Bool → K)) (x8 : Bool) : K :=
  brK x8
  (Zcn3 k false)
  (Zcn2 s at_1 k)
abbrev Zcn5 (s : OA) (at_1 : Int) (k : (Bool → K)) : K :=
  c_bitmap_Set_Has s at_1 fun x7 =>
  Zcn4 s at_1 k (!x7)
abbrev bitmap_Set_Drop (s : OA) (at_1 : Int) : M Bool := fun k =>
  Zcn5 s at_1 k
theorem bitmap_Set_Drop_ok (s : OA) (at_1 : Int) (k : Bool → K) (w : World) (hyp_ : bitmap_Set_Drop s at_1 k w) : c_bitmap_Set_Drop s at_1 k w :=
  cl_of (P := Tryz.prog) Tryz.func81 rfl (by kernel_rfl)
  (Qs [] [0, 1] (fun z_ => Zcn5 s at_1 k)
  Qz
  (fun _ => Qs [] [0, 1] (fun z_ => Zcn2 s at_1 k)
  (Qs [(8, .bool)] [0, 1] (fun z_ => Zcn4 s at_1 k z_.1)
  Qz
  (fun ⟨x8, _⟩ => Qc (x8) (Zcn3 k false) (Zcn2 s at_1 k) (Qs [(4, .bool)] [] (fun z_ => Zcn3 k z_.1)
  Qz
  (fun ⟨x4_1, _⟩ => Qr)) Qk))
  (fun _ => Qs [] [0] (fun z_ => Zcn1 s k)
  Qz
  (fun _ => Qs [] [] (fun z_ => Zcn0 k true)
  Qz
  (fun _ => Qs [(4, .bool)] [] (fun z_ => Zcn0 k z_.1)
  Qz
  (fun ⟨x4, _⟩ => Qr)))))) hyp_
abbrev Zco0 (k : (Int → K)) (x6 : Int) : K :=
  k x6
abbrev Zco1 (l : OA) (k_1 : Int) (at_1 : Int) (k : (Int → K)) : K :=
  tick fun _ =>
  nn l fun x20 =>
  ixA (x20.add 0) 32 k_1 1 fun x22 =>
  ldS x22 fun x23 =>
  nn l fun x27 =>
  alK (.cells #[.int .i64 at_1] 3) fun b =>
  semT Tryz.prog (Builtin.append_ #[27, 27] 27 #[x23.v, .slice (some ⟨b, 0, none⟩) 1 1]) (.one (.sc (.slice))) fun x26 =>
  ixA (x27.add 0) 32 k_1 1 fun x29 =>
  stK (x29.add 0) (x26.v) <|
  Zco0 k 0
abbrev Zco2 (k : (Int → K)) (x6_1 : Int) : K :=
  k x6_1
abbrev Zco3 (k : (Int → K)) (x6_2 : Int) : K :=
  k x6_2
abbrev Zco4 (l : OA) (k_1 : Int) (at_1 : Int) (k : (Int → K)) (x11 : Bool) : K :=
  brK x11
  (Zco3 k 41)
  (Zco1 l k_1 at_1 k)
abbrev Zco5 (l : OA) (k_1 : Int) (at_1 : Int) (k : (Int → K)) : K :=
  c_free_Lists_Has l k_1 at_1 fun x15 =>
  Zco4 l k_1 at_1 k x15
abbrev Zco6 (l : OA) (k_1 : Int) (at_1 : Int) (k : (Int → K)) (x7 : Bool) : K :=
  brK x7
  (Zco2 k 1)
  (Zco5 l k_1 at_1 k)
abbrev Zco7 (l : OA) (k_1 : Int) (at_1 : Int) (k : (Int → K)) : K :=
  c_class_Right k_1 fun x9 =>
  Zco6 l k_1 at_1 k (!x9)
abbrev free_Lists_Push (l : OA) (k_1 : Int) (at_1 : Int) : M Int := fun k =>
  Zco7 l k_1 at_1 k
theorem free_Lists_Push_ok (l : OA) (k_1 : Int) (at_1 : Int) (k : Int → K) (w : World) (hyp_ : free_Lists_Push l k_1 at_1 k w) : c_free_Lists_Push l k_1 at_1 k w :=
  cl_of (P := Tryz.prog) Tryz.func82 rfl (by kernel_rfl)
  (Qs [] [0, 1, 2] (fun z_ => Zco7 l k_1 at_1 k)
  Qz
  (fun _ => Qs [] [0, 1, 2] (fun z_ => Zco1 l k_1 at_1 k)
  (Qb (Qs [(7, .bool)] [0, 1, 2] (fun z_ => Zco6 l k_1 at_1 k z_.1)
  Qz
  (fun ⟨x7, _⟩ => Qc (x7) (Zco2 k 1) (Zco5 l k_1 at_1 k) (Qs [(6, .int .i64)] [] (fun z_ => Zco2 k z_.1)
  Qz
  (fun ⟨x6_1, _⟩ => Qr)) (Qs [(11, .bool)] [0, 1, 2] (fun z_ => Zco4 l k_1 at_1 k z_.1)
  Qz
  (fun ⟨x11, _⟩ => Qc (x11) (Zco3 k 41) (Zco1 l k_1 at_1 k) (Qs [(6, .int .i64)] [] (fun z_ => Zco3 k z_.1)
  Qz
  (fun ⟨x6_2, _⟩ => Qr)) Qk)))))
  (fun _ => Qs [] [] (fun z_ => Zco0 k 0)
  (RefK.draw [] [0, 0, 0, 0, 4, 20, 60, 124, 0, 256, 1020, 1, 2049, 8191, 16383] [0, 1, 2, 3, 4, 5, 6, 7, 8, 11, 12, 9, 10, 13, 14] [0, 1, 2, 3, 4, 5, 6, 7, 8, 9, 10, 11, 12, 13, 14] (by kernel_rfl) (by kernel_rfl))
  (fun _ => Qs [(6, .int .i64)] [] (fun z_ => Zco0 k z_.1)
  Qz
  (fun ⟨x6, _⟩ => Qr))))) hyp_
abbrev Zcp0 (k : (Int → K)) (x8 : Int) : K :=
  k x8
abbrev Zcp1 (x0 : OA) (k : (Int → K)) (x9 : Addr) (x10 : Sl) (x11 : Int) : K :=
  tick fun _ =>
  nn x0 fun x64 =>
  ldM (x64.add 32) fun x66 =>
  ldI .i64 (x9.add 0) fun x67_0 =>
  ldI .i64 (x9.add 1) fun x67_1 =>
  loB (some (.int .i64 x11)) 0 x10.n fun l =>
  c_slices_Clone_Sint_int ⟨(cutP x10.p l x10.c 1), (x10.n - l), (x10.c - l)⟩ fun x71 =>
  chk [.cell (x9.add 0) (.int .i64 x67_0), .cell (x9.add 1) (.int .i64 x67_1), .cell (x64.add 32) (.map x66)] fun _ =>
  semU Tryz.prog (Instr.mapUpdate 197 (.map x66) (.agg #[.int .i64 x67_0, .int .i64 x67_1]) x71.v) <|
  Zcp0 k 0
abbrev Zcp2 (x0 : OA) (x2 : Int) (k : (Int → K)) (x9 : Addr) (x10 : Sl) (x11 : Int) : K :=
  tick fun _ =>
  nn x0 fun x52 =>
  ixA (x52.add 0) 32 x2 1 fun x54 =>
  ldS x54 fun x55 =>
  loB (some (.int .i64 x11)) x10.n x10.c fun h =>
  nn x0 fun x60 =>
  semT Tryz.prog (Builtin.append_ #[27, 27] 27 #[x55.v, .slice (cutP x10.p 0 x10.c 1) (h - 0) (x10.c - 0)]) (.one (.sc (.slice))) fun x59 =>
  ixA (x60.add 0) 32 x2 1 fun x62 =>
  stK (x62.add 0) (x59.v) <|
  Zcp1 x0 k x9 x10 x11
abbrev Zcp3 (x0 : OA) (x2 : Int) (k : (Int → K)) (x9 : Addr) (x10 : Sl) (x44 : Bool) : K :=
  brK x44
  (Zcp2 x0 x2 k x9 x10 (IntKind.wrap .i64 (Int.tdiv ((x10.n : Nat) : Int) 2)))
  (Zcp0 k 0)
abbrev Zcp4 (x0 : OA) (x2 : Int) (k : (Int → K)) (x9 : Addr) (x10 : Sl) : K :=
  Zcp3 x0 x2 k x9 x10 (decide (((x10.n : Nat) : Int) > 8))
abbrev Zcp5 (x0 : OA) (x2 : Int) (k : (Int → K)) (x9 : Addr) : K :=
  tick fun _ =>
  nn x0 fun x37 =>
  ldM (x37.add 32) fun x39 =>
  ldI .i64 (x9.add 0) fun x40_0 =>
  ldI .i64 (x9.add 1) fun x40_1 =>
  lkE Tryz.prog 201 (.slice none 0 0) (.sc (.slice)) x39 (.agg #[.int .i64 x40_0, .int .i64 x40_1]) fun r ob x41 ok =>
  Zcp4 x0 x2 k x9 x41
abbrev Zcp6 (x0 : OA) (x2 : Int) (x3 : Int) (k : (Int → K)) (x9 : Addr) : K :=
  tick fun _ =>
  nn x0 fun x26 =>
  ldM (x26.add 32) fun x28 =>
  ldI .i64 (x9.add 0) fun x29_0 =>
  ldI .i64 (x9.add 1) fun x29_1 =>
  alK (.cells #[.int .i64 x3] 3) fun b =>
  semT Tryz.prog (Instr.mapEntry 197 (.map x28) (.agg #[.int .i64 x29_0, .int .i64 x29_1])) (.tup [.sc (.slice), .sc (.int .i64)]) fun e =>
  semT Tryz.prog (Builtin.append_ #[27, 27] 27 #[e.1.v, .slice (some ⟨b, 0, none⟩) 1 1]) (.one (.sc (.slice))) fun x34 =>
  semU Tryz.prog (Instr.entryStore 197 (.map x28) (.int .i64 e.2) x34.v) <|
  Zcp5 x0 x2 k x9
abbrev Zcp7 (x0 : OA) (x1 : Int) (x2 : Int) (x3 : Int) (k : (Int → K)) : K :=
  alK (.cells #[.int .i64 0, .int .i64 0] 201) fun b_1 =>
  stK (Addr.add ⟨b_1, 0, none⟩ 0) (.int .i64 x1) <|
  stK (Addr.add ⟨b_1, 0, none⟩ 1) (.int .i64 x2) <|
  Zcp6 x0 x2 x3 k ⟨b_1, 0, none⟩
abbrev Zcp8 (k : (Int → K)) (x8_1 : Int) : K :=
  k x8_1
abbrev Zcp9 (k : (Int → K)) (x8_2 : Int) : K :=
  k x8_2
abbrev Zcp10 (x0 : OA) (x1 : Int) (x2 : Int) (x3 : Int) (k : (Int → K)) (x17 : Bool) : K :=
  brK x17
  (Zcp9 k 41)
  (Zcp7 x0 x1 x2 x3 k)
abbrev Zcp11 (x0 : OA) (x1 : Int) (x2 : Int) (x3 : Int) (k : (Int → K)) : K :=
  c_free_Lists_Has x0 x2 x3 fun x21 =>
  Zcp10 x0 x1 x2 x3 k x21
abbrev Zcp12 (x0 : OA) (x1 : Int) (x2 : Int) (x3 : Int) (k : (Int → K)) (x12 : Bool) : K :=
  brK x12
  (Zcp8 k 1)
  (Zcp11 x0 x1 x2 x3 k)
abbrev Zcp13 (x0 : OA) (x1 : Int) (x2 : Int) (x3 : Int) (k : (Int → K)) : K :=
  c_free_right x1 x2 fun x15 =>
  Zcp12 x0 x1 x2 x3 k (!x15)
abbrev free_Lists_Put (x0 : OA) (x1 : Int) (x2 : Int) (x3 : Int) : M Int := fun k =>
  Zcp13 x0 x1 x2 x3 k
theorem free_Lists_Put_ok (x0 : OA) (x1 : Int) (x2 : Int) (x3 : Int) (k : Int → K) (w : World) (hyp_ : free_Lists_Put x0 x1 x2 x3 k w) : c_free_Lists_Put x0 x1 x2 x3 k w :=
  cl_of (P := Tryz.prog) Tryz.func83 rfl (by kernel_rfl)
  (Qs [] [0, 1, 2, 3] (fun z_ => Zcp13 x0 x1 x2 x3 k)
  Qz
  (fun _ => Qs [] [0, 1, 2, 3] (fun z_ => Zcp7 x0 x1 x2 x3 k)
  (Qb (Qs [(12, .bool)] [0, 1, 2, 3] (fun z_ => Zcp12 x0 x1 x2 x3 k z_.1)
  Qz
  (fun ⟨x12, _⟩ => Qc (x12) (Zcp8 k 1) (Zcp11 x0 x1 x2 x3 k) (Qs [(8, .int .i64)] [] (fun z_ => Zcp8 k z_.1)
  Qz
  (fun ⟨x8_1, _⟩ => Qr)) (Qs [(17, .bool)] [0, 1, 2, 3] (fun z_ => Zcp10 x0 x1 x2 x3 k z_.1)
  Qz
  (fun ⟨x17, _⟩ => Qc (x17) (Zcp9 k 41) (Zcp7 x0 x1 x2 x3 k) (Qs [(8, .int .i64)] [] (fun z_ => Zcp9 k z_.1)
  Qz
  (fun ⟨x8_2, _⟩ => Qr)) Qk)))))
  (fun _ => Qs [(9, .addr)] [0, 2, 3] (fun z_ => Zcp6 x0 x2 x3 k z_.1)
  Qz
  (fun ⟨x9, _⟩ => Qs [] [0, 2, 9] (fun z_ => Zcp5 x0 x2 k x9)
  (RefK.draw [] [0, 1, 3, 7, 0, 0, 32, 127, 255, 511, 255, 2047] [0, 1, 2, 3, 4, 5, 6, 7, 8, 10, 9, 11] [0, 1, 2, 3, 4, 5, 6, 7, 8, 9, 10, 11] (by kernel_rfl) (by kernel_rfl))
  (fun _ => Qs [] [] (fun z_ => Zcp0 k 0)
  (Qs [(10, .slice)] [0, 2, 9] (fun z_ => Zcp4 x0 x2 k x9 z_.1)
  (RefK.draw [] [0, 1, 3, 7, 0, 31, 63] [0, 1, 2, 3, 4, 5, 6] [0, 1, 2, 3, 4, 5, 6] (by kernel_rfl) (by kernel_rfl))
  (fun ⟨x10, _⟩ => Qs [(44, .bool)] [0, 2, 9, 10] (fun z_ => Zcp3 x0 x2 k x9 x10 z_.1)
  Qz
  (fun ⟨x44, _⟩ => Qc (x44) (Zcp2 x0 x2 k x9 x10 (IntKind.wrap .i64 (Int.tdiv ((x10.n : Nat) : Int) 2))) (Zcp0 k 0) (Qs [(11, .int .i64)] [0, 2, 9, 10] (fun z_ => Zcp2 x0 x2 k x9 x10 z_.1)
  Qz
  (fun ⟨x11, _⟩ => Qs [] [0, 9, 10, 11] (fun z_ => Zcp1 x0 k x9 x10 x11)
  (RefK.draw [] [0, 0, 0, 0, 4, 20, 60, 124, 0, 0, 768, 2044, 1, 4097, 16383, 32767] [0, 1, 2, 3, 4, 5, 6, 7, 8, 9, 10, 12, 13, 11, 14, 15] [0, 1, 2, 3, 4, 5, 6, 7, 8, 9, 10, 11, 12, 13, 14, 15] (by kernel_rfl) (by kernel_rfl))
  (fun _ => RefK.draw [] [0, 1, 3, 7, 0, 0, 0, 96, 224, 511] [0, 1, 2, 3, 4, 5, 6, 7, 8, 9] [0, 1, 2, 3, 4, 5, 6, 7, 8, 9] (by kernel_rfl) (by kernel_rfl)))) Qk)))
  (fun _ => Qs [(8, .int .i64)] [] (fun z_ => Zcp0 k z_.1)
  Qz
  (fun ⟨x8, _⟩ => Qr))))))) hyp_
abbrev Zcq0 (k : (Bool → K)) (x4 : Bool) : K :=
  k x4
abbrev Zcq1 (s : OA) (k : (Bool → K)) : K :=
  nn s fun x29 =>
  ldI .i64 (x29.add 2) fun x31 =>
  nn s fun x33 =>
  stK (Addr.add (x33.add 2) 0) (.int .i64 (IntKind.wrap .i64 (x31 + 1))) <|
  Zcq0 k true
abbrev Zcq2 (s : OA) (at_1 : Int) (k : (Bool → K)) : K :=
  nn s fun x15 =>
  ldS (x15.add 0) fun x17 =>
  ixS x17.p x17.n (IntKind.wrap .i64 (Int.tdiv at_1 64)) 1 fun x20 =>
  ldI .u64 x20 fun x21 =>
  nneg (IntKind.wrap .u64 (Int.tmod at_1 64)) <|
  ixS x17.p x17.n (IntKind.wrap .i64 (Int.tdiv at_1 64)) 1 fun x27 =>
  stK (x27.add 0) (.int .u64 (bitI .or .u64 x21 (shlI .u64 1 (IntKind.wrap .u64 (Int.tmod at_1 64))))) <|
  Zcq1 s k
abbrev Zcq3 (k : (Bool → K)) (x4_1 : Bool) : K :=
  k x4_1
abbrev Zcq4 (s : OA) (at_1 : Int) (k : (Bool → K)) (x13 : Bool) : K :=
  brK x13
  (Zcq3 k false)
  (Zcq2 s at_1 k)
abbrev Zcq5 (s : OA) (at_1 : Int) (k : (Bool → K)) : K :=
  c_bitmap_Set_in s at_1 fun x7 =>
  brK (!x7)
  (Zcq4 s at_1 k true)
  (c_bitmap_Set_Has s at_1 fun x12 =>
  Zcq4 s at_1 k x12)
abbrev bitmap_Set_Add (s : OA) (at_1 : Int) : M Bool := fun k =>
  Zcq5 s at_1 k
theorem bitmap_Set_Add_ok (s : OA) (at_1 : Int) (k : Bool → K) (w : World) (hyp_ : bitmap_Set_Add s at_1 k w) : c_bitmap_Set_Add s at_1 k w :=
  cl_of (P := Tryz.prog) Tryz.func91 rfl (by kernel_rfl)
  (Qs [] [0, 1] (fun z_ => Zcq5 s at_1 k)
  Qz
  (fun _ => Qs [] [0, 1] (fun z_ => Zcq2 s at_1 k)
  (Qs [(13, .bool)] [0, 1] (fun z_ => Zcq4 s at_1 k z_.1)
  (Qp [4])
  (fun ⟨x13, _⟩ => Qc (x13) (Zcq3 k false) (Zcq2 s at_1 k) (Qs [(4, .bool)] [] (fun z_ => Zcq3 k z_.1)
  Qz
  (fun ⟨x4_1, _⟩ => Qr)) Qk))
  (fun _ => Qs [] [0] (fun z_ => Zcq1 s k)
  Qz
  (fun _ => Qs [] [] (fun z_ => Zcq0 k true)
  Qz
  (fun _ => Qs [(4, .bool)] [] (fun z_ => Zcq0 k z_.1)
  Qz
  (fun ⟨x4, _⟩ => Qr)))))) hyp_
abbrev Zcr0 (k : (Sl → K)) (x2 : Sl) : K :=
  k x2
abbrev Zcr1 (m : OA) (k : (Sl → K)) : K :=
  nn m fun x4 =>
  ldP (x4.add 1) fun x6 =>
  c_runs_Index_List x6 fun x7 =>
  Zcr0 k x7
abbrev bman_Manager_Runs (m : OA) : M Sl := fun k =>
  Zcr1 m k
theorem bman_Manager_Runs_ok (m : OA) (k : Sl → K) (w : World) (hyp_ : bman_Manager_Runs m k w) : c_bman_Manager_Runs m k w :=
  cl_of (P := Tryz.prog) Tryz.func103 rfl (by kernel_rfl)
  (Qs [] [0] (fun z_ => Zcr1 m k)
  Qz
  (fun _ => Qs [(2, .slice)] [] (fun z_ => Zcr0 k z_.1)
  Qz
  (fun ⟨x2, _⟩ => Qr))) hyp_
abbrev Zcs0 (k : (Int → K)) (x4 : Int) : K :=
  k x4
abbrev Zcs1 (d : OA) (k : (Int → K)) (g_1 : Addr) : K :=
  tick fun _ =>
  ldI .i64 (g_1.add 0) fun x25_0 =>
  ldI .i64 (g_1.add 0) fun x28 =>
  c_geom_Geometry_Header x25_0 1 fun x26 =>
  chk [.cell (g_1.add 0) (.int .i64 x28)] fun _ =>
  c_nvm_Device_Persist d x26 (IntKind.wrap .i64 (x28 - 1)) fun x30 =>
  Zcs0 k x30
abbrev Zcs2 (k : (Int → K)) (x4_1 : Int) : K :=
  k x4_1
abbrev Zcs3 (k : (Int → K)) (b_1 : Int) (c : ((Int × Unit) → K)) (e : Int) (x22 : Bool) : K :=
  brK x22
  (Zcs2 k e)
  (c ((IntKind.wrap .i64 (b_1 + 1)), ()))
abbrev Zcs4 (k : (Int → K)) (b_1 : Int) (c : ((Int × Unit) → K)) (e : Int) : K :=
  Zcs3 k b_1 c e (e != 0)
abbrev Zcs5 (d : OA) (k : (Int → K)) (g_1 : Addr) (b_1 : Int) (c : ((Int × Unit) → K)) : K :=
  ldI .i64 (g_1.add 0) fun x14_0 =>
  c_geom_Geometry_Header x14_0 b_1 fun x16 =>
  c_bhead_Encode b_1 (0, (0, 0)) fun x19 =>
  c_nvm_Device_Store d x16 x19 fun x20 =>
  Zcs4 k b_1 c x20
abbrev Zcs6 (d : OA) (k : (Int → K)) (g_1 : Addr) (b_1 : Int) (c : ((Int × Unit) → K)) (x10 : Bool) : K :=
  brK x10
  (Zcs5 d k g_1 b_1 c)
  (Zcs1 d k g_1)
abbrev Zcs7 (d : OA) (k : (Int → K)) (g_1 : Addr) (b_1 : Int) (c : ((Int × Unit) → K)) : K :=
  ldI .i64 (g_1.add 0) fun x9 =>
  Zcs6 d k g_1 b_1 c (decide (b_1 < x9))
abbrev Zcs8 (d : OA) (k : (Int → K)) (g_1 : Addr) (b : Int) : K :=
  lp (fun (z_ : (Int × Unit)) c_ => Zcs7 d k g_1 z_.1 c_) (b, ())
abbrev Zcs9 (d : OA) (k : (Int → K)) (g_1 : Addr) : K :=
  Zcs8 d k g_1 1
abbrev blocks_Format (d : OA) (g : Int) : M Int := fun k =>
  alK (.cells #[.int .i64 g] 43) fun b_2 =>
  Zcs9 d k ⟨b_2, 0, none⟩
theorem blocks_Format_ok (d : OA) (g : Int) (k : Int → K) (w : World) (hyp_ : blocks_Format d g k w) : c_blocks_Format d g k w :=
  cl_of (P := Tryz.prog) Tryz.func122 rfl (by kernel_rfl)
  (Qs [(3, .addr)] [0] (fun z_ => Zcs9 d k z_.1)
  Qz
  (fun ⟨g_1, _⟩ => Qs [] [0, 3] (fun z_ => Zcs1 d k g_1)
  (Qs [(5, .int .i64)] [0, 3] (fun z_ => Zcs8 d k g_1 z_.1)
  Qz
  (fun ⟨b, _⟩ => Qb (Ql [(5, .int .i64)] [0, 3] (fun (z_ : (Int × Unit)) c_ => Zcs7 d k g_1 z_.1 c_) (b, ())
  (fun ⟨b_1, _⟩ c => Qs [] [0, 3, 5] (fun z_ => Zcs5 d k g_1 b_1 c)
  (Qs [(10, .bool)] [0, 3, 5] (fun z_ => Zcs6 d k g_1 b_1 c z_.1)
  Qz
  (fun ⟨x10, _⟩ => Qc (x10) (Zcs5 d k g_1 b_1 c) (Zcs1 d k g_1) Qk Qx))
  (fun _ => Qs [] [0, 3, 5] (fun z_ => c ((IntKind.wrap .i64 (b_1 + 1)), ()))
  (Qb (Qs [(6, .int .i64)] [0, 3, 5] (fun z_ => Zcs4 k b_1 c z_.1)
  Qz
  (fun ⟨e, _⟩ => Qs [(22, .bool)] [0, 3, 5, 6] (fun z_ => Zcs3 k b_1 c e z_.1)
  Qz
  (fun ⟨x22, _⟩ => Qc (x22) (Zcs2 k e) (c ((IntKind.wrap .i64 (b_1 + 1)), ())) (Qs [(4, .int .i64)] [] (fun z_ => Zcs2 k z_.1)
  Qz
  (fun ⟨x4_1, _⟩ => Qr)) Qk))))
  (fun _ => Qz))))))
  (fun _ => Qs [(4, .int .i64)] [] (fun z_ => Zcs0 k z_.1)
  (RefK.draw [] [0, 0, 2, 0, 8, 24, 63, 127] [0, 1, 3, 4, 5, 2, 6, 7] [0, 1, 2, 3, 4, 5, 6, 7] (by kernel_rfl) (by kernel_rfl))
  (fun ⟨x4, _⟩ => Qr)))) hyp_
abbrev Zct0 (k : ((OA × Int) → K)) (x4 : Addr) (x5 : Int) : K :=
  k ((some x4), x5)
abbrev Zct1 (k : ((OA × Int) → K)) (g_1 : Addr) (t : OA) (x : OA) : K :=
  ldI .i64 (g_1.add 0) fun x41_0 =>
  alK (.cells #[.pointer t, .pointer x, .int .i64 x41_0] 51) fun b =>
  Zct0 k ⟨b, 0, none⟩ 0
abbrev Zct2 (k : ((OA × Int) → K)) (x4_1 : OA) (x5_1 : Int) : K :=
  k (x4_1, x5_1)
abbrev Zct3 (k : ((OA × Int) → K)) (g_1 : Addr) (t : OA) (e_1 : Int) (x : OA) (x37 : Bool) : K :=
  brK x37
  (Zct2 k none e_1)
  (Zct1 k g_1 t x)
abbrev Zct4 (k : ((OA × Int) → K)) (g_1 : Addr) (t : OA) (e_1 : Int) (x : OA) : K :=
  Zct3 k g_1 t e_1 x (e_1 != 0)
abbrev Zct5 (k : ((OA × Int) → K)) (g_1 : Addr) (t : OA) : K :=
  tick fun _ =>
  ldI .i64 (g_1.add 0) fun x30 =>
  c_blocks_Table_Spans t fun x32 =>
  chk [.cell (g_1.add 0) (.int .i64 x30)] fun _ =>
  c_runs_Fill x30 x32 fun x33 =>
  Zct4 k g_1 t x33.2 x33.1
abbrev Zct6 (k : ((OA × Int) → K)) (x4_2 : OA) (x5_2 : Int) : K :=
  k (x4_2, x5_2)
abbrev Zct7 (k : ((OA × Int) → K)) (g_1 : Addr) (t : OA) (x27 : Bool) : K :=
  brK x27
  (Zct6 k none 40)
  (Zct5 k g_1 t)
abbrev Zct8 (k : ((OA × Int) → K)) (g_1 : Addr) (t : OA) (ok : Bool) : K :=
  Zct7 k g_1 t (!ok)
abbrev Zct9 (k : ((OA × Int) → K)) (g_1 : Addr) (t : OA) : K :=
  c_blocks_Table_All t fun x22 =>
  c_bman_Sound x22 fun x23 =>
  Zct8 k g_1 t x23.2
abbrev Zct10 (k : ((OA × Int) → K)) (x4_3 : OA) (x5_3 : Int) : K :=
  k (x4_3, x5_3)
abbrev Zct11 (k : ((OA × Int) → K)) (g_1 : Addr) (t : OA) (e : Int) (x18 : Bool) : K :=
  brK x18
  (Zct10 k none e)
  (Zct9 k g_1 t)
abbrev Zct12 (k : ((OA × Int) → K)) (g_1 : Addr) (t : OA) (e : Int) : K :=
  Zct11 k g_1 t e (e != 0)
abbrev Zct13 (d : OA) (k : ((OA × Int) → K)) (g_1 : Addr) : K :=
  ldI .i64 (g_1.add 0) fun x13_0 =>
  c_blocks_Open d x13_0 fun x14 =>
  Zct12 k g_1 x14.1 x14.2
abbrev bman_Open (d : OA) (g : Int) : M (OA × Int) := fun k =>
  alK (.cells #[.int .i64 g] 43) fun b_1 =>
  Zct13 d k ⟨b_1, 0, none⟩
theorem bman_Open_ok (d : OA) (g : Int) (k : (OA × Int) → K) (w : World) (hyp_ : bman_Open d g k w) : c_bman_Open d g k w :=
  cl_of (P := Tryz.prog) Tryz.func123 rfl (by kernel_rfl)
  (Qs [(3, .addr)] [0] (fun z_ => Zct13 d k z_.1)
  Qz
  (fun ⟨g_1, _⟩ => Qs [(6, .ptr), (7, .int .i64)] [3] (fun z_ => Zct12 k g_1 z_.1 z_.2.1)
  Qz
  (fun ⟨t, e, _⟩ => Qs [] [3, 6] (fun z_ => Zct9 k g_1 t)
  (Qs [(18, .bool)] [3, 6, 7] (fun z_ => Zct11 k g_1 t e z_.1)
  Qz
  (fun ⟨x18, _⟩ => Qc (x18) (Zct10 k none e) (Zct9 k g_1 t) (Qs [(4, .ptr), (5, .int .i64)] [] (fun z_ => Zct10 k z_.1 z_.2.1)
  Qz
  (fun ⟨x4_3, x5_3, _⟩ => Qr)) Qk))
  (fun _ => Qs [] [3, 6] (fun z_ => Zct5 k g_1 t)
  (Qs [(9, .bool)] [3, 6] (fun z_ => Zct8 k g_1 t z_.1)
  Qz
  (fun ⟨ok, _⟩ => Qs [(27, .bool)] [3, 6] (fun z_ => Zct7 k g_1 t z_.1)
  Qz
  (fun ⟨x27, _⟩ => Qc (x27) (Zct6 k none 40) (Zct5 k g_1 t) (Qs [(4, .ptr), (5, .int .i64)] [] (fun z_ => Zct6 k z_.1 z_.2.1)
  Qz
  (fun ⟨x4_2, x5_2, _⟩ => Qr)) Qk)))
  (fun _ => Qs [(7, .int .i64), (10, .ptr)] [3, 6] (fun z_ => Zct4 k g_1 t z_.1 z_.2.1)
  (RefK.draw [] [0, 1, 0, 4, 15, 31, 63, 63, 127, 511] [0, 1, 2, 3, 4, 5, 6, 7, 8, 9] [0, 1, 2, 3, 4, 5, 6, 8, 7, 9] (by kernel_rfl) (by kernel_rfl))
  (fun ⟨e_1, x, _⟩ => Qs [] [3, 6, 10] (fun z_ => Zct1 k g_1 t x)
  (Qs [(37, .bool)] [3, 6, 7, 10] (fun z_ => Zct3 k g_1 t e_1 x z_.1)
  Qz
  (fun ⟨x37, _⟩ => Qc (x37) (Zct2 k none e_1) (Zct1 k g_1 t x) (Qs [(4, .ptr), (5, .int .i64)] [] (fun z_ => Zct2 k z_.1 z_.2.1)
  Qz
  (fun ⟨x4_1, x5_1, _⟩ => Qr)) Qk))
  (fun _ => Qs [(4, .addr), (5, .int .i64)] [] (fun z_ => Zct0 k z_.1 z_.2.1)
  Qz
  (fun ⟨x4, x5, _⟩ => Qr)))))))) hyp_
abbrev Zcu0 (k : (Fv → K)) (x2 : Fv) : K :=
  k x2
abbrev Zcu1 (k : (Fv → K)) (s_1 : Addr) : K :=
  Zcu0 k ⟨.func 188, #[], #[.pointer (some s_1)]⟩
abbrev bitmap_Set_All (s : OA) : M Fv := fun k =>
  alK (.cells #[.pointer s] 44) fun b =>
  Zcu1 k ⟨b, 0, none⟩
theorem bitmap_Set_All_ok (s : OA) (k : Fv → K) (w : World) (hyp_ : bitmap_Set_All s k w) : c_bitmap_Set_All s k w :=
  cl_of (P := Tryz.prog) Tryz.func130 rfl (by kernel_rfl)
  (Qs [(1, .addr)] [] (fun z_ => Zcu1 k z_.1)
  Qz
  (fun ⟨s_1, _⟩ => Qs [(2, .func)] [] (fun z_ => Zcu0 k z_.1)
  Qz
  (fun ⟨x2, _⟩ => Qr))) hyp_
abbrev Zcv0 (k : (Bool → K)) (x4 : Bool) : K :=
  k x4
abbrev Zcv1 (s : OA) (at_1 : Int) (k : (Bool → K)) : K :=
  brK (decide (at_1 ≥ 0))
  (nn s fun x10 =>
  ldI .i64 (x10.add 1) fun x12 =>
  Zcv0 k (decide (at_1 < x12)))
  (Zcv0 k false)
abbrev bitmap_Set_in (s : OA) (at_1 : Int) : M Bool := fun k =>
  Zcv1 s at_1 k
theorem bitmap_Set_in_ok (s : OA) (at_1 : Int) (k : Bool → K) (w : World) (hyp_ : bitmap_Set_in s at_1 k w) : c_bitmap_Set_in s at_1 k w :=
  cl_of (P := Tryz.prog) Tryz.func139 rfl (by kernel_rfl)
  (Qs [] [0, 1] (fun z_ => Zcv1 s at_1 k)
  Qz
  (fun _ => Qs [(4, .bool)] [] (fun z_ => Zcv0 k z_.1)
  (Qp [2])
  (fun ⟨x4, _⟩ => Qr))) hyp_
abbrev Zcw0 (k : ((Int × (Int × Int)) → K)) (x4 : Addr) : K :=
  ldI .i64 (x4.add 0) fun x4_0 =>
  ldI .i64 (x4.add 1) fun x4_1 =>
  ldI .i64 (x4.add 2) fun x4_2 =>
  k (x4_0, (x4_1, x4_2))
abbrev Zcw1 (t : OA) (block : Int) (k : ((Int × (Int × Int)) → K)) (x4 : Addr) : K :=
  nn t fun x18 =>
  ldS (x18.add 2) fun x20 =>
  ixS x20.p x20.n block 3 fun x22 =>
  ldI .i64 (x22.add 0) fun x23_0 =>
  ldI .i64 (x22.add 1) fun x23_1 =>
  ldI .i64 (x22.add 2) fun x23_2 =>
  stK (x4.add 0) (.int .i64 x23_0) <|
  stK (x4.add 1) (.int .i64 x23_1) <|
  stK (x4.add 2) (.int .i64 x23_2) <|
  Zcw0 k x4
abbrev Zcw2 (k : ((Int × (Int × Int)) → K)) (x4 : Addr) : K :=
  ldI .i64 (x4.add 0) fun x4_0_1 =>
  ldI .i64 (x4.add 1) fun x4_1_1 =>
  ldI .i64 (x4.add 2) fun x4_2_1 =>
  k (x4_0_1, (x4_1_1, x4_2_1))
abbrev Zcw3 (k : ((Int × (Int × Int)) → K)) (x4 : Addr) : K :=
  stK (x4.add 0) (.int .i64 0) <|
  stK (x4.add 1) (.int .i64 0) <|
  stK (x4.add 2) (.int .i64 0) <|
  Zcw2 k x4
abbrev Zcw4 (t : OA) (block : Int) (k : ((Int × (Int × Int)) → K)) (x4 : Addr) (x15 : Bool) : K :=
  brK x15
  (Zcw3 k x4)
  (Zcw1 t block k x4)
abbrev Zcw5 (t : OA) (block : Int) (k : ((Int × (Int × Int)) → K)) (x4 : Addr) : K :=
  brK (decide (block < 1))
  (Zcw4 t block k x4 true)
  (nn t fun x10 =>
  ldS (x10.add 2) fun x12 =>
  Zcw4 t block k x4 (decide (block ≥ ((x12.n : Nat) : Int))))
abbrev blocks_Table_Get (t : OA) (block : Int) : M (Int × (Int × Int)) := fun k =>
  alK (.cells #[.int .i64 0, .int .i64 0, .int .i64 0] 143) fun b =>
  Zcw5 t block k ⟨b, 0, none⟩
theorem blocks_Table_Get_ok (t : OA) (block : Int) (k : (Int × (Int × Int)) → K) (w : World) (hyp_ : blocks_Table_Get t block k w) : c_blocks_Table_Get t block k w :=
  cl_of (P := Tryz.prog) Tryz.func141 rfl (by kernel_rfl)
  (Qs [(4, .addr)] [0, 1] (fun z_ => Zcw5 t block k z_.1)
  Qz
  (fun ⟨x4, _⟩ => Qs [] [0, 1, 4] (fun z_ => Zcw1 t block k x4)
  (Qs [(15, .bool)] [0, 1, 4] (fun z_ => Zcw4 t block k x4 z_.1)
  (Qp [2])
  (fun ⟨x15, _⟩ => Qc (x15) (Zcw3 k x4) (Zcw1 t block k x4) (Qs [] [4] (fun z_ => Zcw2 k x4)
  Qz
  (fun _ => Qr)) Qk))
  (fun _ => Qs [] [4] (fun z_ => Zcw0 k x4)
  Qz
  (fun _ => Qr)))) hyp_
abbrev Zcx0 (k : (Int → K)) (x6 : Int) : K :=
  k x6
abbrev Zcx1 (x0 : OA) (x1 : Int) (x2 : Sl) (k : (Int → K)) : K :=
  tick fun _ =>
  nn x0 fun x87 =>
  ldP (x87.add 0) fun x89 =>
  nn x0 fun x91 =>
  ldI .i64 (Addr.add (x91.add 1) 0) fun x93_0 =>
  c_geom_Geometry_Header x93_0 x1 fun x95 =>
  chk [.cell (x87.add 0) (.pointer x89)] fun _ =>
  c_nvm_Device_Persist x89 x95 ((x2.n : Nat) : Int) fun x98 =>
  Zcx0 k x98
abbrev Zcx2 (x0 : OA) (x1 : Int) (x50_1 : Int) (c : ((Int × Unit) → K)) (x9 : Int) (x10 : Addr) : K :=
  tick fun _ =>
  nn x0 fun x77 =>
  ldS (x77.add 2) fun x79 =>
  ldI .i64 (x10.add 0) fun x83_0 =>
  ldI .i64 (x10.add 1) fun x83_1 =>
  ldI .i64 (x10.add 2) fun x83_2 =>
  ixS x79.p x79.n (IntKind.wrap .i64 (x1 + x9)) 3 fun x84 =>
  stK (x84.add 0) (.int .i64 x83_0) <|
  stK (x84.add 1) (.int .i64 x83_1) <|
  stK (x84.add 2) (.int .i64 x83_2) <|
  c ((IntKind.wrap .i64 (x50_1 + 1)), ())
abbrev Zcx3 (k : (Int → K)) (x6_1 : Int) : K :=
  k x6_1
abbrev Zcx4 (x0 : OA) (x1 : Int) (k : (Int → K)) (x50_1 : Int) (c : ((Int × Unit) → K)) (x9 : Int) (x10 : Addr) (x11 : Int) (x74 : Bool) : K :=
  brK x74
  (Zcx3 k x11)
  (Zcx2 x0 x1 x50_1 c x9 x10)
abbrev Zcx5 (x0 : OA) (x1 : Int) (k : (Int → K)) (x50_1 : Int) (c : ((Int × Unit) → K)) (x9 : Int) (x10 : Addr) (x11 : Int) : K :=
  Zcx4 x0 x1 k x50_1 c x9 x10 x11 (x11 != 0)
abbrev Zcx6 (x0 : OA) (x1 : Int) (k : (Int → K)) (x50_1 : Int) (c : ((Int × Unit) → K)) (x9 : Int) (x10 : Addr) : K :=
  tick fun _ =>
  nn x0 fun x56 =>
  ldP (x56.add 0) fun x58 =>
  nn x0 fun x60 =>
  ldI .i64 (Addr.add (x60.add 1) 0) fun x62_0 =>
  ldI .i64 (x10.add 0) fun x70_0 =>
  ldI .i64 (x10.add 1) fun x70_1 =>
  ldI .i64 (x10.add 2) fun x70_2 =>
  c_geom_Geometry_Header x62_0 (IntKind.wrap .i64 (x1 + x9)) fun x66 =>
  chk [.cell (x10.add 0) (.int .i64 x70_0), .cell (x10.add 1) (.int .i64 x70_1), .cell (x10.add 2) (.int .i64 x70_2), .cell (x56.add 0) (.pointer x58)] fun _ =>
  c_bhead_Encode (IntKind.wrap .i64 (x1 + x9)) (x70_0, (x70_1, x70_2)) fun x71 =>
  chk [.cell (x56.add 0) (.pointer x58)] fun _ =>
  c_nvm_Device_Store x58 x66 x71 fun x72 =>
  Zcx5 x0 x1 k x50_1 c x9 x10 x72
abbrev Zcx7 (x0 : OA) (x1 : Int) (k : (Int → K)) (x48 : Sl) (x50_1 : Int) (c : ((Int × Unit) → K)) : K :=
  ixS x48.p x48.n x50_1 3 fun x53 =>
  ldI .i64 (x53.add 0) fun x54_0 =>
  ldI .i64 (x53.add 1) fun x54_1 =>
  ldI .i64 (x53.add 2) fun x54_2 =>
  alK (.cells #[.int .i64 0, .int .i64 0, .int .i64 0] 143) fun b =>
  stK (Addr.add ⟨b, 0, none⟩ 0) (.int .i64 x54_0) <|
  stK (Addr.add ⟨b, 0, none⟩ 1) (.int .i64 x54_1) <|
  stK (Addr.add ⟨b, 0, none⟩ 2) (.int .i64 x54_2) <|
  Zcx6 x0 x1 k x50_1 c x50_1 ⟨b, 0, none⟩
abbrev Zcx8 (x0 : OA) (x1 : Int) (x2 : Sl) (k : (Int → K)) (x48 : Sl) (x50_1 : Int) (c : ((Int × Unit) → K)) (x51 : Bool) : K :=
  brK x51
  (Zcx7 x0 x1 k x48 x50_1 c)
  (Zcx1 x0 x1 x2 k)
abbrev Zcx9 (x0 : OA) (x1 : Int) (x2 : Sl) (k : (Int → K)) (x48 : Sl) (x49 : Int) (x50_1 : Int) (c : ((Int × Unit) → K)) : K :=
  Zcx8 x0 x1 x2 k x48 x50_1 c (decide (x50_1 < x49))
abbrev Zcx10 (x0 : OA) (x1 : Int) (x2 : Sl) (k : (Int → K)) (x48 : Sl) (x49 : Int) (x50 : Int) : K :=
  lp (fun (z_ : (Int × Unit)) c_ => Zcx9 x0 x1 x2 k x48 x49 z_.1 c_) (x50, ())
abbrev Zcx11 (k : (Int → K)) (x6_2 : Int) : K :=
  k x6_2
abbrev Zcx12 (x0 : OA) (x1 : Int) (x2 : Sl) (k : (Int → K)) (x47 : Bool) : K :=
  brK x47
  (Zcx11 k 0)
  (Zcx10 x0 x1 x2 k x2 ((x2.n : Nat) : Int) 0)
abbrev Zcx13 (k : (Int → K)) (x6_3 : Int) : K :=
  k x6_3
abbrev Zcx14 (k : (Int → K)) (x37_1 : Int) (c_1 : ((Int × Unit) → K)) (x43 : Bool) : K :=
  brK x43
  (Zcx13 k 1)
  (c_1 ((IntKind.wrap .i64 (x37_1 + 1)), ()))
abbrev Zcx15 (k : (Int → K)) (x37_1 : Int) (c_1 : ((Int × Unit) → K)) (x8 : Addr) : K :=
  ldI .i64 (x8.add 0) fun x41_0 =>
  ldI .i64 (x8.add 1) fun x41_1 =>
  ldI .i64 (x8.add 2) fun x41_2 =>
  c_bhead_Header_Right (x41_0, (x41_1, x41_2)) fun x42 =>
  Zcx14 k x37_1 c_1 (!x42)
abbrev Zcx16 (k : (Int → K)) (x35 : Sl) (x37_1 : Int) (c_1 : ((Int × Unit) → K)) : K :=
  ixS x35.p x35.n x37_1 3 fun x39 =>
  ldI .i64 (x39.add 0) fun x40_0 =>
  ldI .i64 (x39.add 1) fun x40_1 =>
  ldI .i64 (x39.add 2) fun x40_2 =>
  alK (.cells #[.int .i64 0, .int .i64 0, .int .i64 0] 143) fun b_1 =>
  stK (Addr.add ⟨b_1, 0, none⟩ 0) (.int .i64 x40_0) <|
  stK (Addr.add ⟨b_1, 0, none⟩ 1) (.int .i64 x40_1) <|
  stK (Addr.add ⟨b_1, 0, none⟩ 2) (.int .i64 x40_2) <|
  Zcx15 k x37_1 c_1 ⟨b_1, 0, none⟩
abbrev Zcx17 (x0 : OA) (x1 : Int) (x2 : Sl) (k : (Int → K)) (x35 : Sl) (x37_1 : Int) (c_1 : ((Int × Unit) → K)) (x38 : Bool) : K :=
  brK x38
  (Zcx16 k x35 x37_1 c_1)
  (Zcx12 x0 x1 x2 k (((x2.n : Nat) : Int) == 0))
abbrev Zcx18 (x0 : OA) (x1 : Int) (x2 : Sl) (k : (Int → K)) (x35 : Sl) (x36 : Int) (x37_1 : Int) (c_1 : ((Int × Unit) → K)) : K :=
  Zcx17 x0 x1 x2 k x35 x37_1 c_1 (decide (x37_1 < x36))
abbrev Zcx19 (x0 : OA) (x1 : Int) (x2 : Sl) (k : (Int → K)) (x35 : Sl) (x36 : Int) (x37 : Int) : K :=
  lp (fun (z_ : (Int × Unit)) c_ => Zcx18 x0 x1 x2 k x35 x36 z_.1 c_) (x37, ())
abbrev Zcx20 (k : (Int → K)) (x6_4 : Int) : K :=
  k x6_4
abbrev Zcx21 (x0 : OA) (x1 : Int) (x2 : Sl) (k : (Int → K)) (x34 : Bool) : K :=
  brK x34
  (Zcx20 k 1)
  (Zcx19 x0 x1 x2 k x2 ((x2.n : Nat) : Int) 0)
abbrev Zcx22 (x0 : OA) (x1 : Int) (x2 : Sl) (k : (Int → K)) : K :=
  brK (decide (x1 < 1))
  (Zcx21 x0 x1 x2 k true)
  (nn x0 fun x17 =>
  ldS (x17.add 2) fun x19 =>
  brK (decide (x1 > ((x19.n : Nat) : Int)))
  (Zcx21 x0 x1 x2 k true)
  (nn x0 fun x27 =>
  ldS (x27.add 2) fun x29 =>
  Zcx21 x0 x1 x2 k (decide (((x2.n : Nat) : Int) > (IntKind.wrap .i64 (((x29.n : Nat) : Int) - x1))))))
abbrev blocks_Table_Put (x0 : OA) (x1 : Int) (x2 : Sl) : M Int := fun k =>
  Zcx22 x0 x1 x2 k
theorem blocks_Table_Put_ok (x0 : OA) (x1 : Int) (x2 : Sl) (k : Int → K) (w : World) (hyp_ : blocks_Table_Put x0 x1 x2 k w) : c_blocks_Table_Put x0 x1 x2 k w :=
  cl_of (P := Tryz.prog) Tryz.func142 rfl (by kernel_rfl)
  (Qs [] [0, 1, 2] (fun z_ => Zcx22 x0 x1 x2 k)
  Qz
  (fun _ => Qs [] [0, 1, 2] (fun z_ => Zcx19 x0 x1 x2 k x2 ((x2.n : Nat) : Int) 0)
  (Qs [(34, .bool)] [0, 1, 2] (fun z_ => Zcx21 x0 x1 x2 k z_.1)
  (Qp [2, 11])
  (fun ⟨x34, _⟩ => Qc (x34) (Zcx20 k 1) (Zcx19 x0 x1 x2 k x2 ((x2.n : Nat) : Int) 0) (Qs [(6, .int .i64)] [] (fun z_ => Zcx20 k z_.1)
  Qz
  (fun ⟨x6_4, _⟩ => Qr)) Qk))
  (fun _ => Qs [] [0, 1, 2] (fun z_ => Zcx12 x0 x1 x2 k (((x2.n : Nat) : Int) == 0))
  (Qs [(35, .slice), (36, .int .i64), (37, .int .i64)] [0, 1, 2] (fun z_ => Zcx19 x0 x1 x2 k z_.1 z_.2.1 z_.2.2.1)
  Qz
  (fun ⟨x35, x36, x37, _⟩ => Qb (Ql [(37, .int .i64)] [0, 1, 2, 35, 36] (fun (z_ : (Int × Unit)) c_ => Zcx18 x0 x1 x2 k x35 x36 z_.1 c_) (x37, ())
  (fun ⟨x37_1, _⟩ c_1 => Qs [(38, .bool)] [0, 1, 2, 35, 36, 37] (fun z_ => Zcx17 x0 x1 x2 k x35 x37_1 c_1 z_.1)
  Qz
  (fun ⟨x38, _⟩ => Qs [] [0, 1, 2, 35, 36, 37] (fun z_ => Zcx16 k x35 x37_1 c_1)
  (Qc (x38) (Zcx16 k x35 x37_1 c_1) (Zcx12 x0 x1 x2 k (((x2.n : Nat) : Int) == 0)) Qk Qx)
  (fun _ => Qs [] [0, 1, 2, 35, 36, 37] (fun z_ => c_1 ((IntKind.wrap .i64 (x37_1 + 1)), ()))
  (Qb (Qs [(8, .addr)] [0, 1, 2, 35, 36, 37] (fun z_ => Zcx15 k x37_1 c_1 z_.1)
  Qz
  (fun ⟨x8, _⟩ => Qs [(43, .bool)] [0, 1, 2, 35, 36, 37] (fun z_ => Zcx14 k x37_1 c_1 z_.1)
  Qz
  (fun ⟨x43, _⟩ => Qc (x43) (Zcx13 k 1) (c_1 ((IntKind.wrap .i64 (x37_1 + 1)), ())) (Qs [(6, .int .i64)] [] (fun z_ => Zcx13 k z_.1)
  Qz
  (fun ⟨x6_3, _⟩ => Qr)) Qk))))
  (fun _ => Qz)))))))
  (fun _ => Qs [] [0, 1, 2] (fun z_ => Zcx10 x0 x1 x2 k x2 ((x2.n : Nat) : Int) 0)
  (Qs [(47, .bool)] [0, 1, 2] (fun z_ => Zcx12 x0 x1 x2 k z_.1)
  Qz
  (fun ⟨x47, _⟩ => Qc (x47) (Zcx11 k 0) (Zcx10 x0 x1 x2 k x2 ((x2.n : Nat) : Int) 0) (Qs [(6, .int .i64)] [] (fun z_ => Zcx11 k z_.1)
  Qz
  (fun ⟨x6_2, _⟩ => Qr)) Qk))
  (fun _ => Qs [] [0, 1, 2] (fun z_ => Zcx1 x0 x1 x2 k)
  (Qs [(48, .slice), (49, .int .i64), (50, .int .i64)] [0, 1, 2] (fun z_ => Zcx10 x0 x1 x2 k z_.1 z_.2.1 z_.2.2.1)
  Qz
  (fun ⟨x48, x49, x50, _⟩ => Qb (Ql [(50, .int .i64)] [0, 1, 2, 48, 49] (fun (z_ : (Int × Unit)) c_ => Zcx9 x0 x1 x2 k x48 x49 z_.1 c_) (x50, ())
  (fun ⟨x50_1, _⟩ c => Qs [(51, .bool)] [0, 1, 2, 48, 49, 50] (fun z_ => Zcx8 x0 x1 x2 k x48 x50_1 c z_.1)
  Qz
  (fun ⟨x51, _⟩ => Qs [] [0, 1, 2, 48, 49, 50] (fun z_ => Zcx7 x0 x1 k x48 x50_1 c)
  (Qc (x51) (Zcx7 x0 x1 k x48 x50_1 c) (Zcx1 x0 x1 x2 k) Qk Qx)
  (fun _ => Qs [] [0, 1, 2, 48, 49, 50] (fun z_ => c ((IntKind.wrap .i64 (x50_1 + 1)), ()))
  (Qb (Qs [(9, .int .i64), (10, .addr)] [0, 1, 2, 48, 49, 50] (fun z_ => Zcx6 x0 x1 k x50_1 c z_.1 z_.2.1)
  Qz
  (fun ⟨x9, x10, _⟩ => Qs [] [0, 1, 2, 9, 10, 48, 49, 50] (fun z_ => Zcx2 x0 x1 x50_1 c x9 x10)
  (Qs [(11, .int .i64)] [0, 1, 2, 9, 10, 48, 49, 50] (fun z_ => Zcx5 x0 x1 k x50_1 c x9 x10 z_.1)
  (RefK.draw [] [0, 1, 3, 7, 0, 16, 48, 112, 0, 0, 768, 2032, 0, 0, 12288, 0, 65520, 131071, 262143] [0, 1, 2, 3, 4, 5, 6, 7, 8, 9, 10, 12, 13, 14, 15, 11, 16, 17, 18] [0, 1, 2, 3, 4, 5, 6, 7, 8, 9, 10, 11, 12, 13, 14, 15, 16, 17, 18] (by kernel_rfl) (by kernel_rfl))
  (fun ⟨x11, _⟩ => Qs [(74, .bool)] [0, 1, 2, 9, 10, 11, 48, 49, 50] (fun z_ => Zcx4 x0 x1 k x50_1 c x9 x10 x11 z_.1)
  Qz
  (fun ⟨x74, _⟩ => Qc (x74) (Zcx3 k x11) (Zcx2 x0 x1 x50_1 c x9 x10) (Qs [(6, .int .i64)] [] (fun z_ => Zcx3 k z_.1)
  Qz
  (fun ⟨x6_1, _⟩ => Qr)) Qk)))
  (fun _ => RefK.draw [] [0, 1, 3, 7, 0, 0, 48, 0, 255, 511] [0, 1, 2, 3, 4, 5, 6, 7, 8, 9] [0, 1, 2, 3, 4, 5, 6, 7, 8, 9] (by kernel_rfl) (by kernel_rfl)))))
  (fun _ => Qz)))))))
  (fun _ => Qs [(6, .int .i64)] [] (fun z_ => Zcx0 k z_.1)
  (RefK.draw [] [0, 1, 3, 7, 0, 16, 48, 112, 0, 496, 0, 1024, 4095, 8191] [0, 1, 2, 3, 4, 5, 6, 7, 8, 10, 11, 9, 12, 13] [0, 1, 2, 3, 4, 5, 6, 7, 8, 9, 10, 11, 12, 13] (by kernel_rfl) (by kernel_rfl))
  (fun ⟨x6, _⟩ => Qr))))))) hyp_
abbrev Zcy0 (k : (Int → K)) (x6 : Int) : K :=
  k x6
abbrev Zcy1 (x0 : OA) (k : (Int → K)) (x1_1 : Int) (x2_2 : Int) : K :=
  c_runs_Index_add x0 x1_1 x2_2 fun x94 =>
  Zcy0 k 0
abbrev Zcy2 (x0 : OA) (k : (Int → K)) (x1_1 : Int) (x2_1 : Int) (x11 : Int) : K :=
  c_runs_Index_drop x0 (IntKind.wrap .i64 (x1_1 + x2_1)) fun x87 =>
  Zcy1 x0 k x1_1 (IntKind.wrap .i64 (x2_1 + x11))
abbrev Zcy3 (x0 : OA) (k : (Int → K)) (x1_1 : Int) (x2_1 : Int) (x11 : Int) (x82 : Bool) : K :=
  brK x82
  (Zcy2 x0 k x1_1 x2_1 x11)
  (Zcy1 x0 k x1_1 x2_1)
abbrev Zcy4 (x0 : OA) (k : (Int → K)) (x1_1 : Int) (x2_1 : Int) (x11 : Int) (x12 : Bool) : K :=
  Zcy3 x0 k x1_1 x2_1 x11 x12
abbrev Zcy5 (x0 : OA) (k : (Int → K)) (x1_1 : Int) (x2_1 : Int) : K :=
  nn x0 fun x73 =>
  ldM (x73.add 0) fun x75 =>
  lkE Tryz.prog 3 (.int .i64 0) (.sc (.int .i64)) x75 (.int .i64 (IntKind.wrap .i64 (x1_1 + x2_1))) fun r ob x79 ok =>
  Zcy4 x0 k x1_1 x2_1 x79 ok
abbrev Zcy6 (x0 : OA) (x2 : Int) (k : (Int → K)) (x8 : Int) (x10 : Int) : K :=
  c_runs_Index_drop x0 x8 fun x66 =>
  Zcy5 x0 k x8 (IntKind.wrap .i64 (x2 + x10))
abbrev Zcy7 (x0 : OA) (x2 : Int) (k : (Int → K)) (x8 : Int) : K :=
  nn x0 fun x59 =>
  ldM (x59.add 0) fun x61 =>
  lkE Tryz.prog 3 (.int .i64 0) (.sc (.int .i64)) x61 (.int .i64 x8) fun r_1 ob_1 x63 ok_1 =>
  Zcy6 x0 x2 k x8 x63
abbrev Zcy8 (x0 : OA) (x1 : Int) (x2 : Int) (k : (Int → K)) (x8 : Int) (x57 : Bool) : K :=
  brK x57
  (Zcy7 x0 x2 k x8)
  (Zcy5 x0 k x1 x2)
abbrev Zcy9 (x0 : OA) (x1 : Int) (x2 : Int) (k : (Int → K)) (x8 : Int) (x9 : Bool) : K :=
  Zcy8 x0 x1 x2 k x8 x9
abbrev Zcy10 (x0 : OA) (x1 : Int) (x2 : Int) (k : (Int → K)) : K :=
  nn x0 fun x50 =>
  ldM (x50.add 1) fun x52 =>
  lkE Tryz.prog 3 (.int .i64 0) (.sc (.int .i64)) x52 (.int .i64 x1) fun r_2 ob_2 x54 ok_2 =>
  Zcy9 x0 x1 x2 k x54 ok_2
abbrev Zcy11 (k : (Int → K)) (x6_1 : Int) : K :=
  k x6_1
abbrev Zcy12 (k : (Int → K)) (x7_1 : Int) (c : ((Int × Unit) → K)) (x47 : Bool) : K :=
  brK x47
  (Zcy11 k 41)
  (c ((IntKind.wrap .i64 (x7_1 + 1)), ()))
abbrev Zcy13 (x0 : OA) (k : (Int → K)) (x7_1 : Int) (c : ((Int × Unit) → K)) : K :=
  c_runs_Index_Has x0 x7_1 fun x47_1 =>
  Zcy12 k x7_1 c x47_1
abbrev Zcy14 (x0 : OA) (x1 : Int) (x2 : Int) (k : (Int → K)) (x7_1 : Int) (c : ((Int × Unit) → K)) (x42 : Bool) : K :=
  brK x42
  (Zcy13 x0 k x7_1 c)
  (Zcy10 x0 x1 x2 k)
abbrev Zcy15 (x0 : OA) (x1 : Int) (x2 : Int) (k : (Int → K)) (x7_1 : Int) (c : ((Int × Unit) → K)) : K :=
  Zcy14 x0 x1 x2 k x7_1 c (decide (x7_1 < (IntKind.wrap .i64 (x1 + x2))))
abbrev Zcy16 (x0 : OA) (x1 : Int) (x2 : Int) (k : (Int → K)) (x7 : Int) : K :=
  lp (fun (z_ : (Int × Unit)) c_ => Zcy15 x0 x1 x2 k z_.1 c_) (x7, ())
abbrev Zcy17 (k : (Int → K)) (x6_2 : Int) : K :=
  k x6_2
abbrev Zcy18 (x0 : OA) (x1 : Int) (x2 : Int) (k : (Int → K)) (x36 : Bool) : K :=
  brK x36
  (Zcy17 k 1)
  (Zcy16 x0 x1 x2 k x1)
abbrev Zcy19 (x0 : OA) (x1 : Int) (x2 : Int) (k : (Int → K)) : K :=
  brK (decide (x1 < 1))
  (Zcy18 x0 x1 x2 k true)
  (brK (decide (x2 < 1))
  (Zcy18 x0 x1 x2 k true)
  (nn x0 fun x22 =>
  ldI .i64 (x22.add 2) fun x24 =>
  brK (decide (x1 ≥ x24))
  (Zcy18 x0 x1 x2 k true)
  (nn x0 fun x30 =>
  ldI .i64 (x30.add 2) fun x32 =>
  Zcy18 x0 x1 x2 k (decide (x2 > (IntKind.wrap .i64 (x32 - x1)))))))
abbrev runs_Index_Give (x0 : OA) (x1 : Int) (x2 : Int) : M Int := fun k =>
  Zcy19 x0 x1 x2 k
theorem runs_Index_Give_ok (x0 : OA) (x1 : Int) (x2 : Int) (k : Int → K) (w : World) (hyp_ : runs_Index_Give x0 x1 x2 k w) : c_runs_Index_Give x0 x1 x2 k w :=
  cl_of (P := Tryz.prog) Tryz.func143 rfl (by kernel_rfl)
  (Qs [] [0, 1, 2] (fun z_ => Zcy19 x0 x1 x2 k)
  Qz
  (fun _ => Qs [] [0, 1, 2] (fun z_ => Zcy16 x0 x1 x2 k x1)
  (Qs [(36, .bool)] [0, 1, 2] (fun z_ => Zcy18 x0 x1 x2 k z_.1)
  (Qp [2, 6, 14])
  (fun ⟨x36, _⟩ => Qc (x36) (Zcy17 k 1) (Zcy16 x0 x1 x2 k x1) (Qs [(6, .int .i64)] [] (fun z_ => Zcy17 k z_.1)
  Qz
  (fun ⟨x6_2, _⟩ => Qr)) Qk))
  (fun _ => Qs [] [0, 1, 2] (fun z_ => Zcy10 x0 x1 x2 k)
  (Qs [(7, .int .i64)] [0, 1, 2] (fun z_ => Zcy16 x0 x1 x2 k z_.1)
  Qz
  (fun ⟨x7, _⟩ => Qb (Ql [(7, .int .i64)] [0, 1, 2] (fun (z_ : (Int × Unit)) c_ => Zcy15 x0 x1 x2 k z_.1 c_) (x7, ())
  (fun ⟨x7_1, _⟩ c => Qs [] [0, 1, 2, 7] (fun z_ => Zcy13 x0 k x7_1 c)
  (Qs [(42, .bool)] [0, 1, 2, 7] (fun z_ => Zcy14 x0 x1 x2 k x7_1 c z_.1)
  Qz
  (fun ⟨x42, _⟩ => Qc (x42) (Zcy13 x0 k x7_1 c) (Zcy10 x0 x1 x2 k) Qk Qx))
  (fun _ => Qs [] [0, 1, 2, 7] (fun z_ => c ((IntKind.wrap .i64 (x7_1 + 1)), ()))
  (Qb (Qs [(47, .bool)] [0, 1, 2, 7] (fun z_ => Zcy12 k x7_1 c z_.1)
  Qz
  (fun ⟨x47, _⟩ => Qc (x47) (Zcy11 k 41) (c ((IntKind.wrap .i64 (x7_1 + 1)), ())) (Qs [(6, .int .i64)] [] (fun z_ => Zcy11 k z_.1)
  Qz
  (fun ⟨x6_1, _⟩ => Qr)) Qk)))
  (fun _ => Qz))))))
  (fun _ => Qs [(1, .int .i64), (2, .int .i64)] [0] (fun z_ => Zcy5 x0 k z_.1 z_.2.1)
  (Qs [(8, .int .i64), (9, .bool)] [0, 1, 2] (fun z_ => Zcy9 x0 x1 x2 k z_.1 z_.2.1)
  Qz
  (fun ⟨x8, x9, _⟩ => Qs [(57, .bool)] [0, 1, 2, 8] (fun z_ => Zcy8 x0 x1 x2 k x8 z_.1)
  Qz
  (fun ⟨x57, _⟩ => Qc (x57) (Zcy7 x0 x2 k x8) (Zcy5 x0 k x1 x2) (Qs [(10, .int .i64)] [0, 2, 8] (fun z_ => Zcy6 x0 x2 k x8 z_.1)
  Qz
  (fun ⟨x10, _⟩ => Qs [] [0, 2, 8, 10] (fun z_ => Zcy5 x0 k x8 (IntKind.wrap .i64 (x2 + x10)))
  Qz
  (fun _ => Qz))) Qk)))
  (fun ⟨x1_1, x2_1, _⟩ => Qs [(2, .int .i64)] [0, 1] (fun z_ => Zcy1 x0 k x1_1 z_.1)
  (Qs [(11, .int .i64), (12, .bool)] [0, 1, 2] (fun z_ => Zcy4 x0 k x1_1 x2_1 z_.1 z_.2.1)
  Qz
  (fun ⟨x11, x12, _⟩ => Qs [(82, .bool)] [0, 1, 2, 11] (fun z_ => Zcy3 x0 k x1_1 x2_1 x11 z_.1)
  Qz
  (fun ⟨x82, _⟩ => Qc (x82) (Zcy2 x0 k x1_1 x2_1 x11) (Zcy1 x0 k x1_1 x2_1) (Qs [] [0, 1, 2, 11] (fun z_ => Zcy1 x0 k x1_1 (IntKind.wrap .i64 (x2_1 + x11)))
  Qz
  (fun _ => Qz)) Qk)))
  (fun ⟨x2_2, _⟩ => Qs [] [] (fun z_ => Zcy0 k 0)
  Qz
  (fun _ => Qs [(6, .int .i64)] [] (fun z_ => Zcy0 k z_.1)
  Qz
  (fun ⟨x6, _⟩ => Qr)))))))) hyp_
abbrev Zcz0 (k : (Bool → K)) (x6 : Bool) : K :=
  k x6
abbrev Zcz1 (k : (Bool → K)) (x6_1 : Bool) : K :=
  k x6_1
abbrev Zcz2 (k : (Bool → K)) (x19_1 : Int) (c : ((Int × Unit) → K)) (x31 : Bool) : K :=
  brK x31
  (Zcz1 k true)
  (c ((IntKind.wrap .i64 (x19_1 + 1)), ()))
abbrev Zcz3 (l : OA) (k_1 : Int) (at_1 : Int) (k : (Bool → K)) (x19_1 : Int) (c : ((Int × Unit) → K)) (m : Int) : K :=
  nn l fun x23 =>
  ldM (x23.add 32) fun x25 =>
  lkE Tryz.prog 201 (.slice none 0 0) (.sc (.slice)) x25 (.agg #[.int .i64 m, .int .i64 k_1]) fun r ob x29 ok =>
  c_slices_Contains_Sint_int x29 at_1 fun x31_1 =>
  Zcz2 k x19_1 c x31_1
abbrev Zcz4 (l : OA) (k_1 : Int) (at_1 : Int) (k : (Bool → K)) (x19_1 : Int) (c : ((Int × Unit) → K)) (x20 : Bool) : K :=
  brK x20
  (Zcz3 l k_1 at_1 k x19_1 c x19_1)
  (Zcz0 k false)
abbrev Zcz5 (l : OA) (k_1 : Int) (at_1 : Int) (k : (Bool → K)) (x19_1 : Int) (c : ((Int × Unit) → K)) : K :=
  Zcz4 l k_1 at_1 k x19_1 c (decide (x19_1 < 4))
abbrev Zcz6 (l : OA) (k_1 : Int) (at_1 : Int) (k : (Bool → K)) (x19 : Int) : K :=
  lp (fun (z_ : (Int × Unit)) c_ => Zcz5 l k_1 at_1 k z_.1 c_) (x19, ())
abbrev Zcz7 (k : (Bool → K)) (x6_2 : Bool) : K :=
  k x6_2
abbrev Zcz8 (l : OA) (k_1 : Int) (at_1 : Int) (k : (Bool → K)) (x18 : Bool) : K :=
  brK x18
  (Zcz7 k true)
  (Zcz6 l k_1 at_1 k 0)
abbrev Zcz9 (l : OA) (k_1 : Int) (at_1 : Int) (k : (Bool → K)) : K :=
  nn l fun x13 =>
  ixA (x13.add 0) 32 k_1 1 fun x15 =>
  ldS x15 fun x16 =>
  c_slices_Contains_Sint_int x16 at_1 fun x18_1 =>
  Zcz8 l k_1 at_1 k x18_1
abbrev Zcz10 (k : (Bool → K)) (x6_3 : Bool) : K :=
  k x6_3
abbrev Zcz11 (l : OA) (k_1 : Int) (at_1 : Int) (k : (Bool → K)) (x10 : Bool) : K :=
  brK x10
  (Zcz10 k false)
  (Zcz9 l k_1 at_1 k)
abbrev Zcz12 (l : OA) (k_1 : Int) (at_1 : Int) (k : (Bool → K)) : K :=
  c_class_Right k_1 fun x9 =>
  Zcz11 l k_1 at_1 k (!x9)
abbrev free_Lists_Has (l : OA) (k_1 : Int) (at_1 : Int) : M Bool := fun k =>
  Zcz12 l k_1 at_1 k
theorem free_Lists_Has_ok (l : OA) (k_1 : Int) (at_1 : Int) (k : Bool → K) (w : World) (hyp_ : free_Lists_Has l k_1 at_1 k w) : c_free_Lists_Has l k_1 at_1 k w :=
  cl_of (P := Tryz.prog) Tryz.func144 rfl (by kernel_rfl)
  (Qs [] [0, 1, 2] (fun z_ => Zcz12 l k_1 at_1 k)
  Qz
  (fun _ => Qs [] [0, 1, 2] (fun z_ => Zcz9 l k_1 at_1 k)
  (Qs [(10, .bool)] [0, 1, 2] (fun z_ => Zcz11 l k_1 at_1 k z_.1)
  Qz
  (fun ⟨x10, _⟩ => Qc (x10) (Zcz10 k false) (Zcz9 l k_1 at_1 k) (Qs [(6, .bool)] [] (fun z_ => Zcz10 k z_.1)
  Qz
  (fun ⟨x6_3, _⟩ => Qr)) Qk))
  (fun _ => Qs [] [0, 1, 2] (fun z_ => Zcz6 l k_1 at_1 k 0)
  (Qs [(18, .bool)] [0, 1, 2] (fun z_ => Zcz8 l k_1 at_1 k z_.1)
  Qz
  (fun ⟨x18, _⟩ => Qc (x18) (Zcz7 k true) (Zcz6 l k_1 at_1 k 0) (Qs [(6, .bool)] [] (fun z_ => Zcz7 k z_.1)
  Qz
  (fun ⟨x6_2, _⟩ => Qr)) Qk))
  (fun _ => Qs [] [] (fun z_ => Zcz0 k false)
  (Qs [(19, .int .i64)] [0, 1, 2] (fun z_ => Zcz6 l k_1 at_1 k z_.1)
  Qz
  (fun ⟨x19, _⟩ => Qb (Ql [(19, .int .i64)] [0, 1, 2] (fun (z_ : (Int × Unit)) c_ => Zcz5 l k_1 at_1 k z_.1 c_) (x19, ())
  (fun ⟨x19_1, _⟩ c => Qs [(20, .bool)] [0, 1, 2, 19] (fun z_ => Zcz4 l k_1 at_1 k x19_1 c z_.1)
  Qz
  (fun ⟨x20, _⟩ => Qs [] [0, 1, 2, 19] (fun z_ => Zcz3 l k_1 at_1 k x19_1 c x19_1)
  (Qc (x20) (Zcz3 l k_1 at_1 k x19_1 c x19_1) (Zcz0 k false) Qk Qx)
  (fun _ => Qs [] [0, 1, 2, 19] (fun z_ => c ((IntKind.wrap .i64 (x19_1 + 1)), ()))
  (Qb (Qs [(7, .int .i64)] [0, 1, 2, 19] (fun z_ => Zcz3 l k_1 at_1 k x19_1 c z_.1)
  Qz
  (fun ⟨m, _⟩ => Qs [(31, .bool)] [0, 1, 2, 19] (fun z_ => Zcz2 k x19_1 c z_.1)
  Qz
  (fun ⟨x31, _⟩ => Qc (x31) (Zcz1 k true) (c ((IntKind.wrap .i64 (x19_1 + 1)), ())) (Qs [(6, .bool)] [] (fun z_ => Zcz1 k z_.1)
  Qz
  (fun ⟨x6_1, _⟩ => Qr)) Qk))))
  (fun _ => Qz)))))))
  (fun _ => Qs [(6, .bool)] [] (fun z_ => Zcz0 k z_.1)
  Qz
  (fun ⟨x6, _⟩ => Qr)))))) hyp_
abbrev Zda0 (k : (Bool → K)) (x4 : Bool) : K :=
  k x4
abbrev Zda1 (mutator : Int) (k_1 : Int) (k : (Bool → K)) : K :=
  brK (decide (mutator ≥ 0))
  (brK (decide (mutator < 4))
  (c_class_Right k_1 fun x13 =>
  Zda0 k x13)
  (Zda0 k false))
  (Zda0 k false)
abbrev free_right (mutator : Int) (k_1 : Int) : M Bool := fun k =>
  Zda1 mutator k_1 k
theorem free_right_ok (mutator : Int) (k_1 : Int) (k : Bool → K) (w : World) (hyp_ : free_right mutator k_1 k w) : c_free_right mutator k_1 k w :=
  cl_of (P := Tryz.prog) Tryz.func145 rfl (by kernel_rfl)
  (Qs [] [0, 1] (fun z_ => Zda1 mutator k_1 k)
  Qz
  (fun _ => Qs [(4, .bool)] [] (fun z_ => Zda0 k z_.1)
  (Qp [2, 6])
  (fun ⟨x4, _⟩ => Qr))) hyp_
abbrev Zdb0 (k : ((Int × Int) → K)) (x4 : Int) (x5 : Int) : K :=
  k (x4, x5)
abbrev Zdb1 (k : ((Int × Int) → K)) (x4_1 : Int) (x5_1 : Int) : K :=
  k (x4_1, x5_1)
abbrev Zdb2 (k : ((Int × Int) → K)) (b : Int) (e_1 : Int) (x56 : Bool) : K :=
  brK x56
  (Zdb1 k 0 e_1)
  (Zdb0 k b 0)
abbrev Zdb3 (k : ((Int × Int) → K)) (b : Int) (e_1 : Int) : K :=
  Zdb2 k b e_1 (e_1 != 0)
abbrev Zdb4 (m : OA) (k : ((Int × Int) → K)) (b : Int) (list : Sl) : K :=
  tick fun _ =>
  nn m fun x46 =>
  ldP (x46.add 0) fun x48 =>
  ixS list.p list.n 0 3 fun x51 =>
  ldI .i64 (x51.add 0) fun x52_0 =>
  ldI .i64 (x51.add 1) fun x52_1 =>
  ldI .i64 (x51.add 2) fun x52_2 =>
  alK (.cells #[.int .i64 x52_0, .int .i64 x52_1, .int .i64 x52_2] 143) fun b_1 =>
  c_blocks_Table_Put x48 b ⟨(some ⟨b_1, 0, none⟩), 1, 1⟩ fun x54 =>
  Zdb3 k b x54
abbrev Zdb5 (k : ((Int × Int) → K)) (x4_2 : Int) (x5_2 : Int) : K :=
  k (x4_2, x5_2)
abbrev Zdb6 (m : OA) (k : ((Int × Int) → K)) (b : Int) (list : Sl) (e_2 : Int) (x43 : Bool) : K :=
  brK x43
  (Zdb5 k 0 e_2)
  (Zdb4 m k b list)
abbrev Zdb7 (m : OA) (k : ((Int × Int) → K)) (b : Int) (list : Sl) (e_2 : Int) : K :=
  Zdb6 m k b list e_2 (e_2 != 0)
abbrev Zdb8 (m : OA) (k : ((Int × Int) → K)) (b : Int) (list : Sl) : K :=
  tick fun _ =>
  nn m fun x34 =>
  ldP (x34.add 0) fun x36 =>
  loB (some (.int .i64 1)) 0 list.n fun l =>
  c_blocks_Table_Put x36 (IntKind.wrap .i64 (b + 1)) ⟨(cutP list.p l list.c 3), (list.n - l), (list.c - l)⟩ fun x41 =>
  Zdb7 m k b list x41
abbrev Zdb9 (m : OA) (k : ((Int × Int) → K)) (b : Int) (list : Sl) (x32 : Bool) : K :=
  brK x32
  (Zdb8 m k b list)
  (Zdb4 m k b list)
abbrev Zdb10 (m : OA) (n : Int) (k : ((Int × Int) → K)) (b : Int) (list : Sl) : K :=
  Zdb9 m k b list (decide (n > 1))
abbrev Zdb11 (m : OA) (n : Int) (k : ((Int × Int) → K)) (b : Int) : K :=
  c_bhead_Run n fun x30 =>
  Zdb10 m n k b x30
abbrev Zdb12 (k : ((Int × Int) → K)) (x4_3 : Int) (x5_3 : Int) : K :=
  k (x4_3, x5_3)
abbrev Zdb13 (m : OA) (n : Int) (k : ((Int × Int) → K)) (b : Int) (e : Int) (x27 : Bool) : K :=
  brK x27
  (Zdb12 k 0 e)
  (Zdb11 m n k b)
abbrev Zdb14 (m : OA) (n : Int) (k : ((Int × Int) → K)) (b : Int) (e : Int) : K :=
  Zdb13 m n k b e (e != 0)
abbrev Zdb15 (m : OA) (n : Int) (k : ((Int × Int) → K)) : K :=
  nn m fun x19 =>
  ldP (x19.add 1) fun x21 =>
  c_runs_Index_Take x21 n fun x23 =>
  Zdb14 m n k x23.1 x23.2
abbrev Zdb16 (k : ((Int × Int) → K)) (x4_4 : Int) (x5_4 : Int) : K :=
  k (x4_4, x5_4)
abbrev Zdb17 (m : OA) (n : Int) (k : ((Int × Int) → K)) (x16 : Bool) : K :=
  brK x16
  (Zdb16 k 0 1)
  (Zdb15 m n k)
abbrev Zdb18 (m : OA) (n : Int) (k : ((Int × Int) → K)) : K :=
  brK (decide (n < 1))
  (Zdb17 m n k true)
  (Zdb17 m n k (decide (n ≥ 256)))
abbrev bman_Manager_Large (m : OA) (n : Int) : M (Int × Int) := fun k =>
  Zdb18 m n k
theorem bman_Manager_Large_ok (m : OA) (n : Int) (k : (Int × Int) → K) (w : World) (hyp_ : bman_Manager_Large m n k w) : c_bman_Manager_Large m n k w :=
  cl_of (P := Tryz.prog) Tryz.func149 rfl (by kernel_rfl)
  (Qs [] [0, 1] (fun z_ => Zdb18 m n k)
  Qz
  (fun _ => Qs [] [0, 1] (fun z_ => Zdb15 m n k)
  (Qs [(16, .bool)] [0, 1] (fun z_ => Zdb17 m n k z_.1)
  (Qp [2])
  (fun ⟨x16, _⟩ => Qc (x16) (Zdb16 k 0 1) (Zdb15 m n k) (Qs [(4, .int .i64), (5, .int .i64)] [] (fun z_ => Zdb16 k z_.1 z_.2.1)
  Qz
  (fun ⟨x4_4, x5_4, _⟩ => Qr)) Qk))
  (fun _ => Qs [(6, .int .i64), (7, .int .i64)] [0, 1] (fun z_ => Zdb14 m n k z_.1 z_.2.1)
  Qz
  (fun ⟨b, e, _⟩ => Qs [] [0, 1, 6] (fun z_ => Zdb11 m n k b)
  (Qs [(27, .bool)] [0, 1, 6, 7] (fun z_ => Zdb13 m n k b e z_.1)
  Qz
  (fun ⟨x27, _⟩ => Qc (x27) (Zdb12 k 0 e) (Zdb11 m n k b) (Qs [(4, .int .i64), (5, .int .i64)] [] (fun z_ => Zdb12 k z_.1 z_.2.1)
  Qz
  (fun ⟨x4_3, x5_3, _⟩ => Qr)) Qk))
  (fun _ => Qs [(8, .slice)] [0, 1, 6] (fun z_ => Zdb10 m n k b z_.1)
  Qz
  (fun ⟨list, _⟩ => Qs [] [0, 6, 8] (fun z_ => Zdb4 m k b list)
  (Qs [(32, .bool)] [0, 6, 8] (fun z_ => Zdb9 m k b list z_.1)
  Qz
  (fun ⟨x32, _⟩ => Qc (x32) (Zdb8 m k b list) (Zdb4 m k b list) (Qs [(9, .int .i64)] [0, 6, 8] (fun z_ => Zdb7 m k b list z_.1)
  (RefK.draw [] [0, 1, 3, 7, 0, 16, 0, 64, 255, 511] [0, 1, 2, 3, 4, 5, 6, 7, 8, 9] [0, 1, 2, 3, 4, 5, 6, 7, 8, 9] (by kernel_rfl) (by kernel_rfl))
  (fun ⟨e_2, _⟩ => Qs [(43, .bool)] [0, 6, 8, 9] (fun z_ => Zdb6 m k b list e_2 z_.1)
  Qz
  (fun ⟨x43, _⟩ => Qc (x43) (Zdb5 k 0 e_2) (Zdb4 m k b list) (Qs [(4, .int .i64), (5, .int .i64)] [] (fun z_ => Zdb5 k z_.1 z_.2.1)
  Qz
  (fun ⟨x4_2, x5_2, _⟩ => Qr)) Qk))) Qk))
  (fun _ => Qs [] [6] (fun z_ => Zdb0 k b 0)
  (Qs [(10, .int .i64)] [6] (fun z_ => Zdb3 k b z_.1)
  (RefK.draw [] [0, 1, 3, 7, 0, 0, 32, 96, 224, 511, 1023] [0, 1, 2, 3, 4, 5, 6, 7, 8, 9, 10] [0, 1, 2, 3, 4, 5, 6, 7, 8, 9, 10] (by kernel_rfl) (by kernel_rfl))
  (fun ⟨e_1, _⟩ => Qs [(56, .bool)] [6, 10] (fun z_ => Zdb2 k b e_1 z_.1)
  Qz
  (fun ⟨x56, _⟩ => Qc (x56) (Zdb1 k 0 e_1) (Zdb0 k b 0) (Qs [(4, .int .i64), (5, .int .i64)] [] (fun z_ => Zdb1 k z_.1 z_.2.1)
  Qz
  (fun ⟨x4_1, x5_1, _⟩ => Qr)) Qk)))
  (fun _ => Qs [(4, .int .i64), (5, .int .i64)] [] (fun z_ => Zdb0 k z_.1 z_.2.1)
  Qz
  (fun ⟨x4, x5, _⟩ => Qr))))))))) hyp_
abbrev Zdc0 (k : ((Int × Int) → K)) (x6 : Int) (x7 : Int) : K :=
  k (x6, x7)
abbrev Zdc1 (k : ((Int × Int) → K)) (x11 : Sl) : K :=
  ixS x11.p x11.n (IntKind.wrap .i64 (((x11.n : Nat) : Int) - 1)) 1 fun x94 =>
  ldI .i64 x94 fun x95 =>
  Zdc0 k x95 0
abbrev Zdc2 (x0 : OA) (k : ((Int × Int) → K)) (x8 : Addr) (x11 : Sl) : K :=
  tick fun _ =>
  nn x0 fun x81 =>
  ldM (x81.add 32) fun x83 =>
  ldI .i64 (x8.add 0) fun x84_0 =>
  ldI .i64 (x8.add 1) fun x84_1 =>
  loB (some (.int .i64 (IntKind.wrap .i64 (((x11.n : Nat) : Int) - 1)))) x11.n x11.c fun h =>
  semU Tryz.prog (Instr.mapUpdate 197 (.map x83) (.agg #[.int .i64 x84_0, .int .i64 x84_1]) (.slice (cutP x11.p 0 x11.c 1) (h - 0) (x11.c - 0))) <|
  Zdc1 k x11
abbrev Zdc3 (k : ((Int × Int) → K)) (x6_1 : Int) (x7_1 : Int) : K :=
  k (x6_1, x7_1)
abbrev Zdc4 (x0 : OA) (k : ((Int × Int) → K)) (x8 : Addr) (x11 : Sl) (x79 : Bool) : K :=
  brK x79
  (Zdc3 k 0 4)
  (Zdc2 x0 k x8 x11)
abbrev Zdc5 (x0 : OA) (k : ((Int × Int) → K)) (x8 : Addr) (x11 : Sl) : K :=
  Zdc4 x0 k x8 x11 (((x11.n : Nat) : Int) == 0)
abbrev Zdc6 (x0 : OA) (k : ((Int × Int) → K)) (x8 : Addr) : K :=
  tick fun _ =>
  nn x0 fun x72 =>
  ldM (x72.add 32) fun x74 =>
  ldI .i64 (x8.add 0) fun x75_0 =>
  ldI .i64 (x8.add 1) fun x75_1 =>
  lkE Tryz.prog 201 (.slice none 0 0) (.sc (.slice)) x74 (.agg #[.int .i64 x75_0, .int .i64 x75_1]) fun r ob x76 ok =>
  Zdc5 x0 k x8 x76
abbrev Zdc7 (x0 : OA) (x2 : Int) (k : ((Int × Int) → K)) (x8 : Addr) (x10 : Int) : K :=
  tick fun _ =>
  nn x0 fun x62 =>
  ixA (x62.add 0) 32 x2 1 fun x64 =>
  ldS x64 fun x65 =>
  loB (some (.int .i64 x10)) x65.n x65.c fun h_1 =>
  nn x0 fun x68 =>
  ixA (x68.add 0) 32 x2 1 fun x70 =>
  stK (x70.add 0) (.slice (cutP x65.p 0 x65.c 1) (h_1 - 0) (x65.c - 0)) <|
  Zdc6 x0 k x8
abbrev Zdc8 (x0 : OA) (x2 : Int) (k : ((Int × Int) → K)) (x8 : Addr) (x10 : Int) : K :=
  tick fun _ =>
  nn x0 fun x45 =>
  ldM (x45.add 32) fun x47 =>
  ldI .i64 (x8.add 0) fun x48_0 =>
  ldI .i64 (x8.add 1) fun x48_1 =>
  nn x0 fun x51 =>
  ixA (x51.add 0) 32 x2 1 fun x53 =>
  ldS x53 fun x54 =>
  loB (some (.int .i64 x10)) 0 x54.n fun l =>
  c_slices_Clone_Sint_int ⟨(cutP x54.p l x54.c 1), (x54.n - l), (x54.c - l)⟩ fun x57 =>
  chk [.cell (x8.add 0) (.int .i64 x48_0), .cell (x8.add 1) (.int .i64 x48_1), .cell (x45.add 32) (.map x47)] fun _ =>
  semU Tryz.prog (Instr.mapUpdate 197 (.map x47) (.agg #[.int .i64 x48_0, .int .i64 x48_1]) x57.v) <|
  Zdc7 x0 x2 k x8 x10
abbrev Zdc9 (x0 : OA) (x2 : Int) (k : ((Int × Int) → K)) (x8 : Addr) (x9 : Int) : K :=
  nn x0 fun x37 =>
  ixA (x37.add 0) 32 x2 1 fun x39 =>
  ldS x39 fun x40 =>
  Zdc8 x0 x2 k x8 (IntKind.wrap .i64 (((x40.n : Nat) : Int) - x9))
abbrev Zdc10 (x0 : OA) (x2 : Int) (k : ((Int × Int) → K)) (x8 : Addr) : K :=
  nn x0 fun x29 =>
  ixA (x29.add 0) 32 x2 1 fun x31 =>
  ldS x31 fun x32 =>
  Zdc9 x0 x2 k x8 (min2I ((x32.n : Nat) : Int) 4)
abbrev Zdc11 (x0 : OA) (x2 : Int) (k : ((Int × Int) → K)) (x8 : Addr) (x26 : Bool) : K :=
  brK x26
  (Zdc10 x0 x2 k x8)
  (Zdc6 x0 k x8)
abbrev Zdc12 (x0 : OA) (x2 : Int) (k : ((Int × Int) → K)) (x8 : Addr) : K :=
  tick fun _ =>
  nn x0 fun x20 =>
  ldM (x20.add 32) fun x22 =>
  ldI .i64 (x8.add 0) fun x23_0 =>
  ldI .i64 (x8.add 1) fun x23_1 =>
  lkE Tryz.prog 201 (.slice none 0 0) (.sc (.slice)) x22 (.agg #[.int .i64 x23_0, .int .i64 x23_1]) fun r_1 ob_1 x24 ok_1 =>
  Zdc11 x0 x2 k x8 (((x24.n : Nat) : Int) == 0)
abbrev Zdc13 (x0 : OA) (x1 : Int) (x2 : Int) (k : ((Int × Int) → K)) : K :=
  alK (.cells #[.int .i64 0, .int .i64 0] 201) fun b =>
  stK (Addr.add ⟨b, 0, none⟩ 0) (.int .i64 x1) <|
  stK (Addr.add ⟨b, 0, none⟩ 1) (.int .i64 x2) <|
  Zdc12 x0 x2 k ⟨b, 0, none⟩
abbrev Zdc14 (k : ((Int × Int) → K)) (x6_2 : Int) (x7_2 : Int) : K :=
  k (x6_2, x7_2)
abbrev Zdc15 (x0 : OA) (x1 : Int) (x2 : Int) (k : ((Int × Int) → K)) (x15 : Bool) : K :=
  brK x15
  (Zdc14 k 0 1)
  (Zdc13 x0 x1 x2 k)
abbrev Zdc16 (x0 : OA) (x1 : Int) (x2 : Int) (k : ((Int × Int) → K)) : K :=
  c_free_right x1 x2 fun x14 =>
  Zdc15 x0 x1 x2 k (!x14)
abbrev free_Lists_Take (x0 : OA) (x1 : Int) (x2 : Int) : M (Int × Int) := fun k =>
  Zdc16 x0 x1 x2 k
theorem free_Lists_Take_ok (x0 : OA) (x1 : Int) (x2 : Int) (k : (Int × Int) → K) (w : World) (hyp_ : free_Lists_Take x0 x1 x2 k w) : c_free_Lists_Take x0 x1 x2 k w :=
  cl_of (P := Tryz.prog) Tryz.func150 rfl (by kernel_rfl)
  (Qs [] [0, 1, 2] (fun z_ => Zdc16 x0 x1 x2 k)
  Qz
  (fun _ => Qs [] [0, 1, 2] (fun z_ => Zdc13 x0 x1 x2 k)
  (Qs [(15, .bool)] [0, 1, 2] (fun z_ => Zdc15 x0 x1 x2 k z_.1)
  Qz
  (fun ⟨x15, _⟩ => Qc (x15) (Zdc14 k 0 1) (Zdc13 x0 x1 x2 k) (Qs [(6, .int .i64), (7, .int .i64)] [] (fun z_ => Zdc14 k z_.1 z_.2.1)
  Qz
  (fun ⟨x6_2, x7_2, _⟩ => Qr)) Qk))
  (fun _ => Qs [(8, .addr)] [0, 2] (fun z_ => Zdc12 x0 x2 k z_.1)
  Qz
  (fun ⟨x8, _⟩ => Qs [] [0, 8] (fun z_ => Zdc6 x0 k x8)
  (Qs [(26, .bool)] [0, 2, 8] (fun z_ => Zdc11 x0 x2 k x8 z_.1)
  (RefK.draw [] [0, 1, 3, 7, 0, 31, 63, 127] [0, 1, 2, 3, 4, 5, 6, 7] [0, 1, 2, 3, 4, 5, 6, 7] (by kernel_rfl) (by kernel_rfl))
  (fun ⟨x26, _⟩ => Qc (x26) (Zdc10 x0 x2 k x8) (Zdc6 x0 k x8) (Qs [(9, .int .i64)] [0, 2, 8] (fun z_ => Zdc9 x0 x2 k x8 z_.1)
  Qz
  (fun ⟨x9, _⟩ => Qs [(10, .int .i64)] [0, 2, 8] (fun z_ => Zdc8 x0 x2 k x8 z_.1)
  Qz
  (fun ⟨x10, _⟩ => Qs [] [0, 2, 8, 10] (fun z_ => Zdc7 x0 x2 k x8 x10)
  (RefK.draw [] [0, 1, 3, 7, 0, 0, 0, 32, 160, 480, 992, 0, 4064, 8160, 16383] [0, 1, 2, 3, 4, 5, 6, 7, 8, 9, 10, 11, 12, 13, 14] [0, 1, 2, 3, 4, 5, 6, 7, 8, 9, 10, 11, 12, 13, 14] (by kernel_rfl) (by kernel_rfl))
  (fun _ => RefK.draw [] [0, 0, 0, 0, 4, 20, 60, 124, 0, 508, 1, 1025, 4095, 8191] [0, 1, 2, 3, 4, 5, 6, 7, 8, 9, 10, 11, 12, 13] [0, 1, 2, 3, 4, 5, 6, 7, 8, 9, 10, 11, 12, 13] (by kernel_rfl) (by kernel_rfl))))) Qk))
  (fun _ => Qs [(11, .slice)] [0, 8] (fun z_ => Zdc5 x0 k x8 z_.1)
  (RefK.draw [] [0, 1, 3, 7, 0, 31, 63] [0, 1, 2, 3, 4, 5, 6] [0, 1, 2, 3, 4, 5, 6] (by kernel_rfl) (by kernel_rfl))
  (fun ⟨x11, _⟩ => Qs [] [0, 8, 11] (fun z_ => Zdc2 x0 k x8 x11)
  (Qs [(79, .bool)] [0, 8, 11] (fun z_ => Zdc4 x0 k x8 x11 z_.1)
  Qz
  (fun ⟨x79, _⟩ => Qc (x79) (Zdc3 k 0 4) (Zdc2 x0 k x8 x11) (Qs [(6, .int .i64), (7, .int .i64)] [] (fun z_ => Zdc3 k z_.1 z_.2.1)
  Qz
  (fun ⟨x6_1, x7_1, _⟩ => Qr)) Qk))
  (fun _ => Qs [] [11] (fun z_ => Zdc1 k x11)
  (RefK.draw [] [0, 1, 3, 7, 0, 0, 0, 64, 192, 480, 1023] [0, 1, 2, 3, 4, 5, 6, 7, 8, 9, 10] [0, 1, 2, 3, 4, 5, 6, 7, 8, 9, 10] (by kernel_rfl) (by kernel_rfl))
  (fun _ => Qs [(6, .int .i64), (7, .int .i64)] [] (fun z_ => Zdc0 k z_.1 z_.2.1)
  Qz
  (fun ⟨x6, x7, _⟩ => Qr))))))))) hyp_
abbrev Zdd0 (k : ((Int × Int) → K)) (x4 : Int) (x5 : Int) : K :=
  k (x4, x5)
abbrev Zdd1 (k : ((Int × Int) → K)) (x4_1 : Int) (x5_1 : Int) : K :=
  k (x4_1, x5_1)
abbrev Zdd2 (k : ((Int × Int) → K)) (b : Int) (e_1 : Int) (x35 : Bool) : K :=
  brK x35
  (Zdd1 k 0 e_1)
  (Zdd0 k b 0)
abbrev Zdd3 (k : ((Int × Int) → K)) (b : Int) (e_1 : Int) : K :=
  Zdd2 k b e_1 (e_1 != 0)
abbrev Zdd4 (m : OA) (k : ((Int × Int) → K)) (h : Addr) (b : Int) : K :=
  tick fun _ =>
  nn m fun x27 =>
  ldP (x27.add 0) fun x29 =>
  ldI .i64 (h.add 0) fun x31_0 =>
  ldI .i64 (h.add 1) fun x31_1 =>
  ldI .i64 (h.add 2) fun x31_2 =>
  alK (.cells #[.int .i64 x31_0, .int .i64 x31_1, .int .i64 x31_2] 143) fun b_1 =>
  c_blocks_Table_Put x29 b ⟨(some ⟨b_1, 0, none⟩), 1, 1⟩ fun x33 =>
  Zdd3 k b x33
abbrev Zdd5 (k : ((Int × Int) → K)) (x4_2 : Int) (x5_2 : Int) : K :=
  k (x4_2, x5_2)
abbrev Zdd6 (m : OA) (k : ((Int × Int) → K)) (h : Addr) (b : Int) (e : Int) (x24 : Bool) : K :=
  brK x24
  (Zdd5 k 0 e)
  (Zdd4 m k h b)
abbrev Zdd7 (m : OA) (k : ((Int × Int) → K)) (h : Addr) (b : Int) (e : Int) : K :=
  Zdd6 m k h b e (e != 0)
abbrev Zdd8 (m : OA) (k : ((Int × Int) → K)) (h : Addr) : K :=
  nn m fun x17 =>
  ldP (x17.add 1) fun x19 =>
  c_runs_Index_Take x19 1 fun x20 =>
  Zdd7 m k h x20.1 x20.2
abbrev Zdd9 (k : ((Int × Int) → K)) (x4_3 : Int) (x5_3 : Int) : K :=
  k (x4_3, x5_3)
abbrev Zdd10 (m : OA) (k : ((Int × Int) → K)) (h : Addr) (x14 : Bool) : K :=
  brK x14
  (Zdd9 k 0 1)
  (Zdd8 m k h)
abbrev Zdd11 (m : OA) (k : ((Int × Int) → K)) (h : Addr) : K :=
  ldI .i64 (h.add 0) fun x12_0 =>
  ldI .i64 (h.add 1) fun x12_1 =>
  ldI .i64 (h.add 2) fun x12_2 =>
  c_bhead_Header_Right (x12_0, (x12_1, x12_2)) fun x13 =>
  Zdd10 m k h (!x13)
abbrev Zdd12 (m : OA) (k_1 : Int) (k : ((Int × Int) → K)) : K :=
  alK (.cells #[.int .i64 0, .int .i64 0, .int .i64 0] 143) fun b_2 =>
  stK (Addr.add ⟨b_2, 0, none⟩ 0) (.int .i64 1) <|
  stK (Addr.add ⟨b_2, 0, none⟩ 1) (.int .i64 k_1) <|
  stK (Addr.add ⟨b_2, 0, none⟩ 2) (.int .i64 0) <|
  Zdd11 m k ⟨b_2, 0, none⟩
abbrev bman_Manager_Small (m : OA) (k_1 : Int) : M (Int × Int) := fun k =>
  Zdd12 m k_1 k
theorem bman_Manager_Small_ok (m : OA) (k_1 : Int) (k : (Int × Int) → K) (w : World) (hyp_ : bman_Manager_Small m k_1 k w) : c_bman_Manager_Small m k_1 k w :=
  cl_of (P := Tryz.prog) Tryz.func151 rfl (by kernel_rfl)
  (Qs [] [0, 1] (fun z_ => Zdd12 m k_1 k)
  Qz
  (fun _ => Qs [(6, .addr)] [0] (fun z_ => Zdd11 m k z_.1)
  Qz
  (fun ⟨h, _⟩ => Qs [] [0, 6] (fun z_ => Zdd8 m k h)
  (Qs [(14, .bool)] [0, 6] (fun z_ => Zdd10 m k h z_.1)
  Qz
  (fun ⟨x14, _⟩ => Qc (x14) (Zdd9 k 0 1) (Zdd8 m k h) (Qs [(4, .int .i64), (5, .int .i64)] [] (fun z_ => Zdd9 k z_.1 z_.2.1)
  Qz
  (fun ⟨x4_3, x5_3, _⟩ => Qr)) Qk))
  (fun _ => Qs [(7, .int .i64), (8, .int .i64)] [0, 6] (fun z_ => Zdd7 m k h z_.1 z_.2.1)
  Qz
  (fun ⟨b, e, _⟩ => Qs [] [0, 6, 7] (fun z_ => Zdd4 m k h b)
  (Qs [(24, .bool)] [0, 6, 7, 8] (fun z_ => Zdd6 m k h b e z_.1)
  Qz
  (fun ⟨x24, _⟩ => Qc (x24) (Zdd5 k 0 e) (Zdd4 m k h b) (Qs [(4, .int .i64), (5, .int .i64)] [] (fun z_ => Zdd5 k z_.1 z_.2.1)
  Qz
  (fun ⟨x4_2, x5_2, _⟩ => Qr)) Qk))
  (fun _ => Qs [] [7] (fun z_ => Zdd0 k b 0)
  (Qs [(9, .int .i64)] [7] (fun z_ => Zdd3 k b z_.1)
  (RefK.draw [] [0, 1, 3, 7, 0, 0, 32, 127, 255] [0, 1, 2, 3, 4, 5, 6, 7, 8] [0, 1, 2, 3, 4, 5, 6, 7, 8] (by kernel_rfl) (by kernel_rfl))
  (fun ⟨e_1, _⟩ => Qs [(35, .bool)] [7, 9] (fun z_ => Zdd2 k b e_1 z_.1)
  Qz
  (fun ⟨x35, _⟩ => Qc (x35) (Zdd1 k 0 e_1) (Zdd0 k b 0) (Qs [(4, .int .i64), (5, .int .i64)] [] (fun z_ => Zdd1 k z_.1 z_.2.1)
  Qz
  (fun ⟨x4_1, x5_1, _⟩ => Qr)) Qk)))
  (fun _ => Qs [(4, .int .i64), (5, .int .i64)] [] (fun z_ => Zdd0 k z_.1 z_.2.1)
  Qz
  (fun ⟨x4, x5, _⟩ => Qr)))))))) hyp_
abbrev Zde0 (k : (Sl → K)) (x4 : Sl) : K :=
  k x4
abbrev Zde1 (k : (Sl → K)) (out_1 : Sl) : K :=
  c_slices_Sort_Sint_int out_1 fun x32 =>
  Zde0 k out_1
abbrev Zde2 (x17_1 : Int) (c : ((Sl × Int × Unit) → K)) (out_3 : Sl) : K :=
  c (out_3, (IntKind.wrap .i64 (x17_1 + 1)), ())
abbrev Zde3 (l : OA) (k_1 : Int) (out_2 : Sl) (x17_1 : Int) (c : ((Sl × Int × Unit) → K)) (m : Int) : K :=
  nn l fun x22 =>
  ldM (x22.add 32) fun x24 =>
  lkE Tryz.prog 201 (.slice none 0 0) (.sc (.slice)) x24 (.agg #[.int .i64 m, .int .i64 k_1]) fun r ob x28 ok =>
  semT Tryz.prog (Builtin.append_ #[27, 27] 27 #[out_2.v, x28.v]) (.one (.sc (.slice))) fun x29 =>
  Zde2 x17_1 c x29
abbrev Zde4 (l : OA) (k_1 : Int) (k : (Sl → K)) (out_2 : Sl) (x17_1 : Int) (c : ((Sl × Int × Unit) → K)) (x18 : Bool) : K :=
  brK x18
  (Zde3 l k_1 out_2 x17_1 c x17_1)
  (Zde1 k out_2)
abbrev Zde5 (l : OA) (k_1 : Int) (k : (Sl → K)) (out_2 : Sl) (x17_1 : Int) (c : ((Sl × Int × Unit) → K)) : K :=
  Zde4 l k_1 k out_2 x17_1 c (decide (x17_1 < 4))
abbrev Zde6 (l : OA) (k_1 : Int) (k : (Sl → K)) (out : Sl) (x17 : Int) : K :=
  lp (fun (z_ : (Sl × Int × Unit)) c_ => Zde5 l k_1 k z_.1 z_.2.1 c_) (out, x17, ())
abbrev Zde7 (l : OA) (k_1 : Int) (k : (Sl → K)) (out : Sl) : K :=
  Zde6 l k_1 k out 0
abbrev Zde8 (l : OA) (k_1 : Int) (k : (Sl → K)) : K :=
  nn l fun x12 =>
  ixA (x12.add 0) 32 k_1 1 fun x14 =>
  ldS x14 fun x15 =>
  c_slices_Clone_Sint_int x15 fun x16 =>
  Zde7 l k_1 k x16
abbrev Zde9 (k : (Sl → K)) (x4_1 : Sl) : K :=
  k x4_1
abbrev Zde10 (l : OA) (k_1 : Int) (k : (Sl → K)) (x9 : Bool) : K :=
  brK x9
  (Zde9 k ⟨none, 0, 0⟩)
  (Zde8 l k_1 k)
abbrev Zde11 (l : OA) (k_1 : Int) (k : (Sl → K)) : K :=
  c_class_Right k_1 fun x8 =>
  Zde10 l k_1 k (!x8)
abbrev free_Lists_List (l : OA) (k_1 : Int) : M Sl := fun k =>
  Zde11 l k_1 k
theorem free_Lists_List_ok (l : OA) (k_1 : Int) (k : Sl → K) (w : World) (hyp_ : free_Lists_List l k_1 k w) : c_free_Lists_List l k_1 k w :=
  cl_of (P := Tryz.prog) Tryz.func157 rfl (by kernel_rfl)
  (Qs [] [0, 1] (fun z_ => Zde11 l k_1 k)
  Qz
  (fun _ => Qs [] [0, 1] (fun z_ => Zde8 l k_1 k)
  (Qs [(9, .bool)] [0, 1] (fun z_ => Zde10 l k_1 k z_.1)
  Qz
  (fun ⟨x9, _⟩ => Qc (x9) (Zde9 k ⟨none, 0, 0⟩) (Zde8 l k_1 k) (Qs [(4, .slice)] [] (fun z_ => Zde9 k z_.1)
  Qz
  (fun ⟨x4_1, _⟩ => Qr)) Qk))
  (fun _ => Qs [(5, .slice)] [0, 1] (fun z_ => Zde7 l k_1 k z_.1)
  Qz
  (fun ⟨out, _⟩ => Qs [(5, .slice)] [] (fun z_ => Zde1 k z_.1)
  (Qs [(17, .int .i64)] [0, 1, 5] (fun z_ => Zde6 l k_1 k out z_.1)
  Qz
  (fun ⟨x17, _⟩ => Qb (Ql [(5, .slice), (17, .int .i64)] [0, 1] (fun (z_ : (Sl × Int × Unit)) c_ => Zde5 l k_1 k z_.1 z_.2.1 c_) (out, x17, ())
  (fun ⟨out_2, x17_1, _⟩ c => Qs [(18, .bool)] [0, 1, 5, 17] (fun z_ => Zde4 l k_1 k out_2 x17_1 c z_.1)
  Qz
  (fun ⟨x18, _⟩ => Qs [] [0, 1, 5, 17] (fun z_ => Zde3 l k_1 out_2 x17_1 c x17_1)
  (Qc (x18) (Zde3 l k_1 out_2 x17_1 c x17_1) (Zde1 k out_2) Qk Qx)
  (fun _ => Qs [(5, .slice)] [0, 1, 17] (fun z_ => Zde2 x17_1 c z_.1)
  (Qb (Qs [(6, .int .i64)] [0, 1, 5, 17] (fun z_ => Zde3 l k_1 out_2 x17_1 c z_.1)
  Qz
  (fun ⟨m, _⟩ => Qz)))
  (fun ⟨out_3, _⟩ => Qz)))))))
  (fun ⟨out_1, _⟩ => Qs [] [5] (fun z_ => Zde0 k out_1)
  Qz
  (fun _ => Qs [(4, .slice)] [] (fun z_ => Zde0 k z_.1)
  Qz
  (fun ⟨x4, _⟩ => Qr))))))) hyp_
abbrev Zdf0 (k : (Sl → K)) (x2 : Sl) : K :=
  k x2
abbrev Zdf1 (k : (Sl → K)) (out_1 : Sl) : K :=
  c_slices_SortFunc_Sblocks_Span_blocks_Span out_1 ⟨.func 208, #[], #[]⟩ fun x23 =>
  Zdf0 k out_1
abbrev Zdf2 (out_2 : Sl) (c : ((Sl × Unit) → K)) (start : Int) (n : Int) : K :=
  alK (.cells #[.int .i64 start, .int .i64 n] 152) fun b =>
  semT Tryz.prog (Builtin.append_ #[150, 150] 150 #[out_2.v, .slice (some ⟨b, 0, none⟩) 1 1]) (.one (.sc (.slice))) fun x21 =>
  c (x21, ())
abbrev Zdf3 (x10 : OA) (out_2 : Sl) (c : ((Sl × Unit) → K)) : K :=
  semT Tryz.prog (Instr.entry (.pointer x10)) (.tup [.sc (.any), .sc (.any)]) fun e =>
  decSh (.int .i64) e.1 fun x14 =>
  decSh (.int .i64) e.2 fun x15 =>
  Zdf2 out_2 c x14 x15
abbrev Zdf4 (k : (Sl → K)) (x10 : OA) (out_2 : Sl) (c : ((Sl × Unit) → K)) (x12 : Bool) : K :=
  brK x12
  (Zdf3 x10 out_2 c)
  (Zdf1 k out_2)
abbrev Zdf5 (k : (Sl → K)) (x10 : OA) (out_2 : Sl) (c : ((Sl × Unit) → K)) : K :=
  nextM Tryz.prog (Instr.next (.pointer x10) false 0) fun go rest =>
  Zdf4 k x10 out_2 c go
abbrev Zdf6 (k : (Sl → K)) (out : Sl) (x10 : OA) : K :=
  lp (fun (z_ : (Sl × Unit)) c_ => Zdf5 k x10 z_.1 c_) (out, ())
abbrev Zdf7 (x : OA) (k : (Sl → K)) (out : Sl) : K :=
  nn x fun x7 =>
  ldM (x7.add 0) fun x9 =>
  semT Tryz.prog (Instr.range 240 (.map x9)) (.one (.sc (.ptr))) fun it =>
  Zdf6 k out it
abbrev runs_Index_List (x : OA) : M Sl := fun k =>
  Zdf7 x k ⟨none, 0, 0⟩
theorem runs_Index_List_ok (x : OA) (k : Sl → K) (w : World) (hyp_ : runs_Index_List x k w) : c_runs_Index_List x k w :=
  cl_of (P := Tryz.prog) Tryz.func161 rfl (by kernel_rfl)
  (Qs [] [0] (fun z_ => Zdf7 x k ⟨none, 0, 0⟩)
  Qz
  (fun _ => Qs [(3, .slice)] [0] (fun z_ => Zdf7 x k z_.1)
  Qz
  (fun ⟨out, _⟩ => Qs [(3, .slice)] [] (fun z_ => Zdf1 k z_.1)
  (Qs [(10, .ptr)] [3] (fun z_ => Zdf6 k out z_.1)
  Qz
  (fun ⟨x10, _⟩ => Qb (Ql [(3, .slice)] [10] (fun (z_ : (Sl × Unit)) c_ => Zdf5 k x10 z_.1 c_) (out, ())
  (fun ⟨out_2, _⟩ c => Qs [(12, .bool)] [3, 10] (fun z_ => Zdf4 k x10 out_2 c z_.1)
  Qz
  (fun ⟨x12, _⟩ => Qs [] [3, 10] (fun z_ => Zdf3 x10 out_2 c)
  (Qc (x12) (Zdf3 x10 out_2 c) (Zdf1 k out_2) Qk Qx)
  (fun _ => Qb (Qs [(4, .int .i64), (5, .int .i64)] [3, 10] (fun z_ => Zdf2 out_2 c z_.1 z_.2.1)
  Qz
  (fun ⟨start, n, _⟩ => Qz))))))))
  (fun ⟨out_1, _⟩ => Qs [] [3] (fun z_ => Zdf0 k out_1)
  Qz
  (fun _ => Qs [(2, .slice)] [] (fun z_ => Zdf0 k z_.1)
  Qz
  (fun ⟨x2, _⟩ => Qr)))))) hyp_
abbrev Zdg0 (k : (Int → K)) (x6 : Int) : K :=
  k x6
abbrev Zdg1 (k : (Int → K)) (n_1 : Int) : K :=
  Zdg0 k n_1
abbrev Zdg2 (s : OA) (at_2 : Int) (c : ((Int × Int × Bool × Unit) → K)) (n_3 : Int) : K :=
  c_bitmap_Set_Next s (IntKind.wrap .i64 (at_2 + 1)) fun x26 =>
  c (n_3, x26.1, x26.2, ())
abbrev Zdg3 (s : OA) (k : (Int → K)) (n_2 : Int) (at_2 : Int) (c : ((Int × Int × Bool × Unit) → K)) (x21 : Bool) : K :=
  brK x21
  (Zdg2 s at_2 c (IntKind.wrap .i64 (n_2 + 1)))
  (Zdg1 k n_2)
abbrev Zdg4 (s : OA) (to : Int) (k : (Int → K)) (n_2 : Int) (at_2 : Int) (ok_1 : Bool) (c : ((Int × Int × Bool × Unit) → K)) : K :=
  brK ok_1
  (Zdg3 s k n_2 at_2 c (decide (at_2 < to)))
  (Zdg3 s k n_2 at_2 c false)
abbrev Zdg5 (s : OA) (to : Int) (k : (Int → K)) (n : Int) (at_1 : Int) (ok : Bool) : K :=
  lp (fun (z_ : (Int × Int × Bool × Unit)) c_ => Zdg4 s to k z_.1 z_.2.1 z_.2.2.1 c_) (n, at_1, ok, ())
abbrev Zdg6 (s : OA) (from_1 : Int) (to : Int) (k : (Int → K)) (n : Int) : K :=
  c_bitmap_Set_Next s from_1 fun x13 =>
  Zdg5 s to k n x13.1 x13.2
abbrev bitmap_Set_Between (s : OA) (from_1 : Int) (to : Int) : M Int := fun k =>
  Zdg6 s from_1 to k 0
theorem bitmap_Set_Between_ok (s : OA) (from_1 : Int) (to : Int) (k : Int → K) (w : World) (hyp_ : bitmap_Set_Between s from_1 to k w) : c_bitmap_Set_Between s from_1 to k w :=
  cl_of (P := Tryz.prog) Tryz.func162 rfl (by kernel_rfl)
  (Qs [] [0, 1, 2] (fun z_ => Zdg6 s from_1 to k 0)
  Qz
  (fun _ => Qs [(7, .int .i64)] [0, 1, 2] (fun z_ => Zdg6 s from_1 to k z_.1)
  Qz
  (fun ⟨n, _⟩ => Qs [(7, .int .i64)] [] (fun z_ => Zdg1 k z_.1)
  (Qs [(8, .int .i64), (9, .bool)] [0, 2, 7] (fun z_ => Zdg5 s to k n z_.1 z_.2.1)
  Qz
  (fun ⟨at_1, ok, _⟩ => Qb (Ql [(7, .int .i64), (8, .int .i64), (9, .bool)] [0, 2] (fun (z_ : (Int × Int × Bool × Unit)) c_ => Zdg4 s to k z_.1 z_.2.1 z_.2.2.1 c_) (n, at_1, ok, ())
  (fun ⟨n_2, at_2, ok_1, _⟩ c => Qs [] [0, 2, 7, 8] (fun z_ => Zdg2 s at_2 c (IntKind.wrap .i64 (n_2 + 1)))
  (Qs [(21, .bool)] [0, 2, 7, 8] (fun z_ => Zdg3 s k n_2 at_2 c z_.1)
  (Qp [1])
  (fun ⟨x21, _⟩ => Qc (x21) (Zdg2 s at_2 c (IntKind.wrap .i64 (n_2 + 1))) (Zdg1 k n_2) Qk Qx))
  (fun _ => Qs [(7, .int .i64)] [0, 2, 8] (fun z_ => Zdg2 s at_2 c z_.1)
  (Qb Qz)
  (fun ⟨n_3, _⟩ => Qz))))))
  (fun ⟨n_1, _⟩ => Qs [(6, .int .i64)] [] (fun z_ => Zdg0 k z_.1)
  Qz
  (fun ⟨x6, _⟩ => Qr))))) hyp_
abbrev Zdh0 (k : (Int → K)) (x8 : Int) : K :=
  k x8
abbrev Zdh1 (x0 : OA) (x1 : Int) (k : (Int → K)) (x9 : Int) : K :=
  c_free_Lists_Len x0 x1 fun x63 =>
  Zdh0 k (IntKind.wrap .i64 (x9 - x63))
abbrev Zdh2 (x0 : OA) (x10 : Fv) (x35_1 : Int) (c : ((Int × Unit) → K)) (x12 : Addr) (x13 : Sl) : K :=
  tick fun _ =>
  nn x0 fun x52 =>
  ldM (x52.add 32) fun x54 =>
  ldI .i64 (x12.add 0) fun x55_0 =>
  ldI .i64 (x12.add 1) fun x55_1 =>
  c_slices_DeleteFunc_Sint_int x13 x10 fun x58 =>
  chk [.cell (x12.add 0) (.int .i64 x55_0), .cell (x12.add 1) (.int .i64 x55_1), .cell (x52.add 32) (.map x54)] fun _ =>
  semU Tryz.prog (Instr.mapUpdate 197 (.map x54) (.agg #[.int .i64 x55_0, .int .i64 x55_1]) x58.v) <|
  c ((IntKind.wrap .i64 (x35_1 + 1)), ())
abbrev Zdh3 (x0 : OA) (x10 : Fv) (x35_1 : Int) (c : ((Int × Unit) → K)) (x12 : Addr) (x13 : Sl) (x50 : Bool) : K :=
  brK x50
  (Zdh2 x0 x10 x35_1 c x12 x13)
  (c ((IntKind.wrap .i64 (x35_1 + 1)), ()))
abbrev Zdh4 (x0 : OA) (x10 : Fv) (x35_1 : Int) (c : ((Int × Unit) → K)) (x12 : Addr) (x13 : Sl) (x14 : Bool) : K :=
  Zdh3 x0 x10 x35_1 c x12 x13 x14
abbrev Zdh5 (x0 : OA) (x10 : Fv) (x35_1 : Int) (c : ((Int × Unit) → K)) (x12 : Addr) : K :=
  tick fun _ =>
  nn x0 fun x43 =>
  ldM (x43.add 32) fun x45 =>
  ldI .i64 (x12.add 0) fun x46_0 =>
  ldI .i64 (x12.add 1) fun x46_1 =>
  lkE Tryz.prog 201 (.slice none 0 0) (.sc (.slice)) x45 (.agg #[.int .i64 x46_0, .int .i64 x46_1]) fun r ob x47 ok =>
  Zdh4 x0 x10 x35_1 c x12 x47 ok
abbrev Zdh6 (x0 : OA) (x1 : Int) (x10 : Fv) (x35_1 : Int) (c : ((Int × Unit) → K)) (x11 : Int) : K :=
  alK (.cells #[.int .i64 0, .int .i64 0] 201) fun b =>
  stK (Addr.add ⟨b, 0, none⟩ 0) (.int .i64 x11) <|
  stK (Addr.add ⟨b, 0, none⟩ 1) (.int .i64 x1) <|
  Zdh5 x0 x10 x35_1 c ⟨b, 0, none⟩
abbrev Zdh7 (x0 : OA) (x1 : Int) (k : (Int → K)) (x9 : Int) (x10 : Fv) (x35_1 : Int) (c : ((Int × Unit) → K)) (x36 : Bool) : K :=
  brK x36
  (Zdh6 x0 x1 x10 x35_1 c x35_1)
  (Zdh1 x0 x1 k x9)
abbrev Zdh8 (x0 : OA) (x1 : Int) (k : (Int → K)) (x9 : Int) (x10 : Fv) (x35_1 : Int) (c : ((Int × Unit) → K)) : K :=
  Zdh7 x0 x1 k x9 x10 x35_1 c (decide (x35_1 < 4))
abbrev Zdh9 (x0 : OA) (x1 : Int) (k : (Int → K)) (x9 : Int) (x10 : Fv) (x35 : Int) : K :=
  lp (fun (z_ : (Int × Unit)) c_ => Zdh8 x0 x1 k x9 x10 z_.1 c_) (x35, ())
abbrev Zdh10 (x0 : OA) (x1 : Int) (k : (Int → K)) (x9 : Int) (x10 : Fv) : K :=
  tick fun _ =>
  nn x0 fun x26 =>
  ixA (x26.add 0) 32 x1 1 fun x28 =>
  ldS x28 fun x29 =>
  nn x0 fun x32 =>
  c_slices_DeleteFunc_Sint_int x29 x10 fun x31 =>
  ixA (x32.add 0) 32 x1 1 fun x34 =>
  stK (x34.add 0) (x31.v) <|
  Zdh9 x0 x1 k x9 x10 0
abbrev Zdh11 (x0 : OA) (x1 : Int) (k : (Int → K)) (x6 : Addr) (x7 : Addr) (x9 : Int) : K :=
  Zdh10 x0 x1 k x9 ⟨.func 210, #[], #[.pointer (some x6), .pointer (some x7)]⟩
abbrev Zdh12 (x0 : OA) (x1 : Int) (k : (Int → K)) (x6 : Addr) (x7 : Addr) : K :=
  c_free_Lists_Len x0 x1 fun x20 =>
  Zdh11 x0 x1 k x6 x7 x20
abbrev Zdh13 (k : (Int → K)) (x8_1 : Int) : K :=
  k x8_1
abbrev Zdh14 (x0 : OA) (x1 : Int) (k : (Int → K)) (x6 : Addr) (x7 : Addr) (x17 : Bool) : K :=
  brK x17
  (Zdh13 k 0)
  (Zdh12 x0 x1 k x6 x7)
abbrev Zdh15 (x0 : OA) (x1 : Int) (k : (Int → K)) (x6 : Addr) (x7 : Addr) : K :=
  c_class_Right x1 fun x16 =>
  Zdh14 x0 x1 k x6 x7 (!x16)
abbrev free_Lists_Remove (x0 : OA) (x1 : Int) (x2 : Int) (x3 : Int) : M Int := fun k =>
  alK (.cells #[.int .i64 x2] 3) fun b_1 =>
  alK (.cells #[.int .i64 x3] 3) fun b_2 =>
  Zdh15 x0 x1 k ⟨b_1, 0, none⟩ ⟨b_2, 0, none⟩
theorem free_Lists_Remove_ok (x0 : OA) (x1 : Int) (x2 : Int) (x3 : Int) (k : Int → K) (w : World) (hyp_ : free_Lists_Remove x0 x1 x2 x3 k w) : c_free_Lists_Remove x0 x1 x2 x3 k w :=
  cl_of (P := Tryz.prog) Tryz.func163 rfl (by kernel_rfl)
  (Qs [(6, .addr), (7, .addr)] [0, 1] (fun z_ => Zdh15 x0 x1 k z_.1 z_.2.1)
  Qz
  (fun ⟨x6, x7, _⟩ => Qs [] [0, 1, 6, 7] (fun z_ => Zdh12 x0 x1 k x6 x7)
  (Qs [(17, .bool)] [0, 1, 6, 7] (fun z_ => Zdh14 x0 x1 k x6 x7 z_.1)
  Qz
  (fun ⟨x17, _⟩ => Qc (x17) (Zdh13 k 0) (Zdh12 x0 x1 k x6 x7) (Qs [(8, .int .i64)] [] (fun z_ => Zdh13 k z_.1)
  Qz
  (fun ⟨x8_1, _⟩ => Qr)) Qk))
  (fun _ => Qs [(9, .int .i64)] [0, 1, 6, 7] (fun z_ => Zdh11 x0 x1 k x6 x7 z_.1)
  Qz
  (fun ⟨x9, _⟩ => Qs [(10, .func)] [0, 1, 9] (fun z_ => Zdh10 x0 x1 k x9 z_.1)
  Qz
  (fun ⟨x10, _⟩ => Qs [] [0, 1, 9, 10] (fun z_ => Zdh9 x0 x1 k x9 x10 0)
  (RefK.draw [] [0, 0, 0, 0, 4, 20, 60, 124, 0, 508, 1, 1025, 4095, 8191] [0, 1, 2, 3, 4, 5, 6, 7, 8, 10, 11, 9, 12, 13] [0, 1, 2, 3, 4, 5, 6, 7, 8, 9, 10, 11, 12, 13] (by kernel_rfl) (by kernel_rfl))
  (fun _ => Qs [] [0, 1, 9] (fun z_ => Zdh1 x0 x1 k x9)
  (Qs [(35, .int .i64)] [0, 1, 9, 10] (fun z_ => Zdh9 x0 x1 k x9 x10 z_.1)
  Qz
  (fun ⟨x35, _⟩ => Qb (Ql [(35, .int .i64)] [0, 1, 9, 10] (fun (z_ : (Int × Unit)) c_ => Zdh8 x0 x1 k x9 x10 z_.1 c_) (x35, ())
  (fun ⟨x35_1, _⟩ c => Qs [(36, .bool)] [0, 1, 9, 10, 35] (fun z_ => Zdh7 x0 x1 k x9 x10 x35_1 c z_.1)
  Qz
  (fun ⟨x36, _⟩ => Qs [] [0, 1, 9, 10, 35] (fun z_ => Zdh6 x0 x1 x10 x35_1 c x35_1)
  (Qc (x36) (Zdh6 x0 x1 x10 x35_1 c x35_1) (Zdh1 x0 x1 k x9) Qk Qx)
  (fun _ => Qs [] [0, 1, 9, 10, 35] (fun z_ => c ((IntKind.wrap .i64 (x35_1 + 1)), ()))
  (Qb (Qs [(11, .int .i64)] [0, 1, 9, 10, 35] (fun z_ => Zdh6 x0 x1 x10 x35_1 c z_.1)
  Qz
  (fun ⟨x11, _⟩ => Qs [(12, .addr)] [0, 1, 9, 10, 35] (fun z_ => Zdh5 x0 x10 x35_1 c z_.1)
  Qz
  (fun ⟨x12, _⟩ => Qs [(13, .slice), (14, .bool)] [0, 1, 9, 10, 12, 35] (fun z_ => Zdh4 x0 x10 x35_1 c x12 z_.1 z_.2.1)
  (RefK.draw [] [0, 1, 3, 7, 0, 31, 63, 127, 127, 255, 1023] [0, 1, 2, 3, 4, 5, 6, 7, 8, 9, 10] [0, 1, 2, 3, 4, 5, 6, 7, 9, 8, 10] (by kernel_rfl) (by kernel_rfl))
  (fun ⟨x13, x14, _⟩ => Qs [(50, .bool)] [0, 1, 9, 10, 12, 13, 35] (fun z_ => Zdh3 x0 x10 x35_1 c x12 x13 z_.1)
  Qz
  (fun ⟨x50, _⟩ => Qc (x50) (Zdh2 x0 x10 x35_1 c x12 x13) (c ((IntKind.wrap .i64 (x35_1 + 1)), ())) (RefK.draw [] [0, 1, 3, 7, 0, 0, 0, 96, 255] [0, 1, 2, 3, 4, 5, 6, 7, 8] [0, 1, 2, 3, 4, 5, 6, 7, 8] (by kernel_rfl) (by kernel_rfl)) Qk))))))
  (fun _ => Qz)))))))
  (fun _ => Qs [(8, .int .i64)] [] (fun z_ => Zdh0 k z_.1)
  Qz
  (fun ⟨x8, _⟩ => Qr)))))))) hyp_
abbrev Zdi0 (k : ((Int × Bool) → K)) (x2 : Int) (x3 : Bool) : K :=
  k (x2, x3)
abbrev Zdi1 (c : ((Int × Unit) → K)) (b_2 : Int) : K :=
  c ((IntKind.wrap .i64 (b_2 + 1)), ())
abbrev Zdi2 (k : ((Int × Bool) → K)) (x2_1 : Int) (x3_1 : Bool) : K :=
  k (x2_1, x3_1)
abbrev Zdi3 (k : ((Int × Bool) → K)) (b_1 : Int) (c : ((Int × Unit) → K)) (n : Int) (x27 : Bool) : K :=
  brK x27
  (Zdi2 k b_1 false)
  (Zdi1 c (IntKind.wrap .i64 (b_1 + (IntKind.wrap .i64 (n - 1)))))
abbrev Zdi4 (k : ((Int × Bool) → K)) (b_1 : Int) (c : ((Int × Unit) → K)) (n : Int) (ok : Bool) : K :=
  Zdi3 k b_1 c n (!ok)
abbrev Zdi5 (k : ((Int × Bool) → K)) (x2_2 : Int) (x3_2 : Bool) : K :=
  k (x2_2, x3_2)
abbrev Zdi6 (k : ((Int × Bool) → K)) (b_1 : Int) (c : ((Int × Unit) → K)) (x33 : Bool) : K :=
  brK x33
  (Zdi5 k b_1 false)
  (Zdi1 c b_1)
abbrev Zdi7 (list : Sl) (k : ((Int × Bool) → K)) (b_1 : Int) (c : ((Int × Unit) → K)) : K :=
  c_bhead_Whole list b_1 fun x23 =>
  Zdi4 k b_1 c x23.1 x23.2
abbrev Zdi8 (list : Sl) (k : ((Int × Bool) → K)) (b_1 : Int) (c : ((Int × Unit) → K)) (x17 : Int) (x18 : Bool) : K :=
  brK x18
  (Zdi7 list k b_1 c)
  (Zdi6 k b_1 c (x17 == 3))
abbrev Zdi9 (list : Sl) (k : ((Int × Bool) → K)) (b_1 : Int) (c : ((Int × Unit) → K)) (x17 : Int) : K :=
  Zdi8 list k b_1 c x17 (x17 == 2)
abbrev Zdi10 (list : Sl) (k : ((Int × Bool) → K)) (b_1 : Int) (c : ((Int × Unit) → K)) : K :=
  ixS list.p list.n b_1 3 fun x15 =>
  ldI .i64 (x15.add 0) fun x17_1 =>
  Zdi9 list k b_1 c x17_1
abbrev Zdi11 (list : Sl) (k : ((Int × Bool) → K)) (b_1 : Int) (c : ((Int × Unit) → K)) (x10 : Bool) : K :=
  brK x10
  (Zdi10 list k b_1 c)
  (Zdi0 k 0 true)
abbrev Zdi12 (list : Sl) (k : ((Int × Bool) → K)) (b_1 : Int) (c : ((Int × Unit) → K)) : K :=
  Zdi11 list k b_1 c (decide (b_1 < ((list.n : Nat) : Int)))
abbrev Zdi13 (list : Sl) (k : ((Int × Bool) → K)) (b : Int) : K :=
  lp (fun (z_ : (Int × Unit)) c_ => Zdi12 list k z_.1 c_) (b, ())
abbrev bman_Sound (list : Sl) : M (Int × Bool) := fun k =>
  Zdi13 list k 1
theorem bman_Sound_ok (list : Sl) (k : (Int × Bool) → K) (w : World) (hyp_ : bman_Sound list k w) : c_bman_Sound list k w :=
  cl_of (P := Tryz.prog) Tryz.func167 rfl (by kernel_rfl)
  (Qs [] [0] (fun z_ => Zdi13 list k 1)
  Qz
  (fun _ => Qs [] [] (fun z_ => Zdi0 k 0 true)
  (Qs [(4, .int .i64)] [0] (fun z_ => Zdi13 list k z_.1)
  Qz
  (fun ⟨b, _⟩ => Qb (Ql [(4, .int .i64)] [0] (fun (z_ : (Int × Unit)) c_ => Zdi12 list k z_.1 c_) (b, ())
  (fun ⟨b_1, _⟩ c => Qs [] [0, 4] (fun z_ => Zdi10 list k b_1 c)
  (Qs [(10, .bool)] [0, 4] (fun z_ => Zdi11 list k b_1 c z_.1)
  Qz
  (fun ⟨x10, _⟩ => Qc (x10) (Zdi10 list k b_1 c) (Zdi0 k 0 true) Qk Qx))
  (fun _ => Qs [(4, .int .i64)] [0] (fun z_ => Zdi1 c z_.1)
  (Qb (Qs [(17, .int .i64)] [0, 4] (fun z_ => Zdi9 list k b_1 c z_.1)
  Qz
  (fun ⟨x17, _⟩ => Qb (Qs [(18, .bool)] [0, 4, 17] (fun z_ => Zdi8 list k b_1 c x17 z_.1)
  Qz
  (fun ⟨x18, _⟩ => Qc (x18) (Zdi7 list k b_1 c) (Zdi6 k b_1 c (x17 == 3)) (Qs [(5, .int .i64), (6, .bool)] [0, 4] (fun z_ => Zdi4 k b_1 c z_.1 z_.2.1)
  Qz
  (fun ⟨n, ok, _⟩ => Qs [] [0, 4, 5] (fun z_ => Zdi1 c (IntKind.wrap .i64 (b_1 + (IntKind.wrap .i64 (n - 1)))))
  (Qs [(27, .bool)] [0, 4, 5] (fun z_ => Zdi3 k b_1 c n z_.1)
  Qz
  (fun ⟨x27, _⟩ => Qc (x27) (Zdi2 k b_1 false) (Zdi1 c (IntKind.wrap .i64 (b_1 + (IntKind.wrap .i64 (n - 1))))) (Qs [(2, .int .i64), (3, .bool)] [] (fun z_ => Zdi2 k z_.1 z_.2.1)
  Qz
  (fun ⟨x2_1, x3_1, _⟩ => Qr)) Qk))
  (fun _ => Qz))) (Qs [(33, .bool)] [0, 4] (fun z_ => Zdi6 k b_1 c z_.1)
  Qz
  (fun ⟨x33, _⟩ => Qc (x33) (Zdi5 k b_1 false) (Zdi1 c b_1) (Qs [(2, .int .i64), (3, .bool)] [] (fun z_ => Zdi5 k z_.1 z_.2.1)
  Qz
  (fun ⟨x2_2, x3_2, _⟩ => Qr)) Qk)))))))
  (fun ⟨b_2, _⟩ => Qz))))))
  (fun _ => Qs [(2, .int .i64), (3, .bool)] [] (fun z_ => Zdi0 k z_.1 z_.2.1)
  Qz
  (fun ⟨x2, x3, _⟩ => Qr)))) hyp_
abbrev Zdj0 (k : ((OA × Int) → K)) (x4 : Addr) (x5 : Int) : K :=
  k ((some x4), x5)
abbrev Zdj1 (d : OA) (k : ((OA × Int) → K)) (g_1 : Addr) (list : Sl) : K :=
  ldI .i64 (g_1.add 0) fun x20_0 =>
  alK (.cells #[.pointer d, .int .i64 x20_0, list.v] 125) fun b =>
  Zdj0 k ⟨b, 0, none⟩ 0
abbrev Zdj2 (k : ((OA × Int) → K)) (x4_1 : OA) (x5_1 : Int) : K :=
  k (x4_1, x5_1)
abbrev Zdj3 (d : OA) (k : ((OA × Int) → K)) (g_1 : Addr) (list : Sl) (e : Int) (x17 : Bool) : K :=
  brK x17
  (Zdj2 k none e)
  (Zdj1 d k g_1 list)
abbrev Zdj4 (d : OA) (k : ((OA × Int) → K)) (g_1 : Addr) (list : Sl) (e : Int) : K :=
  Zdj3 d k g_1 list e (e != 0)
abbrev Zdj5 (d : OA) (k : ((OA × Int) → K)) (g_1 : Addr) : K :=
  ldI .i64 (g_1.add 0) fun x11_0 =>
  c_blocks_Read d x11_0 fun x12 =>
  Zdj4 d k g_1 x12.1 x12.2.2
abbrev blocks_Open (d : OA) (g : Int) : M (OA × Int) := fun k =>
  alK (.cells #[.int .i64 g] 43) fun b_1 =>
  Zdj5 d k ⟨b_1, 0, none⟩
theorem blocks_Open_ok (d : OA) (g : Int) (k : (OA × Int) → K) (w : World) (hyp_ : blocks_Open d g k w) : c_blocks_Open d g k w :=
  cl_of (P := Tryz.prog) Tryz.func179 rfl (by kernel_rfl)
  (Qs [(3, .addr)] [0] (fun z_ => Zdj5 d k z_.1)
  Qz
  (fun ⟨g_1, _⟩ => Qs [(6, .slice), (8, .int .i64)] [0, 3] (fun z_ => Zdj4 d k g_1 z_.1 z_.2.1)
  Qz
  (fun ⟨list, e, _⟩ => Qs [] [0, 3, 6] (fun z_ => Zdj1 d k g_1 list)
  (Qs [(17, .bool)] [0, 3, 6, 8] (fun z_ => Zdj3 d k g_1 list e z_.1)
  Qz
  (fun ⟨x17, _⟩ => Qc (x17) (Zdj2 k none e) (Zdj1 d k g_1 list) (Qs [(4, .ptr), (5, .int .i64)] [] (fun z_ => Zdj2 k z_.1 z_.2.1)
  Qz
  (fun ⟨x4_1, x5_1, _⟩ => Qr)) Qk))
  (fun _ => Qs [(4, .addr), (5, .int .i64)] [] (fun z_ => Zdj0 k z_.1 z_.2.1)
  Qz
  (fun ⟨x4, x5, _⟩ => Qr))))) hyp_
abbrev Zdk0 (k : ((OA × Int) → K)) (x4 : OA) (x5 : Int) : K :=
  k (x4, x5)
abbrev Zdk1 (k : ((OA × Int) → K)) (x4_1 : OA) (x5_1 : Int) : K :=
  k (x4_1, x5_1)
abbrev Zdk2 (k : ((OA × Int) → K)) (x14_1 : Int) (c : ((Int × Unit) → K)) (e : Int) (x25 : Bool) : K :=
  brK x25
  (Zdk1 k none e)
  (c ((IntKind.wrap .i64 (x14_1 + 1)), ()))
abbrev Zdk3 (k : ((OA × Int) → K)) (x14_1 : Int) (c : ((Int × Unit) → K)) (e : Int) : K :=
  Zdk2 k x14_1 c e (e != 0)
abbrev Zdk4 (k : ((OA × Int) → K)) (x : OA) (x14_1 : Int) (c : ((Int × Unit) → K)) (s : Addr) : K :=
  ldI .i64 (s.add 0) fun x20 =>
  ldI .i64 (s.add 1) fun x22 =>
  c_runs_Index_Give x x20 x22 fun x23 =>
  Zdk3 k x14_1 c x23
abbrev Zdk5 (k : ((OA × Int) → K)) (x : OA) (x12 : Sl) (x14_1 : Int) (c : ((Int × Unit) → K)) : K :=
  ixS x12.p x12.n x14_1 2 fun x16 =>
  ldI .i64 (x16.add 0) fun x17_0 =>
  ldI .i64 (x16.add 1) fun x17_1 =>
  alK (.cells #[.int .i64 0, .int .i64 0] 152) fun b =>
  stK (Addr.add ⟨b, 0, none⟩ 0) (.int .i64 x17_0) <|
  stK (Addr.add ⟨b, 0, none⟩ 1) (.int .i64 x17_1) <|
  Zdk4 k x x14_1 c ⟨b, 0, none⟩
abbrev Zdk6 (k : ((OA × Int) → K)) (x : OA) (x12 : Sl) (x14_1 : Int) (c : ((Int × Unit) → K)) (x15 : Bool) : K :=
  brK x15
  (Zdk5 k x x12 x14_1 c)
  (Zdk0 k x 0)
abbrev Zdk7 (k : ((OA × Int) → K)) (x : OA) (x12 : Sl) (x13 : Int) (x14_1 : Int) (c : ((Int × Unit) → K)) : K :=
  Zdk6 k x x12 x14_1 c (decide (x14_1 < x13))
abbrev Zdk8 (k : ((OA × Int) → K)) (x : OA) (x12 : Sl) (x13 : Int) (x14 : Int) : K :=
  lp (fun (z_ : (Int × Unit)) c_ => Zdk7 k x x12 x13 z_.1 c_) (x14, ())
abbrev Zdk9 (list : Sl) (k : ((OA × Int) → K)) (x : OA) : K :=
  Zdk8 k x list ((list.n : Nat) : Int) 0
abbrev Zdk10 (limit : Int) (list : Sl) (k : ((OA × Int) → K)) : K :=
  c_runs_New limit fun x11 =>
  Zdk9 list k x11
abbrev runs_Fill (limit : Int) (list : Sl) : M (OA × Int) := fun k =>
  Zdk10 limit list k
theorem runs_Fill_ok (limit : Int) (list : Sl) (k : (OA × Int) → K) (w : World) (hyp_ : runs_Fill limit list k w) : c_runs_Fill limit list k w :=
  cl_of (P := Tryz.prog) Tryz.func180 rfl (by kernel_rfl)
  (Qs [] [0, 1] (fun z_ => Zdk10 limit list k)
  Qz
  (fun _ => Qs [(6, .ptr)] [1] (fun z_ => Zdk9 list k z_.1)
  Qz
  (fun ⟨x, _⟩ => Qs [] [6] (fun z_ => Zdk0 k x 0)
  (Qs [(12, .slice), (13, .int .i64), (14, .int .i64)] [6] (fun z_ => Zdk8 k x z_.1 z_.2.1 z_.2.2.1)
  Qz
  (fun ⟨x12, x13, x14, _⟩ => Qb (Ql [(14, .int .i64)] [6, 12, 13] (fun (z_ : (Int × Unit)) c_ => Zdk7 k x x12 x13 z_.1 c_) (x14, ())
  (fun ⟨x14_1, _⟩ c => Qs [(15, .bool)] [6, 12, 13, 14] (fun z_ => Zdk6 k x x12 x14_1 c z_.1)
  Qz
  (fun ⟨x15, _⟩ => Qs [] [6, 12, 13, 14] (fun z_ => Zdk5 k x x12 x14_1 c)
  (Qc (x15) (Zdk5 k x x12 x14_1 c) (Zdk0 k x 0) Qk Qx)
  (fun _ => Qs [] [6, 12, 13, 14] (fun z_ => c ((IntKind.wrap .i64 (x14_1 + 1)), ()))
  (Qb (Qs [(8, .addr)] [6, 12, 13, 14] (fun z_ => Zdk4 k x x14_1 c z_.1)
  Qz
  (fun ⟨s, _⟩ => Qs [(9, .int .i64)] [6, 12, 13, 14] (fun z_ => Zdk3 k x14_1 c z_.1)
  Qz
  (fun ⟨e, _⟩ => Qs [(25, .bool)] [6, 9, 12, 13, 14] (fun z_ => Zdk2 k x14_1 c e z_.1)
  Qz
  (fun ⟨x25, _⟩ => Qc (x25) (Zdk1 k none e) (c ((IntKind.wrap .i64 (x14_1 + 1)), ())) (Qs [(4, .ptr), (5, .int .i64)] [] (fun z_ => Zdk1 k z_.1 z_.2.1)
  Qz
  (fun ⟨x4_1, x5_1, _⟩ => Qr)) Qk)))))
  (fun _ => Qz)))))))
  (fun _ => Qs [(4, .ptr), (5, .int .i64)] [] (fun z_ => Zdk0 k z_.1 z_.2.1)
  Qz
  (fun ⟨x4, x5, _⟩ => Qr))))) hyp_
abbrev Zdl0 (k : (Sl → K)) (x2 : Sl) : K :=
  k x2
abbrev Zdl1 (t : OA) (k : (Sl → K)) : K :=
  nn t fun x4 =>
  ldS (x4.add 2) fun x6 =>
  c_blocks_Spans x6 fun x7 =>
  Zdl0 k x7
abbrev blocks_Table_Spans (t : OA) : M Sl := fun k =>
  Zdl1 t k
theorem blocks_Table_Spans_ok (t : OA) (k : Sl → K) (w : World) (hyp_ : blocks_Table_Spans t k w) : c_blocks_Table_Spans t k w :=
  cl_of (P := Tryz.prog) Tryz.func181 rfl (by kernel_rfl)
  (Qs [] [0] (fun z_ => Zdl1 t k)
  Qz
  (fun _ => Qs [(2, .slice)] [] (fun z_ => Zdl0 k z_.1)
  Qz
  (fun ⟨x2, _⟩ => Qr))) hyp_
abbrev Zdm0 (k : (OA → K)) (x2 : Addr) : K :=
  k (some x2)
abbrev Zdm1 (k : (OA → K)) (limit_1 : Int) : K :=
  c_bits_Up limit_1 64 fun x6 =>
  mkS Tryz.prog 109 x6 x6 fun b =>
  alK (.cells #[.slice (some ⟨b, 0, none⟩) (Int.toNat x6) (Int.toNat x6), .int .i64 limit_1, .int .i64 0] 191) fun b_1 =>
  Zdm0 k ⟨b_1, 0, none⟩
abbrev bitmap_New (limit : Int) : M OA := fun k =>
  Zdm1 k (max2I limit 0)
theorem bitmap_New_ok (limit : Int) (k : OA → K) (w : World) (hyp_ : bitmap_New limit k w) : c_bitmap_New limit k w :=
  cl_of (P := Tryz.prog) Tryz.func182 rfl (by kernel_rfl)
  (Qs [] [0] (fun z_ => Zdm1 k (max2I limit 0))
  Qz
  (fun _ => Qs [(0, .int .i64)] [] (fun z_ => Zdm1 k z_.1)
  Qz
  (fun ⟨limit_1, _⟩ => Qs [(2, .addr)] [] (fun z_ => Zdm0 k z_.1)
  Qz
  (fun ⟨x2, _⟩ => Qr)))) hyp_
abbrev Zdn0 (k : (OA → K)) (x0 : Addr) : K :=
  k (some x0)
abbrev Zdn1 (k : (OA → K)) : K :=
  alK (.map #[] 0) fun b =>
  alK (.cells #[.slice none 0 0, .slice none 0 0, .slice none 0 0, .slice none 0 0, .slice none 0 0, .slice none 0 0, .slice none 0 0, .slice none 0 0, .slice none 0 0, .slice none 0 0, .slice none 0 0, .slice none 0 0, .slice none 0 0, .slice none 0 0, .slice none 0 0, .slice none 0 0, .slice none 0 0, .slice none 0 0, .slice none 0 0, .slice none 0 0, .slice none 0 0, .slice none 0 0, .slice none 0 0, .slice none 0 0, .slice none 0 0, .slice none 0 0, .slice none 0 0, .slice none 0 0, .slice none 0 0, .slice none 0 0, .slice none 0 0, .slice none 0 0, .map (some b)] 199) fun b_1 =>
  Zdn0 k ⟨b_1, 0, none⟩
abbrev free_New : M OA := fun k =>
  Zdn1 k
theorem free_New_ok (k : OA → K) (w : World) (hyp_ : free_New k w) : c_free_New k w :=
  cl_of (P := Tryz.prog) Tryz.func183 rfl (by kernel_rfl)
  (Qs [] [] (fun z_ => Zdn1 k)
  Qz
  (fun _ => Qs [(0, .addr)] [] (fun z_ => Zdn0 k z_.1)
  Qz
  (fun ⟨x0, _⟩ => Qr))) hyp_
abbrev Zdo0 (cap0 : Addr) (at_2 : Int) (c : ((Int × Bool × Unit) → K)) : K :=
  ldP cap0 fun x12 =>
  c_bitmap_Set_Next x12 (IntKind.wrap .i64 (at_2 + 1)) fun x15 =>
  c (x15.1, x15.2, ())
abbrev Zdo1 (cap0 : Addr) (k : (Unit → K)) (at_2 : Int) (c : ((Int × Bool × Unit) → K)) (x21 : Bool) : K :=
  brK x21
  (k ())
  (Zdo0 cap0 at_2 c)
abbrev Zdo2 (yield : Fv) (cap0 : Addr) (k : (Unit → K)) (at_2 : Int) (c : ((Int × Bool × Unit) → K)) : K :=
  dyn Tryz.prog (yield.v) #[.int .i64 at_2] (.one (.sc (.bool))) fun x20 =>
  Zdo1 cap0 k at_2 c (!x20)
abbrev Zdo3 (yield : Fv) (cap0 : Addr) (k : (Unit → K)) (at_2 : Int) (c : ((Int × Bool × Unit) → K)) (x10 : Bool) : K :=
  brK x10
  (Zdo2 yield cap0 k at_2 c)
  (k ())
abbrev Zdo4 (yield : Fv) (cap0 : Addr) (k : (Unit → K)) (at_2 : Int) (ok_1 : Bool) (c : ((Int × Bool × Unit) → K)) : K :=
  Zdo3 yield cap0 k at_2 c ok_1
abbrev Zdo5 (yield : Fv) (cap0 : Addr) (k : (Unit → K)) (at_1 : Int) (ok : Bool) : K :=
  lp (fun (z_ : (Int × Bool × Unit)) c_ => Zdo4 yield cap0 k z_.1 z_.2.1 c_) (at_1, ok, ())
abbrev bitmap_Set_All_1 (yield : Fv) (cap0 : Addr) : M Unit := fun k =>
  ldP cap0 fun x6 =>
  c_bitmap_Set_Next x6 0 fun x7 =>
  Zdo5 yield cap0 k x7.1 x7.2
theorem bitmap_Set_All_1_ok (yield : Fv) (cap0 : Addr) (k : Unit → K) (w : World) (hyp_ : bitmap_Set_All_1 yield cap0 k w) : c_bitmap_Set_All_1 yield cap0 k w :=
  cl_of (P := Tryz.prog) Tryz.func188 rfl (by kernel_rfl)
  (Qs [(3, .int .i64), (4, .bool)] [0, 1] (fun z_ => Zdo5 yield cap0 k z_.1 z_.2.1)
  Qz
  (fun ⟨at_1, ok, _⟩ => Qb (Ql [(3, .int .i64), (4, .bool)] [0, 1] (fun (z_ : (Int × Bool × Unit)) c_ => Zdo4 yield cap0 k z_.1 z_.2.1 c_) (at_1, ok, ())
  (fun ⟨at_2, ok_1, _⟩ c => Qs [] [0, 1, 3] (fun z_ => Zdo2 yield cap0 k at_2 c)
  (Qs [(10, .bool)] [0, 1, 3] (fun z_ => Zdo3 yield cap0 k at_2 c z_.1)
  Qz
  (fun ⟨x10, _⟩ => Qc (x10) (Zdo2 yield cap0 k at_2 c) (k ()) Qk Qx))
  (fun _ => Qs [] [0, 1, 3] (fun z_ => Zdo0 cap0 at_2 c)
  (Qb (Qs [(21, .bool)] [0, 1, 3] (fun z_ => Zdo1 cap0 k at_2 c z_.1)
  Qz
  (fun ⟨x21, _⟩ => Qc (x21) (k ()) (Zdo0 cap0 at_2 c) Qr Qk)))
  (fun _ => Qz)))))) hyp_
abbrev Zdp0 (k : ((Int × Bool) → K)) (x4 : Int) (x5 : Bool) : K :=
  k (x4, x5)
abbrev Zdp1 (k : ((Int × Bool) → K)) (i_1 : Int) (w_2 : Int) : K :=
  c_bits_Lowest w_2 fun x54 =>
  Zdp0 k (IntKind.wrap .i64 ((IntKind.wrap .i64 (i_1 * 64)) + x54)) true
abbrev Zdp2 (s : OA) (c : ((Int × Int × Unit) → K)) (i_3 : Int) : K :=
  nn s fun x45 =>
  ldS (x45.add 0) fun x47 =>
  ixS x47.p x47.n i_3 1 fun x49 =>
  ldI .u64 x49 fun x50 =>
  c (i_3, x50, ())
abbrev Zdp3 (k : ((Int × Bool) → K)) (x4_1 : Int) (x5_1 : Bool) : K :=
  k (x4_1, x5_1)
abbrev Zdp4 (s : OA) (k : ((Int × Bool) → K)) (c : ((Int × Int × Unit) → K)) (i_3 : Int) (x43 : Bool) : K :=
  brK x43
  (Zdp3 k 0 false)
  (Zdp2 s c i_3)
abbrev Zdp5 (s : OA) (k : ((Int × Bool) → K)) (c : ((Int × Int × Unit) → K)) (i_3 : Int) : K :=
  nn s fun x39 =>
  ldS (x39.add 0) fun x41 =>
  Zdp4 s k c i_3 (decide (i_3 ≥ ((x41.n : Nat) : Int)))
abbrev Zdp6 (s : OA) (k : ((Int × Bool) → K)) (i_2 : Int) (w_3 : Int) (c : ((Int × Int × Unit) → K)) (x34 : Bool) : K :=
  brK x34
  (Zdp5 s k c (IntKind.wrap .i64 (i_2 + 1)))
  (Zdp1 k i_2 w_3)
abbrev Zdp7 (s : OA) (k : ((Int × Bool) → K)) (i_2 : Int) (w_3 : Int) (c : ((Int × Int × Unit) → K)) : K :=
  Zdp6 s k i_2 w_3 c (w_3 == 0)
abbrev Zdp8 (s : OA) (k : ((Int × Bool) → K)) (i : Int) (w_1 : Int) : K :=
  lp (fun (z_ : (Int × Int × Unit)) c_ => Zdp7 s k z_.1 z_.2.1 c_) (i, w_1, ())
abbrev Zdp9 (s : OA) (k : ((Int × Bool) → K)) (at_2 : Int) (i : Int) : K :=
  nn s fun x19 =>
  ldS (x19.add 0) fun x21 =>
  ixS x21.p x21.n i 1 fun x23 =>
  ldI .u64 x23 fun x24 =>
  nneg (IntKind.wrap .u64 (Int.tmod at_2 64)) <|
  nneg (IntKind.wrap .u64 (Int.tmod at_2 64)) <|
  Zdp8 s k i (shlI .u64 (shrI .u64 x24 (IntKind.wrap .u64 (Int.tmod at_2 64))) (IntKind.wrap .u64 (Int.tmod at_2 64)))
abbrev Zdp10 (k : ((Int × Bool) → K)) (x4_2 : Int) (x5_2 : Bool) : K :=
  k (x4_2, x5_2)
abbrev Zdp11 (s : OA) (k : ((Int × Bool) → K)) (at_2 : Int) (x15 : Bool) : K :=
  brK x15
  (Zdp10 k 0 false)
  (Zdp9 s k at_2 (IntKind.wrap .i64 (Int.tdiv at_2 64)))
abbrev Zdp12 (s : OA) (k : ((Int × Bool) → K)) (at_2 : Int) : K :=
  nn s fun x12 =>
  ldI .i64 (x12.add 1) fun x14 =>
  Zdp11 s k at_2 (decide (at_2 ≥ x14))
abbrev bitmap_Set_Next (s : OA) (at_1 : Int) : M (Int × Bool) := fun k =>
  Zdp12 s k (max2I at_1 0)
theorem bitmap_Set_Next_ok (s : OA) (at_1 : Int) (k : (Int × Bool) → K) (w : World) (hyp_ : bitmap_Set_Next s at_1 k w) : c_bitmap_Set_Next s at_1 k w :=
  cl_of (P := Tryz.prog) Tryz.func189 rfl (by kernel_rfl)
  (Qs [] [0, 1] (fun z_ => Zdp12 s k (max2I at_1 0))
  Qz
  (fun _ => Qs [(1, .int .i64)] [0] (fun z_ => Zdp12 s k z_.1)
  Qz
  (fun ⟨at_2, _⟩ => Qs [] [0, 1] (fun z_ => Zdp9 s k at_2 (IntKind.wrap .i64 (Int.tdiv at_2 64)))
  (Qs [(15, .bool)] [0, 1] (fun z_ => Zdp11 s k at_2 z_.1)
  Qz
  (fun ⟨x15, _⟩ => Qc (x15) (Zdp10 k 0 false) (Zdp9 s k at_2 (IntKind.wrap .i64 (Int.tdiv at_2 64))) (Qs [(4, .int .i64), (5, .bool)] [] (fun z_ => Zdp10 k z_.1 z_.2.1)
  Qz
  (fun ⟨x4_2, x5_2, _⟩ => Qr)) Qk))
  (fun _ => Qs [(6, .int .i64)] [0, 1] (fun z_ => Zdp9 s k at_2 z_.1)
  Qz
  (fun ⟨i, _⟩ => Qs [(7, .int .u64)] [0, 6] (fun z_ => Zdp8 s k i z_.1)
  Qz
  (fun ⟨w_1, _⟩ => Qs [(6, .int .i64), (7, .int .u64)] [] (fun z_ => Zdp1 k z_.1 z_.2.1)
  (Qb (Ql [(6, .int .i64), (7, .int .u64)] [0] (fun (z_ : (Int × Int × Unit)) c_ => Zdp7 s k z_.1 z_.2.1 c_) (i, w_1, ())
  (fun ⟨i_2, w_3, _⟩ c => Qs [] [0, 6] (fun z_ => Zdp5 s k c (IntKind.wrap .i64 (i_2 + 1)))
  (Qs [(34, .bool)] [0, 6, 7] (fun z_ => Zdp6 s k i_2 w_3 c z_.1)
  Qz
  (fun ⟨x34, _⟩ => Qc (x34) (Zdp5 s k c (IntKind.wrap .i64 (i_2 + 1))) (Zdp1 k i_2 w_3) Qk Qx))
  (fun _ => Qb (Qs [(6, .int .i64)] [0] (fun z_ => Zdp5 s k c z_.1)
  Qz
  (fun ⟨i_3, _⟩ => Qs [] [0, 6] (fun z_ => Zdp2 s c i_3)
  (Qs [(43, .bool)] [0, 6] (fun z_ => Zdp4 s k c i_3 z_.1)
  Qz
  (fun ⟨x43, _⟩ => Qc (x43) (Zdp3 k 0 false) (Zdp2 s c i_3) (Qs [(4, .int .i64), (5, .bool)] [] (fun z_ => Zdp3 k z_.1 z_.2.1)
  Qz
  (fun ⟨x4_1, x5_1, _⟩ => Qr)) Qk))
  (fun _ => Qz)))))))
  (fun ⟨i_1, w_2, _⟩ => Qs [(4, .int .i64), (5, .bool)] [] (fun z_ => Zdp0 k z_.1 z_.2.1)
  Qz
  (fun ⟨x4, x5, _⟩ => Qr)))))))) hyp_
abbrev Zdq0 (k : (Bool → K)) (x4 : Bool) : K :=
  k x4
abbrev Zdq1 (k : (Bool → K)) (x4_1 : Bool) : K :=
  k x4_1
abbrev Zdq2 (k : (Bool → K)) (c : (Unit → K)) (x26 : Bool) : K :=
  brK x26
  (Zdq1 k true)
  (c ())
abbrev Zdq3 (block : Int) (k : (Bool → K)) (c : (Unit → K)) (start : Int) (n : Int) : K :=
  brK (decide (block ≥ start))
  (Zdq2 k c (decide (block < (IntKind.wrap .i64 (start + n)))))
  (Zdq2 k c false)
abbrev Zdq4 (block : Int) (k : (Bool → K)) (x11 : OA) (c : (Unit → K)) : K :=
  semT Tryz.prog (Instr.entry (.pointer x11)) (.tup [.sc (.any), .sc (.any)]) fun e =>
  decSh (.int .i64) e.1 fun x15 =>
  decSh (.int .i64) e.2 fun x16 =>
  Zdq3 block k c x15 x16
abbrev Zdq5 (block : Int) (k : (Bool → K)) (x11 : OA) (c : (Unit → K)) (x13 : Bool) : K :=
  brK x13
  (Zdq4 block k x11 c)
  (Zdq0 k false)
abbrev Zdq6 (block : Int) (k : (Bool → K)) (x11 : OA) (c : (Unit → K)) : K :=
  nextM Tryz.prog (Instr.next (.pointer x11) false 0) fun go rest =>
  Zdq5 block k x11 c go
abbrev Zdq7 (block : Int) (k : (Bool → K)) (x11 : OA) : K :=
  lp (fun (z_ : Unit) c_ => Zdq6 block k x11 c_) ()
abbrev Zdq8 (x : OA) (block : Int) (k : (Bool → K)) : K :=
  nn x fun x8 =>
  ldM (x8.add 0) fun x10 =>
  semT Tryz.prog (Instr.range 240 (.map x10)) (.one (.sc (.ptr))) fun it =>
  Zdq7 block k it
abbrev runs_Index_Has (x : OA) (block : Int) : M Bool := fun k =>
  Zdq8 x block k
theorem runs_Index_Has_ok (x : OA) (block : Int) (k : Bool → K) (w : World) (hyp_ : runs_Index_Has x block k w) : c_runs_Index_Has x block k w :=
  cl_of (P := Tryz.prog) Tryz.func196 rfl (by kernel_rfl)
  (Qs [] [0, 1] (fun z_ => Zdq8 x block k)
  Qz
  (fun _ => Qs [] [] (fun z_ => Zdq0 k false)
  (Qs [(11, .ptr)] [1] (fun z_ => Zdq7 block k z_.1)
  Qz
  (fun ⟨x11, _⟩ => Qb (Ql [] [1, 11] (fun (z_ : Unit) c_ => Zdq6 block k x11 c_) ()
  (fun _ c => Qs [(13, .bool)] [1, 11] (fun z_ => Zdq5 block k x11 c z_.1)
  Qz
  (fun ⟨x13, _⟩ => Qs [] [1, 11] (fun z_ => Zdq4 block k x11 c)
  (Qc (x13) (Zdq4 block k x11 c) (Zdq0 k false) Qk Qx)
  (fun _ => Qb (Qs [(5, .int .i64), (6, .int .i64)] [1, 11] (fun z_ => Zdq3 block k c z_.1 z_.2.1)
  Qz
  (fun ⟨start, n, _⟩ => Qs [(26, .bool)] [1, 11] (fun z_ => Zdq2 k c z_.1)
  (Qp [3])
  (fun ⟨x26, _⟩ => Qc (x26) (Zdq1 k true) (c ()) (Qs [(4, .bool)] [] (fun z_ => Zdq1 k z_.1)
  Qz
  (fun ⟨x4_1, _⟩ => Qr)) Qk)))))))))
  (fun _ => Qs [(4, .bool)] [] (fun z_ => Zdq0 k z_.1)
  Qz
  (fun ⟨x4, _⟩ => Qr)))) hyp_
abbrev Zdr0 (x : OA) (start : Int) (k : (Unit → K)) : K :=
  nn x fun x17 =>
  ldM (x17.add 0) fun x19 =>
  semT Tryz.prog (Builtin.delete_ #[240, 3] 0 #[.map x19, .int .i64 start]) (.tup []) fun r =>
  k ()
abbrev runs_Index_drop (x : OA) (start : Int) : M Unit := fun k =>
  tick fun _ =>
  nn x fun x5 =>
  ldM (x5.add 1) fun x7 =>
  nn x fun x10 =>
  ldM (x10.add 0) fun x12 =>
  lkE Tryz.prog 3 (.int .i64 0) (.sc (.int .i64)) x12 (.int .i64 start) fun r_1 ob x14 ok =>
  semT Tryz.prog (Builtin.delete_ #[240, 3] 0 #[.map x7, .int .i64 (IntKind.wrap .i64 (start + x14))]) (.tup []) fun r_2 =>
  Zdr0 x start k
theorem runs_Index_drop_ok (x : OA) (start : Int) (k : Unit → K) (w : World) (hyp_ : runs_Index_drop x start k w) : c_runs_Index_drop x start k w :=
  cl_of (P := Tryz.prog) Tryz.func197 rfl (by kernel_rfl)
  (Qs [] [0, 1] (fun z_ => Zdr0 x start k)
  (RefK.draw [] [0, 1, 3, 7, 0, 0, 32, 96, 224, 0, 992, 2032, 4095] [0, 1, 2, 3, 4, 5, 6, 7, 8, 9, 10, 11, 12] [0, 1, 2, 3, 4, 5, 6, 7, 8, 9, 10, 11, 12] (by kernel_rfl) (by kernel_rfl))
  (fun _ => Qz)) hyp_
abbrev runs_Index_add (x : OA) (start : Int) (n : Int) : M Unit := fun k =>
  tick fun _ =>
  nn x fun x7 =>
  ldM (x7.add 0) fun x9 =>
  nn x fun x12 =>
  ldM (x12.add 1) fun x14 =>
  semT Tryz.prog (Instr.mapEntry 240 (.map x9) (.int .i64 start)) (.tup [.sc (.int .i64), .sc (.int .i64)]) fun e =>
  semU Tryz.prog (Instr.entryStore 240 (.map x9) (.int .i64 e.2) (.int .i64 n)) <|
  semT Tryz.prog (Instr.mapEntry 240 (.map x14) (.int .i64 (IntKind.wrap .i64 (start + n)))) (.tup [.sc (.int .i64), .sc (.int .i64)]) fun e_1 =>
  semU Tryz.prog (Instr.entryStore 240 (.map x14) (.int .i64 e_1.2) (.int .i64 start)) <|
  k ()
theorem runs_Index_add_ok (x : OA) (start : Int) (n : Int) (k : Unit → K) (w : World) (hyp_ : runs_Index_add x start n k w) : c_runs_Index_add x start n k w :=
  cl_of (P := Tryz.prog) Tryz.func198 rfl (by kernel_rfl)
  (RefK.draw [] [0, 1, 3, 7, 0, 0, 32, 96, 224, 0, 0, 1536, 0, 0, 511, 16895, 53759, 122879, 253951, 524287] [0, 1, 2, 3, 4, 5, 6, 7, 8, 9, 10, 11, 12, 13, 14, 15, 16, 17, 18, 19] [0, 1, 2, 3, 4, 5, 6, 7, 8, 14, 12, 15, 16, 9, 10, 11, 17, 13, 18, 19] (by kernel_rfl) (by kernel_rfl)) hyp_
abbrev Zds0 (k : ((Int × Int) → K)) (x4 : Int) (x5 : Int) : K :=
  k (x4, x5)
abbrev Zds1 (x0 : OA) (x1 : Int) (k : ((Int × Int) → K)) (x6_1 : Int) (x9 : Int) : K :=
  c_runs_Index_add x0 (IntKind.wrap .i64 (x6_1 + x1)) (IntKind.wrap .i64 (x9 - x1)) fun x76 =>
  Zds0 k x6_1 0
abbrev Zds2 (x0 : OA) (x1 : Int) (k : ((Int × Int) → K)) (x6_1 : Int) (x9 : Int) (x68 : Bool) : K :=
  brK x68
  (Zds1 x0 x1 k x6_1 x9)
  (Zds0 k x6_1 0)
abbrev Zds3 (x0 : OA) (x1 : Int) (k : ((Int × Int) → K)) (x6_1 : Int) (x9 : Int) : K :=
  c_runs_Index_drop x0 x6_1 fun x65 =>
  Zds2 x0 x1 k x6_1 x9 (decide (x9 > x1))
abbrev Zds4 (x0 : OA) (x1 : Int) (k : ((Int × Int) → K)) (x6_1 : Int) : K :=
  nn x0 fun x58 =>
  ldM (x58.add 0) fun x60 =>
  lkE Tryz.prog 3 (.int .i64 0) (.sc (.int .i64)) x60 (.int .i64 x6_1) fun r ob x62 ok =>
  Zds3 x0 x1 k x6_1 x62
abbrev Zds5 (k : ((Int × Int) → K)) (x4_1 : Int) (x5_1 : Int) : K :=
  k (x4_1, x5_1)
abbrev Zds6 (x0 : OA) (x1 : Int) (k : ((Int × Int) → K)) (x6_1 : Int) (x56 : Bool) : K :=
  brK x56
  (Zds5 k 0 4)
  (Zds4 x0 x1 k x6_1)
abbrev Zds7 (x0 : OA) (x1 : Int) (k : ((Int × Int) → K)) (x6_1 : Int) : K :=
  Zds6 x0 x1 k x6_1 (decide (x6_1 < 0))
abbrev Zds8 (x6_2 : Int) (c : ((Int × Unit) → K)) (x7 : Int) (x53 : Bool) : K :=
  brK x53
  (c (x7, ()))
  (c (x6_2, ()))
abbrev Zds9 (x0 : OA) (x1 : Int) (x6_2 : Int) (c : ((Int × Unit) → K)) (x7 : Int) (x8 : Int) : K :=
  brK (decide (x8 ≥ x1))
  (brK (decide (x6_2 < 0))
  (Zds8 x6_2 c x7 true)
  (nn x0 fun x31 =>
  ldM (x31.add 0) fun x33 =>
  lkE Tryz.prog 3 (.int .i64 0) (.sc (.int .i64)) x33 (.int .i64 x6_2) fun r_1 ob_1 x35 ok_1 =>
  brK (decide (x8 < x35))
  (Zds8 x6_2 c x7 true)
  (nn x0 fun x41 =>
  ldM (x41.add 0) fun x43 =>
  lkE Tryz.prog 3 (.int .i64 0) (.sc (.int .i64)) x43 (.int .i64 x6_2) fun r_2 ob_2 x45 ok_2 =>
  brK (x8 == x45)
  (Zds8 x6_2 c x7 (decide (x7 < x6_2)))
  (Zds8 x6_2 c x7 false))))
  (Zds8 x6_2 c x7 false)
abbrev Zds10 (x0 : OA) (x1 : Int) (x16 : OA) (x6_2 : Int) (c : ((Int × Unit) → K)) : K :=
  semT Tryz.prog (Instr.entry (.pointer x16)) (.tup [.sc (.any), .sc (.any)]) fun e =>
  decSh (.int .i64) e.1 fun x20 =>
  decSh (.int .i64) e.2 fun x21 =>
  Zds9 x0 x1 x6_2 c x20 x21
abbrev Zds11 (x0 : OA) (x1 : Int) (k : ((Int × Int) → K)) (x16 : OA) (x6_2 : Int) (c : ((Int × Unit) → K)) (x18 : Bool) : K :=
  brK x18
  (Zds10 x0 x1 x16 x6_2 c)
  (Zds7 x0 x1 k x6_2)
abbrev Zds12 (x0 : OA) (x1 : Int) (k : ((Int × Int) → K)) (x16 : OA) (x6_2 : Int) (c : ((Int × Unit) → K)) : K :=
  nextM Tryz.prog (Instr.next (.pointer x16) false 0) fun go rest =>
  Zds11 x0 x1 k x16 x6_2 c go
abbrev Zds13 (x0 : OA) (x1 : Int) (k : ((Int × Int) → K)) (x6 : Int) (x16 : OA) : K :=
  lp (fun (z_ : (Int × Unit)) c_ => Zds12 x0 x1 k x16 z_.1 c_) (x6, ())
abbrev Zds14 (x0 : OA) (x1 : Int) (k : ((Int × Int) → K)) (x6 : Int) : K :=
  nn x0 fun x13 =>
  ldM (x13.add 0) fun x15 =>
  semT Tryz.prog (Instr.range 240 (.map x15)) (.one (.sc (.ptr))) fun it =>
  Zds13 x0 x1 k x6 it
abbrev Zds15 (k : ((Int × Int) → K)) (x4_2 : Int) (x5_2 : Int) : K :=
  k (x4_2, x5_2)
abbrev Zds16 (x0 : OA) (x1 : Int) (k : ((Int × Int) → K)) (x11 : Bool) : K :=
  brK x11
  (Zds15 k 0 1)
  (Zds14 x0 x1 k (-1))
abbrev runs_Index_Take (x0 : OA) (x1 : Int) : M (Int × Int) := fun k =>
  Zds16 x0 x1 k (decide (x1 < 1))
theorem runs_Index_Take_ok (x0 : OA) (x1 : Int) (k : (Int × Int) → K) (w : World) (hyp_ : runs_Index_Take x0 x1 k w) : c_runs_Index_Take x0 x1 k w :=
  cl_of (P := Tryz.prog) Tryz.func200 rfl (by kernel_rfl)
  (Qs [] [0, 1] (fun z_ => Zds16 x0 x1 k (decide (x1 < 1)))
  Qz
  (fun _ => Qs [] [0, 1] (fun z_ => Zds14 x0 x1 k (-1))
  (Qs [(11, .bool)] [0, 1] (fun z_ => Zds16 x0 x1 k z_.1)
  Qz
  (fun ⟨x11, _⟩ => Qc (x11) (Zds15 k 0 1) (Zds14 x0 x1 k (-1)) (Qs [(4, .int .i64), (5, .int .i64)] [] (fun z_ => Zds15 k z_.1 z_.2.1)
  Qz
  (fun ⟨x4_2, x5_2, _⟩ => Qr)) Qk))
  (fun _ => Qs [(6, .int .i64)] [0, 1] (fun z_ => Zds14 x0 x1 k z_.1)
  Qz
  (fun ⟨x6, _⟩ => Qs [(6, .int .i64)] [0, 1] (fun z_ => Zds7 x0 x1 k z_.1)
  (Qs [(16, .ptr)] [0, 1, 6] (fun z_ => Zds13 x0 x1 k x6 z_.1)
  Qz
  (fun ⟨x16, _⟩ => Qb (Ql [(6, .int .i64)] [0, 1, 16] (fun (z_ : (Int × Unit)) c_ => Zds12 x0 x1 k x16 z_.1 c_) (x6, ())
  (fun ⟨x6_2, _⟩ c => Qs [(18, .bool)] [0, 1, 6, 16] (fun z_ => Zds11 x0 x1 k x16 x6_2 c z_.1)
  Qz
  (fun ⟨x18, _⟩ => Qs [] [0, 1, 6, 16] (fun z_ => Zds10 x0 x1 x16 x6_2 c)
  (Qc (x18) (Zds10 x0 x1 x16 x6_2 c) (Zds7 x0 x1 k x6_2) Qk Qx)
  (fun _ => Qb (Qs [(7, .int .i64), (8, .int .i64)] [0, 1, 6, 16] (fun z_ => Zds9 x0 x1 x6_2 c z_.1 z_.2.1)
  Qz
  (fun ⟨x7, x8, _⟩ => Qs [(53, .bool)] [0, 1, 6, 7, 16] (fun z_ => Zds8 x6_2 c x7 z_.1)
  (Qp [3, 6, 16, 25])
  (fun ⟨x53, _⟩ => Qc (x53) (c (x7, ())) (c (x6_2, ())) Qz Qk)))))))))
  (fun ⟨x6_1, _⟩ => Qs [] [0, 1, 6] (fun z_ => Zds4 x0 x1 k x6_1)
  (Qs [(56, .bool)] [0, 1, 6] (fun z_ => Zds6 x0 x1 k x6_1 z_.1)
  Qz
  (fun ⟨x56, _⟩ => Qc (x56) (Zds5 k 0 4) (Zds4 x0 x1 k x6_1) (Qs [(4, .int .i64), (5, .int .i64)] [] (fun z_ => Zds5 k z_.1 z_.2.1)
  Qz
  (fun ⟨x4_1, x5_1, _⟩ => Qr)) Qk))
  (fun _ => Qs [(9, .int .i64)] [0, 1, 6] (fun z_ => Zds3 x0 x1 k x6_1 z_.1)
  Qz
  (fun ⟨x9, _⟩ => Qs [] [0, 1, 6, 9] (fun z_ => Zds2 x0 x1 k x6_1 x9 (decide (x9 > x1)))
  Qz
  (fun _ => Qs [] [6] (fun z_ => Zds0 k x6_1 0)
  (Qs [(68, .bool)] [0, 1, 6, 9] (fun z_ => Zds2 x0 x1 k x6_1 x9 z_.1)
  Qz
  (fun ⟨x68, _⟩ => Qc (x68) (Zds1 x0 x1 k x6_1 x9) (Zds0 k x6_1 0) Qz Qk))
  (fun _ => Qs [(4, .int .i64), (5, .int .i64)] [] (fun z_ => Zds0 k z_.1 z_.2.1)
  Qz
  (fun ⟨x4, x5, _⟩ => Qr)))))))))) hyp_
abbrev Zdt0 (k : (Int → K)) (x6 : Int) : K :=
  k x6
abbrev Zdt1 (l : OA) (mutator : Int) (k_1 : Int) (k : (Int → K)) : K :=
  nn l fun x8 =>
  ldM (x8.add 32) fun x10 =>
  lkE Tryz.prog 201 (.slice none 0 0) (.sc (.slice)) x10 (.agg #[.int .i64 mutator, .int .i64 k_1]) fun r ob x14 ok =>
  Zdt0 k ((x14.n : Nat) : Int)
abbrev free_Lists_Own (l : OA) (mutator : Int) (k_1 : Int) : M Int := fun k =>
  Zdt1 l mutator k_1 k
theorem free_Lists_Own_ok (l : OA) (mutator : Int) (k_1 : Int) (k : Int → K) (w : World) (hyp_ : free_Lists_Own l mutator k_1 k w) : c_free_Lists_Own l mutator k_1 k w :=
  cl_of (P := Tryz.prog) Tryz.func202 rfl (by kernel_rfl)
  (Qs [] [0, 1, 2] (fun z_ => Zdt1 l mutator k_1 k)
  Qz
  (fun _ => Qs [(6, .int .i64)] [] (fun z_ => Zdt0 k z_.1)
  Qz
  (fun ⟨x6, _⟩ => Qr))) hyp_
abbrev Zdu0 (l : OA) (x6_1 : Int) (c : ((Int × Unit) → K)) (s : Addr) : K :=
  tick fun _ =>
  nn l fun x31 =>
  ldM (x31.add 32) fun x33 =>
  ldI .i64 (s.add 0) fun x34_0 =>
  ldI .i64 (s.add 1) fun x34_1 =>
  semT Tryz.prog (Builtin.delete_ #[197, 201] 0 #[.map x33, .agg #[.int .i64 x34_0, .int .i64 x34_1]]) (.tup []) fun r =>
  c ((IntKind.wrap .i64 (x6_1 + 1)), ())
abbrev Zdu1 (l : OA) (x6_1 : Int) (c : ((Int × Unit) → K)) (k_1 : Int) (s : Addr) : K :=
  tick fun _ =>
  nn l fun x16 =>
  ixA (x16.add 0) 32 k_1 1 fun x18 =>
  ldS x18 fun x19 =>
  nn l fun x21 =>
  ldM (x21.add 32) fun x23 =>
  ldI .i64 (s.add 0) fun x24_0 =>
  ldI .i64 (s.add 1) fun x24_1 =>
  lkE Tryz.prog 201 (.slice none 0 0) (.sc (.slice)) x23 (.agg #[.int .i64 x24_0, .int .i64 x24_1]) fun r_1 ob x25 ok =>
  nn l fun x27 =>
  semT Tryz.prog (Builtin.append_ #[27, 27] 27 #[x19.v, x25.v]) (.one (.sc (.slice))) fun x26 =>
  ixA (x27.add 0) 32 k_1 1 fun x29 =>
  stK (x29.add 0) (x26.v) <|
  Zdu0 l x6_1 c s
abbrev Zdu2 (l : OA) (mutator : Int) (x6_1 : Int) (c : ((Int × Unit) → K)) (k_1 : Int) : K :=
  alK (.cells #[.int .i64 0, .int .i64 0] 201) fun b =>
  stK (Addr.add ⟨b, 0, none⟩ 0) (.int .i64 mutator) <|
  stK (Addr.add ⟨b, 0, none⟩ 1) (.int .i64 k_1) <|
  Zdu1 l x6_1 c k_1 ⟨b, 0, none⟩
abbrev Zdu3 (l : OA) (mutator : Int) (k : (Unit → K)) (x6_1 : Int) (c : ((Int × Unit) → K)) (x7 : Bool) : K :=
  brK x7
  (Zdu2 l mutator x6_1 c x6_1)
  (k ())
abbrev Zdu4 (l : OA) (mutator : Int) (k : (Unit → K)) (x6_1 : Int) (c : ((Int × Unit) → K)) : K :=
  Zdu3 l mutator k x6_1 c (decide (x6_1 < 32))
abbrev Zdu5 (l : OA) (mutator : Int) (k : (Unit → K)) (x6 : Int) : K :=
  lp (fun (z_ : (Int × Unit)) c_ => Zdu4 l mutator k z_.1 c_) (x6, ())
abbrev free_Lists_Drain (l : OA) (mutator : Int) : M Unit := fun k =>
  Zdu5 l mutator k 0
theorem free_Lists_Drain_ok (l : OA) (mutator : Int) (k : Unit → K) (w : World) (hyp_ : free_Lists_Drain l mutator k w) : c_free_Lists_Drain l mutator k w :=
  cl_of (P := Tryz.prog) Tryz.func203 rfl (by kernel_rfl)
  (Qs [(6, .int .i64)] [0, 1] (fun z_ => Zdu5 l mutator k z_.1)
  Qz
  (fun ⟨x6, _⟩ => Qb (Ql [(6, .int .i64)] [0, 1] (fun (z_ : (Int × Unit)) c_ => Zdu4 l mutator k z_.1 c_) (x6, ())
  (fun ⟨x6_1, _⟩ c => Qs [(7, .bool)] [0, 1, 6] (fun z_ => Zdu3 l mutator k x6_1 c z_.1)
  Qz
  (fun ⟨x7, _⟩ => Qs [] [0, 1, 6] (fun z_ => Zdu2 l mutator x6_1 c x6_1)
  (Qc (x7) (Zdu2 l mutator x6_1 c x6_1) (k ()) Qk Qx)
  (fun _ => Qs [] [0, 1, 6] (fun z_ => c ((IntKind.wrap .i64 (x6_1 + 1)), ()))
  (Qb (Qs [(4, .int .i64)] [0, 1, 6] (fun z_ => Zdu2 l mutator x6_1 c z_.1)
  Qz
  (fun ⟨k_1, _⟩ => Qs [(5, .addr)] [0, 1, 4, 6] (fun z_ => Zdu1 l x6_1 c k_1 z_.1)
  Qz
  (fun ⟨s, _⟩ => Qs [] [0, 1, 5, 6] (fun z_ => Zdu0 l x6_1 c s)
  (RefK.draw [] [0, 0, 0, 0, 4, 20, 60, 124, 0, 256, 768, 1792, 0, 7936, 16380, 1, 32769, 131071, 262143] [0, 1, 2, 3, 4, 5, 6, 7, 8, 9, 10, 11, 12, 13, 15, 16, 14, 17, 18] [0, 1, 2, 3, 4, 5, 6, 7, 8, 9, 10, 11, 12, 13, 14, 15, 16, 17, 18] (by kernel_rfl) (by kernel_rfl))
  (fun _ => RefK.draw [] [0, 1, 3, 7, 0, 31] [0, 1, 2, 3, 4, 5] [0, 1, 2, 3, 4, 5] (by kernel_rfl) (by kernel_rfl))))))
  (fun _ => Qz))))))) hyp_
abbrev Zdv0 (k : (Int → K)) (x4 : Int) : K :=
  k x4
abbrev Zdv1 (k : (Int → K)) (a_1 : Addr) (b_1 : Addr) : K :=
  ldI .i64 (a_1.add 0) fun x6 =>
  ldI .i64 (b_1.add 0) fun x8 =>
  Zdv0 k (IntKind.wrap .i64 (x6 - x8))
abbrev runs_Index_List_1 (a : (Int × Int)) (b : (Int × Int)) : M Int := fun k =>
  alK (.cells #[.int .i64 a.1, .int .i64 a.2] 152) fun b_2 =>
  alK (.cells #[.int .i64 b.1, .int .i64 b.2] 152) fun b_3 =>
  Zdv1 k ⟨b_2, 0, none⟩ ⟨b_3, 0, none⟩
theorem runs_Index_List_1_ok (a : (Int × Int)) (b : (Int × Int)) (k : Int → K) (w : World) (hyp_ : runs_Index_List_1 a b k w) : c_runs_Index_List_1 a b k w :=
  cl_of (P := Tryz.prog) Tryz.func208 rfl (by kernel_rfl)
  (Qs [(2, .addr), (3, .addr)] [] (fun z_ => Zdv1 k z_.1 z_.2.1)
  Qz
  (fun ⟨a_1, b_1, _⟩ => Qs [(4, .int .i64)] [] (fun z_ => Zdv0 k z_.1)
  Qz
  (fun ⟨x4, _⟩ => Qr))) hyp_
abbrev Zdw0 (k : (Int → K)) (x4 : Int) : K :=
  k x4
abbrev Zdw1 (l : OA) (k_1 : Int) (k : (Int → K)) : K :=
  c_free_Lists_List l k_1 fun x7 =>
  Zdw0 k ((x7.n : Nat) : Int)
abbrev free_Lists_Len (l : OA) (k_1 : Int) : M Int := fun k =>
  Zdw1 l k_1 k
theorem free_Lists_Len_ok (l : OA) (k_1 : Int) (k : Int → K) (w : World) (hyp_ : free_Lists_Len l k_1 k w) : c_free_Lists_Len l k_1 k w :=
  cl_of (P := Tryz.prog) Tryz.func209 rfl (by kernel_rfl)
  (Qs [] [0, 1] (fun z_ => Zdw1 l k_1 k)
  Qz
  (fun _ => Qs [(4, .int .i64)] [] (fun z_ => Zdw0 k z_.1)
  Qz
  (fun ⟨x4, _⟩ => Qr))) hyp_
abbrev Zdx0 (k : (Bool → K)) (x4 : Bool) : K :=
  k x4
abbrev Zdx1 (at_1 : Int) (cap0 : Addr) (cap1 : Addr) (k : (Bool → K)) : K :=
  ldI .i64 cap0 fun x6 =>
  brK (decide (at_1 ≥ x6))
  (ldI .i64 cap1 fun x10 =>
  Zdx0 k (decide (at_1 < x10)))
  (Zdx0 k false)
abbrev free_Lists_Remove_1 (at_1 : Int) (cap0 : Addr) (cap1 : Addr) : M Bool := fun k =>
  Zdx1 at_1 cap0 cap1 k
theorem free_Lists_Remove_1_ok (at_1 : Int) (cap0 : Addr) (cap1 : Addr) (k : Bool → K) (w : World) (hyp_ : free_Lists_Remove_1 at_1 cap0 cap1 k w) : c_free_Lists_Remove_1 at_1 cap0 cap1 k w :=
  cl_of (P := Tryz.prog) Tryz.func210 rfl (by kernel_rfl)
  (Qs [] [0, 1, 2] (fun z_ => Zdx1 at_1 cap0 cap1 k)
  Qz
  (fun _ => Qs [(4, .bool)] [] (fun z_ => Zdx0 k z_.1)
  (Qp [3])
  (fun ⟨x4, _⟩ => Qr))) hyp_
abbrev Zdy0 (k : ((Sl × (Int × Int)) → K)) (x4 : Sl) (x5 : Int) (x6 : Int) : K :=
  k (x4, (x5, x6))
abbrev Zdy1 (out : Sl) (b_1 : Int) (c : ((Int × Unit) → K)) (h : Addr) : K :=
  ldI .i64 (h.add 0) fun x36_0 =>
  ldI .i64 (h.add 1) fun x36_1 =>
  ldI .i64 (h.add 2) fun x36_2 =>
  ixS out.p out.n b_1 3 fun x37 =>
  stK (x37.add 0) (.int .i64 x36_0) <|
  stK (x37.add 1) (.int .i64 x36_1) <|
  stK (x37.add 2) (.int .i64 x36_2) <|
  c ((IntKind.wrap .i64 (b_1 + 1)), ())
abbrev Zdy2 (k : ((Sl × (Int × Int)) → K)) (x4_1 : Sl) (x5_1 : Int) (x6_1 : Int) : K :=
  k (x4_1, (x5_1, x6_1))
abbrev Zdy3 (k : ((Sl × (Int × Int)) → K)) (out : Sl) (b_1 : Int) (c : ((Int × Unit) → K)) (h : Addr) (x32 : Bool) : K :=
  brK x32
  (Zdy2 k ⟨none, 0, 0⟩ b_1 21)
  (Zdy1 out b_1 c h)
abbrev Zdy4 (k : ((Sl × (Int × Int)) → K)) (out : Sl) (b_1 : Int) (c : ((Int × Unit) → K)) (h : Addr) (e : Int) : K :=
  Zdy3 k out b_1 c h (e != 0)
abbrev Zdy5 (d : OA) (k : ((Sl × (Int × Int)) → K)) (g_1 : Addr) (out : Sl) (b_1 : Int) (c : ((Int × Unit) → K)) : K :=
  ldI .i64 (g_1.add 0) fun x24_0 =>
  c_geom_Geometry_Header x24_0 b_1 fun x26 =>
  c_nvm_Device_Get d x26 fun x27 =>
  c_bhead_Decode b_1 x27 fun x28 =>
  alK (.cells #[.int .i64 0, .int .i64 0, .int .i64 0] 143) fun b_2 =>
  stK (Addr.add ⟨b_2, 0, none⟩ 0) (.int .i64 x28.1.1) <|
  stK (Addr.add ⟨b_2, 0, none⟩ 1) (.int .i64 x28.1.2.1) <|
  stK (Addr.add ⟨b_2, 0, none⟩ 2) (.int .i64 x28.1.2.2) <|
  Zdy4 k out b_1 c ⟨b_2, 0, none⟩ x28.2
abbrev Zdy6 (d : OA) (k : ((Sl × (Int × Int)) → K)) (g_1 : Addr) (out : Sl) (b_1 : Int) (c : ((Int × Unit) → K)) (x18 : Bool) : K :=
  brK x18
  (Zdy5 d k g_1 out b_1 c)
  (Zdy0 k out 0 0)
abbrev Zdy7 (d : OA) (k : ((Sl × (Int × Int)) → K)) (g_1 : Addr) (out : Sl) (b_1 : Int) (c : ((Int × Unit) → K)) : K :=
  ldI .i64 (g_1.add 0) fun x17 =>
  Zdy6 d k g_1 out b_1 c (decide (b_1 < x17))
abbrev Zdy8 (d : OA) (k : ((Sl × (Int × Int)) → K)) (g_1 : Addr) (out : Sl) (b : Int) : K :=
  lp (fun (z_ : (Int × Unit)) c_ => Zdy7 d k g_1 out z_.1 c_) (b, ())
abbrev Zdy9 (d : OA) (k : ((Sl × (Int × Int)) → K)) (g_1 : Addr) (out : Sl) : K :=
  Zdy8 d k g_1 out 1
abbrev Zdy10 (d : OA) (k : ((Sl × (Int × Int)) → K)) (g_1 : Addr) : K :=
  ldI .i64 (g_1.add 0) fun x12 =>
  mkS Tryz.prog 143 (max2I 0 x12) (max2I 0 x12) fun b_3 =>
  Zdy9 d k g_1 ⟨(some ⟨b_3, 0, none⟩), (Int.toNat (max2I 0 x12)), (Int.toNat (max2I 0 x12))⟩
abbrev blocks_Read (d : OA) (g : Int) : M (Sl × (Int × Int)) := fun k =>
  alK (.cells #[.int .i64 g] 43) fun b_4 =>
  Zdy10 d k ⟨b_4, 0, none⟩
theorem blocks_Read_ok (d : OA) (g : Int) (k : (Sl × (Int × Int)) → K) (w : World) (hyp_ : blocks_Read d g k w) : c_blocks_Read d g k w :=
  cl_of (P := Tryz.prog) Tryz.func220 rfl (by kernel_rfl)
  (Qs [(3, .addr)] [0] (fun z_ => Zdy10 d k z_.1)
  Qz
  (fun ⟨g_1, _⟩ => Qs [(7, .slice)] [0, 3] (fun z_ => Zdy9 d k g_1 z_.1)
  Qz
  (fun ⟨out, _⟩ => Qs [] [7] (fun z_ => Zdy0 k out 0 0)
  (Qs [(8, .int .i64)] [0, 3, 7] (fun z_ => Zdy8 d k g_1 out z_.1)
  Qz
  (fun ⟨b, _⟩ => Qb (Ql [(8, .int .i64)] [0, 3, 7] (fun (z_ : (Int × Unit)) c_ => Zdy7 d k g_1 out z_.1 c_) (b, ())
  (fun ⟨b_1, _⟩ c => Qs [] [0, 3, 7, 8] (fun z_ => Zdy5 d k g_1 out b_1 c)
  (Qs [(18, .bool)] [0, 3, 7, 8] (fun z_ => Zdy6 d k g_1 out b_1 c z_.1)
  Qz
  (fun ⟨x18, _⟩ => Qc (x18) (Zdy5 d k g_1 out b_1 c) (Zdy0 k out 0 0) Qk Qx))
  (fun _ => Qs [] [0, 3, 7, 8] (fun z_ => c ((IntKind.wrap .i64 (b_1 + 1)), ()))
  (Qb (Qs [(9, .addr), (10, .int .i64)] [0, 3, 7, 8] (fun z_ => Zdy4 k out b_1 c z_.1 z_.2.1)
  Qz
  (fun ⟨h, e, _⟩ => Qs [] [0, 3, 7, 8, 9] (fun z_ => Zdy1 out b_1 c h)
  (Qs [(32, .bool)] [0, 3, 7, 8, 9] (fun z_ => Zdy3 k out b_1 c h z_.1)
  Qz
  (fun ⟨x32, _⟩ => Qc (x32) (Zdy2 k ⟨none, 0, 0⟩ b_1 21) (Zdy1 out b_1 c h) (Qs [(4, .slice), (5, .int .i64), (6, .int .i64)] [] (fun z_ => Zdy2 k z_.1 z_.2.1 z_.2.2.1)
  Qz
  (fun ⟨x4_1, x5_1, x6_1, _⟩ => Qr)) Qk))
  (fun _ => Qz))))
  (fun _ => Qz))))))
  (fun _ => Qs [(4, .slice), (5, .int .i64), (6, .int .i64)] [] (fun z_ => Zdy0 k z_.1 z_.2.1 z_.2.2.1)
  Qz
  (fun ⟨x4, x5, x6, _⟩ => Qr))))) hyp_
abbrev Zdz0 (k : (OA → K)) (x2 : Addr) : K :=
  k (some x2)
abbrev Zdz1 (limit : Int) (k : (OA → K)) : K :=
  alK (.map #[] 0) fun b =>
  alK (.map #[] 0) fun b_1 =>
  alK (.cells #[.map (some b), .map (some b_1), .int .i64 (max2I limit 0)] 242) fun b_2 =>
  Zdz0 k ⟨b_2, 0, none⟩
abbrev runs_New (limit : Int) : M OA := fun k =>
  Zdz1 limit k
theorem runs_New_ok (limit : Int) (k : OA → K) (w : World) (hyp_ : runs_New limit k w) : c_runs_New limit k w :=
  cl_of (P := Tryz.prog) Tryz.func221 rfl (by kernel_rfl)
  (Qs [] [0] (fun z_ => Zdz1 limit k)
  Qz
  (fun _ => Qs [(2, .addr)] [] (fun z_ => Zdz0 k z_.1)
  Qz
  (fun ⟨x2, _⟩ => Qr))) hyp_
abbrev Zea0 (k : (Sl → K)) (x2 : Sl) : K :=
  k x2
abbrev Zea1 (k : (Sl → K)) (out_1 : Sl) : K :=
  Zea0 k out_1
abbrev Zea2 (b_1 : Int) (c : ((Sl × Int × Unit) → K)) (out_3 : Sl) : K :=
  c (out_3, (IntKind.wrap .i64 (b_1 + 1)), ())
abbrev Zea3 (out_2 : Sl) (b_1 : Int) (c : ((Sl × Int × Unit) → K)) : K :=
  ixS out_2.p out_2.n (IntKind.wrap .i64 (((out_2.n : Nat) : Int) - 1)) 2 fun x50 =>
  ldI .i64 (x50.add 1) fun x52 =>
  ixS out_2.p out_2.n (IntKind.wrap .i64 (((out_2.n : Nat) : Int) - 1)) 2 fun x54 =>
  stK (Addr.add (x54.add 1) 0) (.int .i64 (IntKind.wrap .i64 (x52 + 1))) <|
  Zea2 b_1 c out_2
abbrev Zea4 (out_2 : Sl) (b_1 : Int) (c : ((Sl × Int × Unit) → K)) : K :=
  alK (.cells #[.int .i64 b_1, .int .i64 1] 152) fun b_2 =>
  semT Tryz.prog (Builtin.append_ #[150, 150] 150 #[out_2.v, .slice (some ⟨b_2, 0, none⟩) 1 1]) (.one (.sc (.slice))) fun x15 =>
  Zea2 b_1 c x15
abbrev Zea5 (out_2 : Sl) (b_1 : Int) (c : ((Sl × Int × Unit) → K)) (x23 : Bool) : K :=
  brK x23
  (Zea3 out_2 b_1 c)
  (Zea4 out_2 b_1 c)
abbrev Zea6 (out_2 : Sl) (b_1 : Int) (c : ((Sl × Int × Unit) → K)) : K :=
  tick fun _ =>
  brK (decide (((out_2.n : Nat) : Int) > 0))
  (ixS out_2.p out_2.n (IntKind.wrap .i64 (((out_2.n : Nat) : Int) - 1)) 2 fun x32 =>
  ldI .i64 (x32.add 0) fun x34 =>
  ixS out_2.p out_2.n (IntKind.wrap .i64 (((out_2.n : Nat) : Int) - 1)) 2 fun x39 =>
  ldI .i64 (x39.add 1) fun x41 =>
  Zea5 out_2 b_1 c ((IntKind.wrap .i64 (x34 + x41)) == b_1))
  (Zea5 out_2 b_1 c false)
abbrev Zea7 (out_2 : Sl) (b_1 : Int) (c : ((Sl × Int × Unit) → K)) (x16 : Bool) : K :=
  brK x16
  (Zea2 b_1 c out_2)
  (Zea6 out_2 b_1 c)
abbrev Zea8 (list : Sl) (out_2 : Sl) (b_1 : Int) (c : ((Sl × Int × Unit) → K)) : K :=
  ixS list.p list.n b_1 3 fun x19 =>
  ldI .i64 (x19.add 0) fun x21 =>
  Zea7 out_2 b_1 c (x21 != 0)
abbrev Zea9 (list : Sl) (k : (Sl → K)) (out_2 : Sl) (b_1 : Int) (c : ((Sl × Int × Unit) → K)) (x8 : Bool) : K :=
  brK x8
  (Zea8 list out_2 b_1 c)
  (Zea1 k out_2)
abbrev Zea10 (list : Sl) (k : (Sl → K)) (out_2 : Sl) (b_1 : Int) (c : ((Sl × Int × Unit) → K)) : K :=
  Zea9 list k out_2 b_1 c (decide (b_1 < ((list.n : Nat) : Int)))
abbrev Zea11 (list : Sl) (k : (Sl → K)) (out : Sl) (b : Int) : K :=
  lp (fun (z_ : (Sl × Int × Unit)) c_ => Zea10 list k z_.1 z_.2.1 c_) (out, b, ())
abbrev Zea12 (list : Sl) (k : (Sl → K)) (out : Sl) : K :=
  Zea11 list k out 1
abbrev blocks_Spans (list : Sl) : M Sl := fun k =>
  Zea12 list k ⟨none, 0, 0⟩
theorem blocks_Spans_ok (list : Sl) (k : Sl → K) (w : World) (hyp_ : blocks_Spans list k w) : c_blocks_Spans list k w :=
  cl_of (P := Tryz.prog) Tryz.func222 rfl (by kernel_rfl)
  (Qs [] [0] (fun z_ => Zea12 list k ⟨none, 0, 0⟩)
  Qz
  (fun _ => Qs [(3, .slice)] [0] (fun z_ => Zea12 list k z_.1)
  Qz
  (fun ⟨out, _⟩ => Qs [(3, .slice)] [] (fun z_ => Zea1 k z_.1)
  (Qs [(4, .int .i64)] [0, 3] (fun z_ => Zea11 list k out z_.1)
  Qz
  (fun ⟨b, _⟩ => Qb (Ql [(3, .slice), (4, .int .i64)] [0] (fun (z_ : (Sl × Int × Unit)) c_ => Zea10 list k z_.1 z_.2.1 c_) (out, b, ())
  (fun ⟨out_2, b_1, _⟩ c => Qs [] [0, 3, 4] (fun z_ => Zea8 list out_2 b_1 c)
  (Qs [(8, .bool)] [0, 3, 4] (fun z_ => Zea9 list k out_2 b_1 c z_.1)
  Qz
  (fun ⟨x8, _⟩ => Qc (x8) (Zea8 list out_2 b_1 c) (Zea1 k out_2) Qk Qx))
  (fun _ => Qs [(3, .slice)] [0, 4] (fun z_ => Zea2 b_1 c z_.1)
  (Qb (Qb (Qs [(16, .bool)] [0, 3, 4] (fun z_ => Zea7 out_2 b_1 c z_.1)
  Qz
  (fun ⟨x16, _⟩ => Qc (x16) (Zea2 b_1 c out_2) (Zea6 out_2 b_1 c) Qk (Qs [(23, .bool)] [0, 3, 4] (fun z_ => Zea5 out_2 b_1 c z_.1)
  (RefK.draw [3] [0, 1, 3, 7, 15, 15, 47, 111, 255, 511, 1023, 15, 15, 4111, 12303, 30735, 63503, 129039, 262143, 15, 1048575, 2097151, 4194303] [0, 1, 2, 3, 4, 5, 6, 7, 8, 9, 10, 11, 12, 13, 14, 15, 16, 17, 18, 19, 20, 21, 22] [0, 1, 2, 3, 4, 5, 6, 7, 8, 9, 10, 11, 12, 13, 14, 15, 16, 17, 18, 19, 20, 21, 22] (by kernel_rfl) (by kernel_rfl))
  (fun ⟨x23, _⟩ => Qc (x23) (Zea3 out_2 b_1 c) (Zea4 out_2 b_1 c) Qz Qz))))))
  (fun ⟨out_3, _⟩ => Qz))))))
  (fun ⟨out_1, _⟩ => Qs [(2, .slice)] [] (fun z_ => Zea0 k z_.1)
  Qz
  (fun ⟨x2, _⟩ => Qr))))) hyp_
end
/-- headers written from a block on -/
def wrH (c : List Int) (b : Nat) : List Hd → List Int
  | [] => c
  | x :: xs => wrH (c.set (256 + b) (benc b x)) (b + 1) xs
theorem wrH_snoc (xs : List Hd) (x : Hd) : ∀ (c : List Int) (b : Nat), wrH c b (xs ++ [x]) = (wrH c b xs).set (256 + (b + xs.length)) (benc ((b + xs.length : Nat) : Int) x) := by
  induction xs with
  | nil => intro c b; rfl
  | cons y ys ih =>
    intro c b
    show wrH (c.set (256 + b) (benc b y)) (b + 1) (ys ++ [x]) = _
    rw [ih]
    show _ = (wrH (c.set (256 + b) (benc b y)) (b + 1) ys).set _ _
    have e : b + 1 + ys.length = b + (y :: ys).length := by simp; omega
    rw [e]
theorem wrH_length (xs : List Hd) : ∀ (c : List Int) (b : Nat), (wrH c b xs).length = c.length := by
  induction xs with
  | nil => intro c b; rfl
  | cons y ys ih => intro c b; show (wrH _ _ ys).length = _; rw [ih]; simp
theorem wrH_get (xs : List Hd) : ∀ (c : List Int) (b i : Nat), (wrH c b xs)[i]? = if i < 256 + b ∨ 256 + b + xs.length ≤ i ∨ c.length ≤ i then c[i]? else (xs[i - (256 + b)]?).map (benc ((i - 256 : Nat) : Int)) := by
  induction xs with
  | nil => intro c b i; show c[i]? = _; rw [if_pos (by simp; omega)]
  | cons y ys ih =>
    intro c b i
    show (wrH (c.set (256 + b) (benc b y)) (b + 1) ys)[i]? = _
    rw [ih]
    simp only [List.length_set, List.length_cons, List.getElem?_set]
    by_cases h1 : i < 256 + b ∨ 256 + b + (ys.length + 1) ≤ i ∨ c.length ≤ i
    · rw [if_pos h1]
      split
      · by_cases e : 256 + b = i
        · rw [if_pos e, if_neg (by omega), List.getElem?_eq_none (by omega)]
        · rw [if_neg e]
      · omega
    · rw [if_neg h1]
      by_cases h2 : i = 256 + b
      · subst h2
        rw [if_pos (by omega), if_pos rfl, if_pos (by omega)]
        simp
      · rw [if_neg (by omega)]
        rw [show i - (256 + b) = (i - (256 + (b + 1))) + 1 by omega, List.getElem?_cons_succ]
section
variable {B : World} {P R : SL} {t : K}
theorem blocks_Format_c {d n : Nat} {g : Nat} {c la : List Int} (hg : 2 ≤ g) (hg2 : g ≤ 2 ^ 20) (hn : n = 64 * g) {k : Int → K}
    (hk : ∀ la', Pst n ((257 : Int) / 8).toNat (((257 : Int) + (g - 1) - 1) / 8 + 1).toNat (wrH c 1 (List.replicate (g - 1) (0, 0, 0))) la la' → T B (R * LDev d n (wrH c 1 (List.replicate (g - 1) (0, 0, 0))) la') (k 0)) : T B (R * LDev d n c la) (c_blocks_Format (da d) g k) := by
  refine T_of (blocks_Format_ok _ g k) ?_
  (repeat ((with_reducible refine T_al ?_; intro _)))
  rename_i b
  refine T_lpX (fun _ s => R * LDev d n (wrH c 1 (List.replicate (s.1.toNat - 1) (0, 0, 0))) la * pt b (.cells [.int .i64 g].toArray 43))
    (fun m (s : Int × Unit) => ∃ i : Nat, 1 ≤ i ∧ i ≤ g ∧ s.1 = i ∧ m = g - i) (g - 1) rfl ⟨1, by omega, by omega, rfl, rfl⟩ ?_
  rintro m ⟨s1, u⟩ cc ⟨i, h1, h2, h3, h4⟩ hc
  simp only at h3
  subst h3 h4
  simp only [Int.toNat_natCast]
  (repeat' (first | with_reducible refine T_tick ?_ | ((with_reducible apply T_ldI); (focus rfl); (focus exact hasA); (focus rfl)) | with_reducible refine T_brD (fun _ => ?_) (fun _ => ?_)))
  · rename_i hlt
    refine geom_Header_c (by omega) ?_
    have hh : header g i = 256 + i := by unfold header; rw [if_neg (by omega)]
    rw [hh]
    refine bhead_Encode_c (by omega) (by omega) ?_
    refine T_bring (X := LDev d n (wrH c 1 (List.replicate (i - 1) (0, 0, 0))) la) (.init .last) ?_
    refine LStore_c (by omega) (by omega) ?_
    (repeat' (with_reducible refine T_brNE (fun _ => ?_) (fun _ => ?_)))
    · rename_i hx; exact absurd rfl hx
    · refine T.perm ?_ (hc (g - (i + 1)) (IntKind.wrap .i64 ((i : Int) + 1), ()) (by omega) ⟨i + 1, by omega, by omega, w64 (by omega) (by omega), rfl⟩)
      have e : (IntKind.wrap .i64 ((i : Int) + 1)).toNat = i + 1 := by rw [w64 (by omega) (by omega)]; omega
      simp only [e]
      have e2 : List.replicate (i + 1 - 1) ((0, 0, 0) : Hd) = List.replicate (i - 1) (0, 0, 0) ++ [(0, 0, 0)] := by
        rw [← List.replicate_succ']; congr 1; omega
      rw [e2, wrH_snoc]
      have e3 : 256 + (1 + (List.replicate (i - 1) ((0, 0, 0) : Hd)).length) = (256 + (i : Int)).toNat := by simp; omega
      have e4 : ((1 + (List.replicate (i - 1) ((0, 0, 0) : Hd)).length : Nat) : Int) = i := by simp; omega
      rw [e3, e4]
      ac_rfl
  · rename_i hge
    have : i = g := by omega
    subst this
    refine geom_Header_c (by omega) ?_
    have hh : header i 1 = 257 := by unfold header; rw [if_neg (by omega)]; rfl
    rw [hh]
    (repeat (first | with_reducible refine T_chk0 ?_ | ((with_reducible apply T_chk); (focus rfl); (focus exact hasA); (focus rfl))))
    rw [w64 (by omega) (by omega)]
    refine T_bring (X := LDev d n (wrH c 1 (List.replicate (i - 1) (0, 0, 0))) la) (.init .last) ?_
    refine LPersist_c (by omega) (by omega) (by omega) fun la' hp => ?_
    have := (hk la' hp).weak (Q := pt b (.cells [.int .i64 i].toArray 43))
    refine T.perm ?_ this
    ac_rfl
end
/-- a device's words tell these headers -/
def Tells (c : List Int) (hs : List Hd) : Prop := hs[0]? = some (0, 0, 0) ∧ ∀ b : Nat, 1 ≤ b → ∀ h, hs[b]? = some h → bdec b (getI c (256 + b)) = (h, 0)
def Tab (t d : Nat) (g : Int) (hs : List Hd) : SL := ex fun s : Sl => vec 143 3 s (hds hs) * pt t (.cells [.pointer (da d), .int .i64 g, s.v].toArray 125)
section
variable {B : World} {P R : SL} {t : K}
theorem T_drop1 {X : SL} (h : Frm P X R) (ht : T B R t) : T B P t := by unfold Frm at h; subst h; exact ht.weak
theorem Tab_open {a d : Nat} {g : Int} {hs : List Hd} (h : ∀ s : Sl, T B (R * vec 143 3 s (hds hs) * pt a (.cells [.pointer (da d), .int .i64 g, s.v].toArray 125)) t) : T B (R * Tab a d g hs) t := by
  refine T_ex fun q => T.perm ?_ (h q)
  simp only [sep_assoc]
theorem Tab_close {a d : Nat} {g : Int} {hs : List Hd} {s : Sl} (h : T B (R * Tab a d g hs) t) : T B (R * vec 143 3 s (hds hs) * pt a (.cells [.pointer (da d), .int .i64 g, s.v].toArray 125)) t := by
  refine T.perm ?_ (T_exI s h)
  simp only [sep_assoc]
theorem blocks_Read_c {d n g : Nat} {c la : List Int} {hs : List Hd} (hg : 1 ≤ g) (hg2 : g ≤ 2 ^ 20) (hl : hs.length = g) (ht : Tells c hs) {k : Sl × (Int × Int) → K}
    (hk : ∀ s, T B (R * LDev d n c la * vec 143 3 s (hds hs)) (k (s, (0, 0)))) : T B (R * LDev d n c la) (c_blocks_Read (da d) g k) := by
  refine T_of (blocks_Read_ok _ g k) ?_
  (repeat (first | ((with_reducible apply T_ldI); (focus rfl); (focus exact hasA); (focus rfl)) | (with_reducible refine T_al ?_; intro _)))
  rename_i b4
  have em : max2I 0 (g : Int) = g := by unfold max2I; rw [if_pos (by omega)]
  rw [em]
  refine T_mkV kd_hd (by omega) (by omega) (by omega) fun b => ?_
  rw [Int.toNat_natCast, repZ_hds]
  have e0 : List.replicate g ((0, 0, 0) : Hd) = hs.take 1 ++ List.replicate (g - 1) (0, 0, 0) := by
    obtain ⟨x, xs, rfl⟩ := List.exists_cons_of_length_pos (l := hs) (by omega)
    have := ht.1
    simp only [List.getElem?_cons_zero, Option.some.injEq] at this
    subst this
    rw [show g = (g - 1) + 1 by omega, List.replicate_succ]; simp
  rw [e0]
  refine T_lpX (fun _ s => R * LDev d n c la * pt b4 (.cells [.int .i64 g].toArray 43) * vec 143 3 ⟨some ⟨b, 0, none⟩, g, g⟩ (hds (hs.take s.1.toNat ++ List.replicate (g - s.1.toNat) (0, 0, 0))))
    (fun m (s : Int × Unit) => ∃ i : Nat, 1 ≤ i ∧ i ≤ g ∧ s.1 = i ∧ m = g - i) (g - 1) rfl ⟨1, by omega, by omega, rfl, rfl⟩ ?_
  rintro m ⟨s1, u⟩ cc ⟨i, h1, h2, h3, h4⟩ hc
  simp only at h3
  subst h3 h4
  simp only [Int.toNat_natCast]
  (repeat' (first | ((with_reducible apply T_ldI); (focus rfl); (focus exact hasA); (focus rfl)) | with_reducible refine T_brD (fun _ => ?_) (fun _ => ?_)))
  · rename_i hlt
    have hlt' : i < hs.length := by omega
    refine geom_Header_c (by omega) ?_
    have hh : header g i = 256 + i := by unfold header; rw [if_neg (by omega)]
    rw [hh]
    refine T_bring (X := LDev d n c la) (.init (.init .last)) ?_
    refine LGet_c ?_
    refine bhead_Decode_c (by omega) (by omega) ?_
    rw [ht.2 i h1 hs[i] (List.getElem?_eq_getElem hlt')]
    (repeat' (first | ((with_reducible apply T_ldI); (focus rfl); (focus exact hasA); (focus rfl)) | (with_reducible refine T_al ?_; intro _) | ((with_reducible apply T_st); (focus rfl); (focus exact updA); (focus simp); simp only [List.set, Nat.zero_add, Nat.reduceAdd]) | with_reducible refine T_brNE (fun _ => ?_) (fun _ => ?_)))
    · rename_i hx; exact absurd rfl hx
    · refine T_stH (i := i) (x := hs[i]) (s := ⟨some ⟨b, 0, none⟩, g, g⟩) (l := hs.take i ++ List.replicate (g - i) (0, 0, 0)) (.init (.init .last)) (by omega) (by simp; omega) ?_
      have hx := hc (g - (i + 1)) (IntKind.wrap .i64 ((i : Int) + 1), ()) (by omega) ⟨i + 1, by omega, by omega, w64 (by omega) (by omega), rfl⟩
      have e : (IntKind.wrap .i64 ((i : Int) + 1)).toNat = i + 1 := by rw [w64 (by omega) (by omega)]; omega
      simp only [e] at hx
      have e2 : (hs.take i ++ List.replicate (g - i) ((0, 0, 0) : Hd)).set (i : Int).toNat hs[i] = hs.take (i + 1) ++ List.replicate (g - (i + 1)) (0, 0, 0) := by
        rw [Int.toNat_natCast, List.set_append_right _ _ (by simp; omega), List.take_succ_eq_append_getElem hlt']
        have e5 : i - (hs.take i).length = 0 := by simp; omega
        rw [e5, show g - i = (g - (i + 1)) + 1 by omega, List.replicate_succ, List.set_cons_zero, List.append_assoc]; rfl
      rw [e2]
      refine T_drop1 (.init .last) ?_
      refine T.perm ?_ hx
      ac_rfl
  · rename_i hge
    have : i = g := by omega
    subst this
    simp only [Nat.sub_self, List.replicate_zero, List.append_nil]
    rw [List.take_of_length_le (by omega)]
    refine T_drop1 (.init .last) ?_
    exact hk ⟨some ⟨b, 0, none⟩, i, i⟩
theorem blocks_Open_c {d n g : Nat} {c la : List Int} {hs : List Hd} (hg : 1 ≤ g) (hg2 : g ≤ 2 ^ 20) (hl : hs.length = g) (ht : Tells c hs) {k : Option Addr × Int → K}
    (hk : ∀ a, T B (R * LDev d n c la * Tab a d g hs) (k (da a, 0))) : T B (R * LDev d n c la) (c_blocks_Open (da d) g k) := by
  refine T_of (blocks_Open_ok _ g k) ?_
  (repeat (first | ((with_reducible apply T_ldI); (focus rfl); (focus exact hasA); (focus rfl)) | (with_reducible refine T_al ?_; intro _)))
  rename_i b1
  refine T_bring (X := LDev d n c la) (.init .last) ?_
  refine blocks_Read_c hg hg2 hl ht fun s => ?_
  (repeat' (first | ((with_reducible apply T_ldI); (focus rfl); (focus exact hasA); (focus rfl)) | (with_reducible refine T_al ?_; intro _) | with_reducible refine T_brNE (fun _ => ?_) (fun _ => ?_)))
  · rename_i hx; exact absurd rfl hx
  · rename_i b
    refine Tab_close ?_
    refine T_drop1 (.init (.init .last)) ?_
    exact hk b
theorem blocks_Len_c {a d : Nat} {g : Int} {hs : List Hd} {k : Int → K} (hk : T B (R * Tab a d g hs) (k hs.length)) : T B (R * Tab a d g hs) (c_blocks_Table_Len (da a) k) := by
  refine T_of (blocks_Table_Len_ok _ k) ?_
  unfold da
  refine Tab_open fun s => ?_
  (repeat (first | with_reducible refine T_nn ?_ | ((with_reducible apply T_ldS); (focus rfl); (focus exact hasA); (focus rfl))))
  refine T_vlen (E := 143) (sz := 3) (s := s) (vs := hds hs) (.init .last) fun hn => ?_
  rw [hds_len] at hn
  have : s.n = hs.length := by omega
  rw [this]
  exact Tab_close hk
theorem blocks_Get_c {a d : Nat} {g : Int} {hs : List Hd} {b : Int} {k : Hd → K} (hk : T B (R * Tab a d g hs) (k (if b < 1 then (0, 0, 0) else hs.getD b.toNat (0, 0, 0)))) : T B (R * Tab a d g hs) (c_blocks_Table_Get (da a) b k) := by
  refine T_of (blocks_Table_Get_ok _ b k) ?_
  unfold da
  (repeat' (first | with_reducible refine T_nn ?_ | with_reducible refine T_brT ?_ | ((with_reducible apply T_ldI); (focus rfl); (focus exact hasA); (focus rfl)) | (with_reducible refine T_al ?_; intro _) | ((with_reducible apply T_st); (focus rfl); (focus exact updA); (focus simp); simp only [List.set, Nat.zero_add, Nat.reduceAdd]) | with_reducible refine T_brD (fun _ => ?_) (fun _ => ?_)))
  · rename_i h
    rw [if_pos h] at hk
    skip
    refine T_drop1 .last ?_
    exact hk
  · rename_i bb h
    rw [if_neg h] at hk
    refine T_bring (X := Tab a d g hs) (.init .last) ?_
    refine Tab_open fun s => ?_
    (repeat (((with_reducible apply T_ldS); (focus rfl); (focus exact hasA); (focus rfl))))
    refine T_vlen (E := 143) (sz := 3) (s := s) (vs := hds hs) (.init .last) fun hn => ?_
    rw [hds_len] at hn
    (repeat' (first | with_reducible refine T_nn ?_ | ((with_reducible apply T_ldI); (focus rfl); (focus exact hasA); (focus rfl)) | ((with_reducible apply T_ldS); (focus rfl); (focus exact hasA); (focus rfl)) | ((with_reducible apply T_st); (focus rfl); (focus exact updA); (focus simp); simp only [List.set, Nat.zero_add, Nat.reduceAdd]) | with_reducible refine T_brD (fun _ => ?_) (fun _ => ?_)))
    · rename_i h2
      rw [List.getD_eq_getElem?_getD, List.getElem?_eq_none (by omega)] at hk
      refine Tab_close ?_
      refine T_drop1 (.init .last) ?_
      exact hk
    · rename_i h2
      have hlt : b.toNat < hs.length := by omega
      rw [List.getD_eq_getElem?_getD, List.getElem?_eq_getElem hlt] at hk
      refine T_ixH (l := hs) (Rd.vec (E := 143) (s := s) (.init .last)) (by omega) hlt fun x hx => ?_
      refine T_ldAt hx rfl ?_
      refine T_ldAt hx rfl ?_
      refine T_ldAt hx rfl ?_
      (repeat (first | ((with_reducible apply T_ldI); (focus rfl); (focus exact hasA); (focus rfl)) | ((with_reducible apply T_st); (focus rfl); (focus exact updA); (focus simp); simp only [List.set, Nat.zero_add, Nat.reduceAdd])))
      refine T_drop1 (.init (.init .last)) ?_
      exact Tab_close hk
theorem blocks_All_c {a d : Nat} {g : Int} {hs : List Hd} (hl : hs.length ≤ 2 ^ 30) {k : Sl → K} (hk : ∀ s, T B (R * Tab a d g hs * vec 143 3 s (hds hs)) (k s)) : T B (R * Tab a d g hs) (c_blocks_Table_All (da a) k) := by
  refine T_of (blocks_Table_All_ok _ k) ?_
  unfold da
  refine Tab_open fun s => ?_
  (repeat (first | with_reducible refine T_nn ?_ | ((with_reducible apply T_ldS); (focus rfl); (focus exact hasA); (focus rfl)) | (with_reducible refine T_al ?_; intro _)))
  rename_i b
  refine T_vlen (E := 143) (sz := 3) (s := s) (vs := hds hs) (.init (.init .last)) fun hn => ?_
  rw [hds_len] at hn
  refine T_vecN (E := 143) (sz := 3) (s := ⟨some ⟨b, 0, none⟩, 0, 0⟩) rfl rfl ?_
  refine T_append (s := ⟨some ⟨b, 0, none⟩, 0, 0⟩) kd_hd (Rd.vec (E := 143) (s := s) (.init (.init .last))) (hds_scal hs) (by simp; omega) fun s' => ?_
  rw [List.nil_append]
  refine T_drop1 (.init .last) ?_
  have := hk s'
  refine T_bring (X := vec 143 3 s (hds hs)) (.init (.init .last)) ?_
  refine T_bring (X := pt a (.cells [.pointer (da d), .int .i64 g, s.v].toArray 125)) (.init (.init .last)) ?_
  refine Tab_close ?_
  refine T.perm ?_ this
  ac_rfl
end
theorem splice_snoc {α : Type} {l new : List α} {o : Nat} {x : α} (h : o + new.length < l.length) : splice l o (new ++ [x]) = (splice l o new).set (o + new.length) x := by
  unfold splice
  have e : (l.take o ++ new).length = o + new.length := by simp; omega
  rw [List.set_append_right _ _ (by omega), e, Nat.sub_self, List.drop_eq_getElem_cons h, List.set_cons_zero]
  simp [Nat.add_assoc]
section
variable {B : World} {P R : SL} {t : K}
theorem blocks_Put_c {a d n g b : Nat} {c la : List Int} {hs xs : List Hd} {x : Sl} (hg : 2 ≤ g) (hg2 : g ≤ 2 ^ 20) (hn : n = 64 * g) (hl : hs.length = g) (hb : 1 ≤ b) (hbx : b + xs.length ≤ g) (hne : xs ≠ []) (hr : ∀ h ∈ xs, hRight h)
    (hx : Rd R x 3 (hds xs)) {k : Int → K}
    (hk : ∀ la', Pst n ((256 + (b : Int)) / 8).toNat (((256 + (b : Int)) + xs.length - 1) / 8 + 1).toNat (wrH c b xs) la la' → T B (R * LDev d n (wrH c b xs) la' * Tab a d g (splice hs b xs)) (k 0)) :
    T B (R * LDev d n c la * Tab a d g hs) (c_blocks_Table_Put (da a) b x k) := by
  refine T_of (blocks_Table_Put_ok _ b x k) ?_
  refine T_rdlen (hx.init.init) fun hxn => ?_
  rw [hds_len] at hxn
  have hxn' : x.n = xs.length := by omega
  have hpos : 0 < xs.length := List.length_pos_iff.2 hne
  unfold da
  (repeat' (first | with_reducible refine T_nn ?_ | with_reducible refine T_brT ?_ | with_reducible refine T_brD (fun _ => ?_) (fun _ => ?_)))
  · exfalso; omega
  refine Tab_open fun s => ?_
  (repeat (((with_reducible apply T_ldS); (focus rfl); (focus exact hasA); (focus rfl))))
  refine T_vlen (E := 143) (sz := 3) (s := s) (vs := hds hs) (.init .last) fun hsn => ?_
  rw [hds_len] at hsn
  (repeat' (first | with_reducible refine T_nn ?_ | with_reducible refine T_brT ?_ | ((with_reducible apply T_ldS); (focus rfl); (focus exact hasA); (focus rfl)) | with_reducible refine T_brD (fun _ => ?_) (fun _ => ?_)))
  · exfalso; omega
  · rename_i h; exfalso; rw [w64 (by omega) (by omega)] at h; omega
  refine Tab_close ?_
  refine T_lpX (fun _ s => R * LDev d n c la * Tab a d g hs) (fun m (s : Int × Unit) => ∃ i : Nat, i ≤ xs.length ∧ s.1 = i ∧ m = xs.length - i) xs.length rfl ⟨0, by omega, rfl, by omega⟩ ?_
  rintro m ⟨s1, u⟩ cc ⟨i, h1, h2, h3⟩ hc
  simp only at h2
  subst h2 h3
  (repeat' (first | with_reducible refine T_brD (fun _ => ?_) (fun _ => ?_) | with_reducible refine T_brE (fun _ => ?_) (fun _ => ?_)))
  · rename_i hlt
    have hlt' : i < xs.length := by omega
    refine T_ixH (l := xs) hx.init.init (by omega) (by rw [Int.toNat_natCast]; exact hlt') fun y hy => ?_
    refine T_ldAt hy rfl ?_
    refine T_ldAt hy rfl ?_
    refine T_ldAt hy rfl ?_
    (repeat (first | ((with_reducible apply T_ldI); (focus rfl); (focus exact hasA); (focus rfl)) | (with_reducible refine T_al ?_; intro _) | ((with_reducible apply T_st); (focus rfl); (focus exact updA); (focus simp); simp only [List.set, Nat.zero_add, Nat.reduceAdd])))
    refine bhead_Right_c ?_
    have hrx : hRight (xs[i].1, xs[i].2.1, xs[i].2.2) := hr xs[i] (List.getElem_mem hlt')
    (repeat' (first | with_reducible refine T_brD (fun _ => ?_) (fun _ => ?_) | with_reducible refine T_brN ?_))
    · refine T_drop1 .last ?_
      exact hc (xs.length - (i + 1)) (IntKind.wrap .i64 ((i : Int) + 1), ()) (by omega) ⟨i + 1, by omega, w64 (by omega) (by omega), rfl⟩
    · rename_i h; exact absurd hrx h
  · exfalso; omega
  clear hc
  refine T_lpX (fun _ s => R * LDev d n (wrH c b (xs.take s.1.toNat)) la * Tab a d g (splice hs b (xs.take s.1.toNat))) (fun m (s : Int × Unit) => ∃ i : Nat, i ≤ xs.length ∧ s.1 = i ∧ m = xs.length - i) xs.length (by simp [wrH, splice_nil, splice]) ⟨0, by omega, rfl, by omega⟩ ?_
  rintro m ⟨s1, u⟩ cc ⟨i, h1, h2, h3⟩ hc
  simp only at h2
  subst h2 h3
  simp only [Int.toNat_natCast]
  (repeat' (first | with_reducible refine T_nn ?_ | with_reducible refine T_tick ?_ | with_reducible refine T_brD (fun _ => ?_) (fun _ => ?_)))
  · rename_i hlt
    have hlt' : i < xs.length := by omega
    refine T_ixH (l := xs) hx.init.init (by omega) (by rw [Int.toNat_natCast]; exact hlt') fun y hy => ?_
    refine T_ldAt hy rfl ?_
    refine T_ldAt hy rfl ?_
    refine T_ldAt hy rfl ?_
    (repeat (first | with_reducible refine T_nn ?_ | with_reducible refine T_tick ?_ | (with_reducible refine T_al ?_; intro _) | ((with_reducible apply T_st); (focus rfl); (focus exact updA); (focus simp); simp only [List.set, Nat.zero_add, Nat.reduceAdd])))
    rename_i bb
    refine T_bring (X := Tab a d g (splice hs b (xs.take i))) (.init .last) ?_
    refine Tab_open fun s => ?_
    (repeat (first | with_reducible refine T_nn ?_ | ((with_reducible apply T_ldI); (focus rfl); (focus exact hasA); (focus rfl)) | ((with_reducible apply T_ldP); (focus rfl); (focus exact hasA); (focus rfl))))
    have e1 : IntKind.wrap .i64 ((b : Int) + i) = ((b + i : Nat) : Int) := by rw [w64 (by omega) (by omega)]; omega
    simp only [Int.toNat_natCast]
    (dsimp only [blocks_Table_Put, Zcx0, Zcx1, Zcx2, Zcx3, Zcx4, Zcx5, Zcx6, Zcx7, Zcx8, Zcx9, Zcx10, Zcx11, Zcx12, Zcx13, Zcx14, Zcx15, Zcx16, Zcx17, Zcx18, Zcx19, Zcx20, Zcx21, Zcx22])
    rw [e1]
    refine geom_Header_c (by omega) ?_
    have hh : header g ((b + i : Nat) : Int) = 256 + (b + i : Nat) := by unfold header; rw [if_neg (by omega)]
    rw [hh]
    (repeat (first | with_reducible refine T_chk0 ?_ | ((with_reducible apply T_chk); (focus rfl); (focus exact hasA); (focus rfl))))
    refine bhead_Encode_c (by omega) (by omega) ?_
    (repeat (first | with_reducible refine T_chk0 ?_ | ((with_reducible apply T_chk); (focus rfl); (focus exact hasA); (focus rfl))))
    refine T_bring (X := LDev d n (wrH c b (xs.take i)) la) (.init (.init (.init .last))) ?_
    refine LStore_c (by omega) (by omega) ?_
    (repeat' (first | with_reducible refine T_nn ?_ | with_reducible refine T_tick ?_ | ((with_reducible apply T_ldI); (focus rfl); (focus exact hasA); (focus rfl)) | ((with_reducible apply T_ldS); (focus rfl); (focus exact hasA); (focus rfl)) | with_reducible refine T_brNE (fun _ => ?_) (fun _ => ?_)))
    · rename_i h; exact absurd rfl h
    refine T_stH (i := ((b + i : Nat) : Int)) (x := xs[i]) (s := s) (l := splice hs b (xs.take i)) (.init (.init .last)) (by omega) (by rw [splice_length (by simp; omega)]; omega) ?_
    have hx' := hc (xs.length - (i + 1)) (IntKind.wrap .i64 ((i : Int) + 1), ()) (by omega) ⟨i + 1, by omega, w64 (by omega) (by omega), rfl⟩
    have e : (IntKind.wrap .i64 ((i : Int) + 1)).toNat = i + 1 := by rw [w64 (by omega) (by omega)]; omega
    simp only [e] at hx'
    rw [List.take_succ_eq_append_getElem hlt', wrH_snoc] at hx'
    have e2 : (xs.take i).length = i := by simp; omega
    rw [e2] at hx'
    have e3 : (256 + ((b + i : Nat) : Int)).toNat = 256 + (b + i) := by omega
    have e4 : (splice hs b (xs.take i)).set ((b + i : Nat) : Int).toNat xs[i] = splice hs b (xs.take i ++ [xs[i]]) := by
      rw [Int.toNat_natCast, splice_snoc (by omega), e2]
    rw [e3, e4]
    refine T_drop1 (.init (.init (.init .last))) ?_
    refine T.perm ?_ (Tab_close (R := R * LDev d n ((wrH c b (xs.take i)).set (256 + (b + i)) (benc ((b + i : Nat) : Int) xs[i])) la) (s := s) hx')
    ac_rfl
  · rename_i hge
    have hi : i = xs.length := by omega
    subst hi
    rw [List.take_length]
    refine Tab_open fun s => ?_
    (repeat (first | with_reducible refine T_nn ?_ | ((with_reducible apply T_ldI); (focus rfl); (focus exact hasA); (focus rfl)) | ((with_reducible apply T_ldP); (focus rfl); (focus exact hasA); (focus rfl))))
    refine geom_Header_c (by omega) ?_
    have hh : header g (b : Int) = 256 + b := by unfold header; rw [if_neg (by omega)]
    rw [hh]
    (repeat (first | with_reducible refine T_chk0 ?_ | ((with_reducible apply T_chk); (focus rfl); (focus exact hasA); (focus rfl))))
    refine T_bring (X := LDev d n (wrH c b xs) la) (.init (.init .last)) ?_
    rw [hxn']
    refine LPersist_c (by omega) (by omega) (by omega) fun la' hp => ?_
    refine T.perm ?_ (Tab_close (s := s) (hk la' hp))
    ac_rfl
end
abbrev Pr := Int × Int
def spStep (out : List Pr) (b : Nat) (h : Hd) : List Pr :=
  if h.1 ≠ 0 then out else if 0 < out.length ∧ (out.getD (out.length - 1) (0, 0)).1 + (out.getD (out.length - 1) (0, 0)).2 = b then out.set (out.length - 1) ((out.getD (out.length - 1) (0, 0)).1, (out.getD (out.length - 1) (0, 0)).2 + 1) else out ++ [((b : Int), 1)]
/-- spans of the blocks from 1 up to one -/
def spS (hs : List Hd) : Nat → List Pr
  | 0 => []
  | 1 => []
  | b + 2 => spStep (spS hs (b + 1)) (b + 1) (hs.getD (b + 1) (0, 0, 0))
theorem spS_succ (hs : List Hd) {b : Nat} (h : 1 ≤ b) : spS hs (b + 1) = spStep (spS hs b) b (hs.getD b (0, 0, 0)) := by
  obtain ⟨c, rfl⟩ : ∃ c, b = c + 1 := ⟨b - 1, by omega⟩
  rfl
theorem getD_mem {α : Type} {l : List α} {i : Nat} {d : α} (h : i < l.length) : l.getD i d ∈ l := by
  rw [List.getD_eq_getElem?_getD, List.getElem?_eq_getElem h]; exact List.getElem_mem h
theorem spS_rng (hs : List Hd) : ∀ b, 1 ≤ b → (spS hs b).length ≤ b - 1 ∧ ∀ p ∈ spS hs b, 1 ≤ p.1 ∧ 1 ≤ p.2 ∧ p.1 + p.2 ≤ b := by
  intro b hb
  induction b with
  | zero => omega
  | succ b ih =>
    by_cases h1 : b = 0
    · subst h1; exact ⟨by simp [spS], fun p hp => by simp [spS] at hp⟩
    · obtain ⟨i1, i2⟩ := ih (by omega)
      rw [spS_succ hs (by omega)]
      unfold spStep
      split
      · exact ⟨by omega, fun p hp => by have := i2 p hp; omega⟩
      · split
        · rename_i hc
          have hm := i2 _ (getD_mem (d := (0, 0)) (show (spS hs b).length - 1 < (spS hs b).length by omega))
          refine ⟨by rw [List.length_set]; omega, fun p hp => ?_⟩
          rcases List.mem_or_eq_of_mem_set hp with hp | rfl
          · have := i2 p hp; omega
          · simp only; omega
        · refine ⟨by simp; omega, fun p hp => ?_⟩
          rcases List.mem_append.1 hp with hp | hp
          · have := i2 p hp; omega
          · simp only [List.mem_singleton] at hp; subst hp; simp only; omega
section
variable {B : World} {P R : SL} {t : K}
theorem T_app1b {Pg : Program} {Tid E : TypeId} {sz ty b : Nat} (hK : Kd Pg Tid E sz) {s : Sl} {vs new : List Value} {k : Sl → K} {E' : TypeId} (hn : new.length = sz) (hsc : new.all scal = true)
    (hlen : vs.length / sz + 1 ≤ 2 ^ 40) (hk : ∀ s', T B (R * vec E sz s' (vs ++ new)) (k s')) :
    T B (R * vec E sz s vs * pt b (.cells new.toArray E')) (semT Pg (Builtin.append_ #[Tid, Tid] ty #[s.v, .slice (some ⟨b, 0, none⟩) 1 1]) (.one (.sc .slice)) k) := by
  refine T_bring (X := vec E sz s vs) (.init .last) ?_
  refine T_append (x := ⟨some ⟨b, 0, none⟩, 1, 1⟩) (new := new) hK (Rd.one Has.last (by rw [hn]; simp) (Nat.le_refl _)) hsc hlen fun s' => ?_
  exact T_dropM (hk s')
theorem blocks_Spans_c {hs : List Hd} {x : Sl} (hl : 1 ≤ hs.length) (hl2 : hs.length ≤ 2 ^ 20) (hx : Rd R x 3 (hds hs)) {k : Sl → K} (hk : ∀ s, T B (R * vec 152 2 s (prs (spS hs hs.length))) (k s)) : T B R (c_blocks_Spans x k) := by
  refine T_of (blocks_Spans_ok x k) ?_
  refine T_rdlen hx fun hxn => ?_
  rw [hds_len] at hxn
  refine T_vecN (E := 152) (sz := 2) (s := ⟨none, 0, 0⟩) rfl rfl ?_
  refine T_lpX (fun _ s => R * vec 152 2 s.1 (prs (spS hs s.2.1.toNat))) (fun m (s : Sl × Int × Unit) => ∃ i : Nat, 1 ≤ i ∧ i ≤ hs.length ∧ s.2.1 = i ∧ m = hs.length - i) (hs.length - 1) rfl ⟨1, by omega, by omega, rfl, rfl⟩ ?_
  rintro m ⟨out, s1, u⟩ cc ⟨i, h0, h1, h2, h3⟩ hc
  simp only at h2
  subst h2 h3
  simp only [Int.toNat_natCast]
  refine T_vlen .last fun hout => ?_
  rw [prs_len] at hout
  obtain ⟨r1, r2⟩ := spS_rng hs i h0
  (repeat' (with_reducible refine T_brD (fun _ => ?_) (fun _ => ?_)))
  · rename_i hlt
    have hlt' : i < hs.length := by omega
    have hnext : ∀ s', T B (R * vec 152 2 s' (prs (spStep (spS hs i) i hs[i]))) (cc (s', IntKind.wrap .i64 ((i : Int) + 1), ())) := by
      intro s'
      have := hc (hs.length - (i + 1)) (s', IntKind.wrap .i64 ((i : Int) + 1), ()) (by omega) ⟨i + 1, by omega, by omega, w64 (by omega) (by omega), rfl⟩
      have e : (IntKind.wrap .i64 ((i : Int) + 1)).toNat = i + 1 := by rw [w64 (by omega) (by omega)]; omega
      simp only [e] at this
      rw [spS_succ hs h0, List.getD_eq_getElem?_getD, List.getElem?_eq_getElem hlt'] at this
      exact this
    refine T_ixH (l := hs) hx.init (by omega) (by rw [Int.toNat_natCast]; exact hlt') fun y hy => ?_
    refine T_ldAt hy rfl ?_
    simp only [Int.toNat_natCast]
    generalize spS hs i = o at *
    unfold spStep at hnext
    (repeat' (first | with_reducible refine T_tick ?_ | with_reducible refine T_brF ?_ | (with_reducible refine T_al ?_; intro _) | with_reducible refine T_brD (fun _ => ?_) (fun _ => ?_) | with_reducible refine T_brNE (fun _ => ?_) (fun _ => ?_)))
    · rename_i hne
      rw [if_pos hne] at hnext
      exact hnext out
    · rename_i heq hpos
      rw [if_neg (by omega)] at hnext
      have hol : 0 < o.length := by omega
      have hix : o.length - 1 < o.length := by omega
      have e1 : IntKind.wrap .i64 (((out.n : Nat) : Int) - 1) = ((o.length - 1 : Nat) : Int) := by rw [w64 (by omega) (by omega)]; omega
      (dsimp only [blocks_Spans, Zea0, Zea1, Zea2, Zea3, Zea4, Zea5, Zea6, Zea7, Zea8, Zea9, Zea10, Zea11, Zea12])
      rw [e1]
      have hm := r2 _ (List.getElem_mem hix)
      rw [List.getD_eq_getElem?_getD, List.getElem?_eq_getElem hix, Option.getD_some] at hnext
      refine T_ixP (l := o) (Rd.vec .last) (by omega) (by rw [Int.toNat_natCast]; exact hix) fun z hz => ?_
      simp only [Int.toNat_natCast] at hz
      refine T_ldAt hz rfl ?_
      refine T_ixP (l := o) (Rd.vec .last) (by omega) (by rw [Int.toNat_natCast]; exact hix) fun z2 hz2 => ?_
      simp only [Int.toNat_natCast] at hz2
      refine T_ldAt hz2 rfl ?_
      rw [w64 (by omega) (by omega)]
      (repeat' (first | (with_reducible refine T_al ?_; intro _) | with_reducible refine T_brE (fun _ => ?_) (fun _ => ?_)))
      · rename_i hj
        rw [if_pos ⟨hol, hj⟩] at hnext
        refine T_ixP (l := o) (Rd.vec .last) (by omega) (by rw [Int.toNat_natCast]; exact hix) fun z3 hz3 => ?_
        simp only [Int.toNat_natCast] at hz3
        refine T_ldAt hz3 rfl ?_
        rw [w64 (by omega) (by omega)]
        refine T_stP1 (l := o) .last (by omega) (by rw [Int.toNat_natCast]; exact hix) ?_
        simp only [Int.toNat_natCast]
        exact hnext out
      · rename_i hj _
        rw [if_neg (fun h => hj h.2)] at hnext
        refine T_app1b (vs := prs o) (new := [.int .i64 i, .int .i64 1]) kd_sp rfl rfl (by rw [prs_len]; omega) fun s' => ?_
        have := hnext s'
        rw [prs_append] at this
        exact this
    · rename_i heq hpos _
      rw [if_neg (by omega), if_neg (by omega)] at hnext
      refine T_app1b (vs := prs o) (new := [.int .i64 i, .int .i64 1]) kd_sp rfl rfl (by rw [prs_len]; omega) fun s' => ?_
      have := hnext s'
      rw [prs_append] at this
      exact this
  · rename_i hge
    have hi : i = hs.length := by omega
    subst hi
    exact hk out
theorem blocks_TSpans_c {a d : Nat} {g : Int} {hs : List Hd} (hl : 1 ≤ hs.length) (hl2 : hs.length ≤ 2 ^ 20) {k : Sl → K} (hk : ∀ s, T B (R * Tab a d g hs * vec 152 2 s (prs (spS hs hs.length))) (k s)) : T B (R * Tab a d g hs) (c_blocks_Table_Spans (da a) k) := by
  refine T_of (blocks_Table_Spans_ok _ k) ?_
  unfold da
  refine Tab_open fun s => ?_
  (repeat (first | with_reducible refine T_nn ?_ | ((with_reducible apply T_ldS); (focus rfl); (focus exact hasA); (focus rfl))))
  refine blocks_Spans_c hl hl2 (Rd.vec (E := 143) (s := s) (.init .last)) fun s' => ?_
  refine T_bring (X := vec 143 3 s (hds hs)) (.init (.init .last)) ?_
  refine T_bring (X := pt a (.cells [.pointer (da d), .int .i64 g, s.v].toArray 125)) (.init (.init .last)) ?_
  refine Tab_close ?_
  refine T.perm ?_ (hk s')
  ac_rfl
end
section
set_option maxRecDepth 100000
abbrev Zeb0 (k : (Bool → K)) (x0 : Bool) : K :=
  k x0
abbrev Zeb1 (k : (Bool → K)) (r : Addr) (at_1 : Int) (e : Int) : K :=
  brK (e == 0)
  (brK (at_1 == 0)
  (ldI .i64 (r.add 0) fun x26_0 =>
  ldI .i64 (r.add 1) fun x26_1 =>
  ldI .i64 (r.add 2) fun x26_2 =>
  ldI .i64 (r.add 3) fun x26_3 =>
  ldI .i64 (r.add 4) fun x26_4 =>
  ldI .i64 (r.add 5) fun x26_5 =>
  ldI .i64 (r.add 6) fun x26_6 =>
  Zeb0 k ((x26_0 == 3) && ((x26_1 == 0) && ((x26_2 == 0) && ((x26_3 == 0) && ((x26_4 == 0) && ((x26_5 == 0) && ((x26_6 == 0) && true))))))))
  (Zeb0 k false))
  (Zeb0 k false)
abbrev Zeb2 (k : (Bool → K)) (w_1 : Addr) : K :=
  ldP (w_1.add 0) fun x14 =>
  c_check_Whole x14 fun x15 =>
  alK (.cells #[.int .i64 0, .int .i64 0, .int .i64 0, .int .i64 0, .int .i64 0, .int .i64 0, .int .i64 0] 93) fun b =>
  stK (Addr.add ⟨b, 0, none⟩ 0) (.int .i64 x15.1.1) <|
  stK (Addr.add ⟨b, 0, none⟩ 1) (.int .i64 x15.1.2.1) <|
  stK (Addr.add ⟨b, 0, none⟩ 2) (.int .i64 x15.1.2.2.1) <|
  stK (Addr.add ⟨b, 0, none⟩ 3) (.int .i64 x15.1.2.2.2.1) <|
  stK (Addr.add ⟨b, 0, none⟩ 4) (.int .i64 x15.1.2.2.2.2.1) <|
  stK (Addr.add ⟨b, 0, none⟩ 5) (.int .i64 x15.1.2.2.2.2.2.1) <|
  stK (Addr.add ⟨b, 0, none⟩ 6) (.int .i64 x15.1.2.2.2.2.2.2) <|
  Zeb1 k ⟨b, 0, none⟩ x15.2.1 x15.2.2
abbrev Zeb3 (k : (Bool → K)) (x0_1 : Bool) : K :=
  k x0_1
abbrev Zeb4 (k : (Bool → K)) (w_1 : Addr) (x11 : Bool) : K :=
  brK x11
  (Zeb3 k false)
  (Zeb2 k w_1)
abbrev Zeb5 (k : (Bool → K)) (w_1 : Addr) (ok : Bool) : K :=
  Zeb4 k w_1 (!ok)
abbrev Zeb6 (k : (Bool → K)) : K :=
  c_law20_Begun 4 fun x7 =>
  alK (.cells #[.pointer none, .pointer none, .slice none 0 0] 29) fun b_1 =>
  stK (Addr.add ⟨b_1, 0, none⟩ 0) (.pointer x7.1.1) <|
  stK (Addr.add ⟨b_1, 0, none⟩ 1) (.pointer x7.1.2.1) <|
  stK (Addr.add ⟨b_1, 0, none⟩ 2) (x7.1.2.2.v) <|
  Zeb5 k ⟨b_1, 0, none⟩ x7.2
abbrev law28_awake : M Bool := fun k =>
  Zeb6 k
theorem law28_awake_ok (k : Bool → K) (w : World) (hyp_ : law28_awake k w) : c_law28_awake k w :=
  cl_of (P := Tryz.prog) Tryz.func45 rfl (by kernel_rfl)
  (Qs [] [] (fun z_ => Zeb6 k)
  Qz
  (fun _ => Qs [(1, .addr), (2, .bool)] [] (fun z_ => Zeb5 k z_.1 z_.2.1)
  Qz
  (fun ⟨w_1, ok, _⟩ => Qs [] [1] (fun z_ => Zeb2 k w_1)
  (Qs [(11, .bool)] [1] (fun z_ => Zeb4 k w_1 z_.1)
  Qz
  (fun ⟨x11, _⟩ => Qc (x11) (Zeb3 k false) (Zeb2 k w_1) (Qs [(0, .bool)] [] (fun z_ => Zeb3 k z_.1)
  Qz
  (fun ⟨x0_1, _⟩ => Qr)) Qk))
  (fun _ => Qs [(3, .addr), (4, .int .i64), (5, .int .i64)] [] (fun z_ => Zeb1 k z_.1 z_.2.1 z_.2.2.1)
  Qz
  (fun ⟨r, at_1, e, _⟩ => Qs [(0, .bool)] [] (fun z_ => Zeb0 k z_.1)
  (Qp [2, 6])
  (fun ⟨x0, _⟩ => Qr)))))) hyp_
abbrev Zec0 (k : (((OA × (OA × Sl)) × Bool) → K)) (x4 : Addr) (x5 : Bool) : K :=
  ldP (x4.add 0) fun x4_0 =>
  ldP (x4.add 1) fun x4_1 =>
  ldS (x4.add 2) fun x4_2 =>
  k ((x4_0, (x4_1, x4_2)), x5)
abbrev Zec1 (k : (((OA × (OA × Sl)) × Bool) → K)) (x4 : Addr) (x6 : Addr) (x7 : Bool) : K :=
  ldP (x6.add 0) fun x86_0 =>
  ldP (x6.add 1) fun x86_1 =>
  ldS (x6.add 2) fun x86_2 =>
  stK (x4.add 0) (.pointer x86_0) <|
  stK (x4.add 1) (.pointer x86_1) <|
  stK (x4.add 2) (x86_2.v) <|
  Zec0 k x4 x7
abbrev Zec2 (x6 : Addr) (x8_1 : Int) (c : ((Int × Unit) → K)) (x9 : Addr) (x10 : Sl) : K :=
  tick fun _ =>
  ldP (x6.add 0) fun x67 =>
  ldI .i64 (x9.add 1) fun x69 =>
  ldI .i64 (x9.add 2) fun x72 =>
  nz ((x10.n : Nat) : Int) <|
  ixS x10.p x10.n (Int.tmod x72 ((x10.n : Nat) : Int)) 1 fun x76 =>
  ldI .i64 x76 fun x77 =>
  c_alloc_Allocator_Free x67 x69 x77 fun x78 =>
  c ((IntKind.wrap .i64 (x8_1 + 1)), ())
abbrev Zec3 (x6 : Addr) (x8_1 : Int) (c : ((Int × Unit) → K)) (x9 : Addr) (x10 : Sl) (x65 : Bool) : K :=
  brK x65
  (Zec2 x6 x8_1 c x9 x10)
  (c ((IntKind.wrap .i64 (x8_1 + 1)), ()))
abbrev Zec4 (x6 : Addr) (x8_1 : Int) (c : ((Int × Unit) → K)) (x9 : Addr) : K :=
  ldP (x6.add 0) fun x82 =>
  ldI .i64 (x9.add 2) fun x84 =>
  c_alloc_Allocator_Trim x82 x84 fun x85 =>
  c ((IntKind.wrap .i64 (x8_1 + 1)), ())
abbrev Zec5 (x6 : Addr) (x8_1 : Int) (c : ((Int × Unit) → K)) (x9 : Addr) (x79 : Bool) : K :=
  brK x79
  (Zec4 x6 x8_1 c x9)
  (c ((IntKind.wrap .i64 (x8_1 + 1)), ()))
abbrev Zec6 (x6 : Addr) (x8_1 : Int) (c : ((Int × Unit) → K)) (x9 : Addr) (x10 : Sl) : K :=
  brK (decide (((x10.n : Nat) : Int) > 0))
  (ldI .i64 (x9.add 2) fun x63 =>
  Zec3 x6 x8_1 c x9 x10 (decide (x63 ≥ 0)))
  (Zec3 x6 x8_1 c x9 x10 false)
abbrev Zec7 (x6 : Addr) (x8_1 : Int) (c : ((Int × Unit) → K)) (x9 : Addr) (x10 : Sl) (x40 : Int) (x56 : Bool) : K :=
  brK x56
  (Zec6 x6 x8_1 c x9 x10)
  (Zec5 x6 x8_1 c x9 (x40 == 2))
abbrev Zec8 (x6 : Addr) (x8_1 : Int) (c : ((Int × Unit) → K)) (x9 : Addr) : K :=
  ldP (x6.add 0) fun x44 =>
  ldI .i64 (x9.add 1) fun x46 =>
  ldI .i64 (x9.add 2) fun x48 =>
  ldI .i64 (x9.add 3) fun x52 =>
  c_alloc_Allocator_Alloc x44 x46 (min2I (max2I x48 0) 63) (min2I (max2I x52 0) 1500) fun x55 =>
  c ((IntKind.wrap .i64 (x8_1 + 1)), ())
abbrev Zec9 (x6 : Addr) (x8_1 : Int) (c : ((Int × Unit) → K)) (x9 : Addr) (x10 : Sl) (x40 : Int) (x41 : Bool) : K :=
  brK x41
  (Zec8 x6 x8_1 c x9)
  (Zec7 x6 x8_1 c x9 x10 x40 (x40 == 1))
abbrev Zec10 (x6 : Addr) (x8_1 : Int) (c : ((Int × Unit) → K)) (x9 : Addr) (x10 : Sl) (x40 : Int) : K :=
  Zec9 x6 x8_1 c x9 x10 x40 (x40 == 0)
abbrev Zec11 (x6 : Addr) (x8_1 : Int) (c : ((Int × Unit) → K)) (x9 : Addr) (x10 : Sl) : K :=
  ldI .i64 (x9.add 0) fun x40_1 =>
  Zec10 x6 x8_1 c x9 x10 x40_1
abbrev Zec12 (x6 : Addr) (x8_1 : Int) (c : ((Int × Unit) → K)) (x9 : Addr) : K :=
  ldP (x6.add 0) fun x37 =>
  c_alloc_Allocator_Objects x37 fun x38 =>
  Zec11 x6 x8_1 c x9 x38
abbrev Zec13 (x1 : Sl) (x6 : Addr) (x8_1 : Int) (c : ((Int × Unit) → K)) : K :=
  ixS x1.p x1.n x8_1 4 fun x34 =>
  ldI .i64 (x34.add 0) fun x35_0 =>
  ldI .i64 (x34.add 1) fun x35_1 =>
  ldI .i64 (x34.add 2) fun x35_2 =>
  ldI .i64 (x34.add 3) fun x35_3 =>
  alK (.cells #[.int .i64 0, .int .i64 0, .int .i64 0, .int .i64 0] 137) fun b =>
  stK (Addr.add ⟨b, 0, none⟩ 0) (.int .i64 x35_0) <|
  stK (Addr.add ⟨b, 0, none⟩ 1) (.int .i64 x35_1) <|
  stK (Addr.add ⟨b, 0, none⟩ 2) (.int .i64 x35_2) <|
  stK (Addr.add ⟨b, 0, none⟩ 3) (.int .i64 x35_3) <|
  Zec12 x6 x8_1 c ⟨b, 0, none⟩
abbrev Zec14 (x1 : Sl) (k : (((OA × (OA × Sl)) × Bool) → K)) (x4 : Addr) (x6 : Addr) (x7 : Bool) (x8_1 : Int) (c : ((Int × Unit) → K)) (x29 : Bool) : K :=
  brK x29
  (Zec13 x1 x6 x8_1 c)
  (Zec1 k x4 x6 x7)
abbrev Zec15 (x1 : Sl) (k : (((OA × (OA × Sl)) × Bool) → K)) (x4 : Addr) (x6 : Addr) (x7 : Bool) (x8_1 : Int) (c : ((Int × Unit) → K)) : K :=
  brK x7
  (brK (decide (x8_1 < ((x1.n : Nat) : Int)))
  (Zec14 x1 k x4 x6 x7 x8_1 c (decide (x8_1 < 50)))
  (Zec14 x1 k x4 x6 x7 x8_1 c false))
  (Zec14 x1 k x4 x6 x7 x8_1 c false)
abbrev Zec16 (x1 : Sl) (k : (((OA × (OA × Sl)) × Bool) → K)) (x4 : Addr) (x6 : Addr) (x7 : Bool) (x8 : Int) : K :=
  lp (fun (z_ : (Int × Unit)) c_ => Zec15 x1 k x4 x6 x7 z_.1 c_) (x8, ())
abbrev Zec17 (x1 : Sl) (k : (((OA × (OA × Sl)) × Bool) → K)) (x4 : Addr) (x6 : Addr) (x7 : Bool) : K :=
  Zec16 x1 k x4 x6 x7 0
abbrev Zec18 (x0 : Int) (x1 : Sl) (k : (((OA × (OA × Sl)) × Bool) → K)) (x4 : Addr) : K :=
  c_law20_Begun (IntKind.wrap .i64 (2 + (IntKind.wrap .i64 (Int.tmod x0 7)))) fun x16 =>
  alK (.cells #[.pointer none, .pointer none, .slice none 0 0] 29) fun b_1 =>
  stK (Addr.add ⟨b_1, 0, none⟩ 0) (.pointer x16.1.1) <|
  stK (Addr.add ⟨b_1, 0, none⟩ 1) (.pointer x16.1.2.1) <|
  stK (Addr.add ⟨b_1, 0, none⟩ 2) (x16.1.2.2.v) <|
  Zec17 x1 k x4 ⟨b_1, 0, none⟩ x16.2
abbrev law28_played (x0 : Int) (x1 : Sl) : M ((OA × (OA × Sl)) × Bool) := fun k =>
  alK (.cells #[.pointer none, .pointer none, .slice none 0 0] 29) fun b_2 =>
  Zec18 x0 x1 k ⟨b_2, 0, none⟩
theorem law28_played_ok (x0 : Int) (x1 : Sl) (k : ((OA × (OA × Sl)) × Bool) → K) (w : World) (hyp_ : law28_played x0 x1 k w) : c_law28_played x0 x1 k w :=
  cl_of (P := Tryz.prog) Tryz.func46 rfl (by kernel_rfl)
  (Qs [(4, .addr)] [0, 1] (fun z_ => Zec18 x0 x1 k z_.1)
  Qz
  (fun ⟨x4, _⟩ => Qs [(6, .addr), (7, .bool)] [1, 4] (fun z_ => Zec17 x1 k x4 z_.1 z_.2.1)
  Qz
  (fun ⟨x6, x7, _⟩ => Qs [] [4, 6, 7] (fun z_ => Zec1 k x4 x6 x7)
  (Qs [(8, .int .i64)] [1, 4, 6, 7] (fun z_ => Zec16 x1 k x4 x6 x7 z_.1)
  Qz
  (fun ⟨x8, _⟩ => Qb (Ql [(8, .int .i64)] [1, 4, 6, 7] (fun (z_ : (Int × Unit)) c_ => Zec15 x1 k x4 x6 x7 z_.1 c_) (x8, ())
  (fun ⟨x8_1, _⟩ c => Qs [] [1, 4, 6, 7, 8] (fun z_ => Zec13 x1 x6 x8_1 c)
  (Qs [(29, .bool)] [1, 4, 6, 7, 8] (fun z_ => Zec14 x1 k x4 x6 x7 x8_1 c z_.1)
  (Qp [1, 7])
  (fun ⟨x29, _⟩ => Qc (x29) (Zec13 x1 x6 x8_1 c) (Zec1 k x4 x6 x7) Qk Qx))
  (fun _ => Qs [] [1, 4, 6, 7, 8] (fun z_ => c ((IntKind.wrap .i64 (x8_1 + 1)), ()))
  (Qb (Qs [(9, .addr)] [1, 4, 6, 7, 8] (fun z_ => Zec12 x6 x8_1 c z_.1)
  Qz
  (fun ⟨x9, _⟩ => Qs [(10, .slice)] [1, 4, 6, 7, 8, 9] (fun z_ => Zec11 x6 x8_1 c x9 z_.1)
  Qz
  (fun ⟨x10, _⟩ => Qs [(40, .int .i64)] [1, 4, 6, 7, 8, 9, 10] (fun z_ => Zec10 x6 x8_1 c x9 x10 z_.1)
  Qz
  (fun ⟨x40, _⟩ => Qb (Qs [(41, .bool)] [1, 4, 6, 7, 8, 9, 10, 40] (fun z_ => Zec9 x6 x8_1 c x9 x10 x40 z_.1)
  Qz
  (fun ⟨x41, _⟩ => Qc (x41) (Zec8 x6 x8_1 c x9) (Zec7 x6 x8_1 c x9 x10 x40 (x40 == 1)) Qz (Qs [(56, .bool)] [1, 4, 6, 7, 8, 9, 10, 40] (fun z_ => Zec7 x6 x8_1 c x9 x10 x40 z_.1)
  Qz
  (fun ⟨x56, _⟩ => Qc (x56) (Zec6 x6 x8_1 c x9 x10) (Zec5 x6 x8_1 c x9 (x40 == 2)) (Qs [(65, .bool)] [1, 4, 6, 7, 8, 9, 10] (fun z_ => Zec3 x6 x8_1 c x9 x10 z_.1)
  (Qp [3])
  (fun ⟨x65, _⟩ => Qc (x65) (Zec2 x6 x8_1 c x9 x10) (c ((IntKind.wrap .i64 (x8_1 + 1)), ())) (RefK.draw [] [0, 1, 0, 4, 0, 0, 32, 0, 128, 480, 1008, 2032, 4095] [0, 1, 2, 3, 4, 5, 6, 7, 8, 9, 10, 11, 12] [0, 1, 2, 3, 4, 5, 6, 7, 8, 9, 10, 11, 12] (by kernel_rfl) (by kernel_rfl)) Qk)) (Qs [(79, .bool)] [1, 4, 6, 7, 8, 9] (fun z_ => Zec5 x6 x8_1 c x9 z_.1)
  Qz
  (fun ⟨x79, _⟩ => Qc (x79) (Zec4 x6 x8_1 c x9) (c ((IntKind.wrap .i64 (x8_1 + 1)), ())) Qz Qk)))))))))))
  (fun _ => Qz))))))
  (fun _ => Qs [(5, .bool)] [4] (fun z_ => Zec0 k x4 z_.1)
  Qz
  (fun ⟨x5, _⟩ => Qr))))) hyp_
abbrev Zed0 (k : (((OA × (OA × Sl)) × Bool) → K)) (x2 : Addr) (x3 : Bool) : K :=
  ldP (x2.add 0) fun x2_0 =>
  ldP (x2.add 1) fun x2_1 =>
  ldS (x2.add 2) fun x2_2 =>
  k ((x2_0, (x2_1, x2_2)), x3)
abbrev Zed1 (k : (((OA × (OA × Sl)) × Bool) → K)) (x2 : Addr) (d : OA) (e_1 : Int) (a : OA) : K :=
  tick fun _ =>
  brK (e_1 == 0)
  (brK (!(Option.isNone a))
  (nn a fun x53 =>
  ldP (x53.add 0) fun x55 =>
  stK (x2.add 0) (.pointer a) <|
  stK (x2.add 1) (.pointer d) <|
  stK (x2.add 2) (.slice none 0 0) <|
  chk [.cell (x53.add 0) (.pointer x55)] fun _ =>
  Zed0 k x2 (!(Option.isNone x55)))
  (stK (x2.add 0) (.pointer a) <|
  stK (x2.add 1) (.pointer d) <|
  stK (x2.add 2) (.slice none 0 0) <|
  Zed0 k x2 false))
  (stK (x2.add 0) (.pointer a) <|
  stK (x2.add 1) (.pointer d) <|
  stK (x2.add 2) (.slice none 0 0) <|
  Zed0 k x2 false)
abbrev Zed2 (k : (((OA × (OA × Sl)) × Bool) → K)) (x2 : Addr) (d : OA) (m : OA) : K :=
  c_alloc_New d m ⟨none, 0, 0⟩ fun x39 =>
  Zed1 k x2 d x39.2 x39.1
abbrev Zed3 (k : (((OA × (OA × Sl)) × Bool) → K)) (x2 : Addr) (x3_1 : Bool) : K :=
  ldP (x2.add 0) fun x2_0_1 =>
  ldP (x2.add 1) fun x2_1_1 =>
  ldS (x2.add 2) fun x2_2_1 =>
  k ((x2_0_1, (x2_1_1, x2_2_1)), x3_1)
abbrev Zed4 (k : (((OA × (OA × Sl)) × Bool) → K)) (x2 : Addr) : K :=
  stK (x2.add 0) (.pointer none) <|
  stK (x2.add 1) (.pointer none) <|
  stK (x2.add 2) (.slice none 0 0) <|
  Zed3 k x2 false
abbrev Zed5 (k : (((OA × (OA × Sl)) × Bool) → K)) (x2 : Addr) (d : OA) (m : OA) (x34 : Bool) : K :=
  brK x34
  (Zed4 k x2)
  (Zed2 k x2 d m)
abbrev Zed6 (k : (((OA × (OA × Sl)) × Bool) → K)) (x2 : Addr) (d : OA) (m : OA) (e : Int) : K :=
  brK (e != 0)
  (Zed5 k x2 d m true)
  (Zed5 k x2 d m (Option.isNone m))
abbrev Zed7 (k : (((OA × (OA × Sl)) × Bool) → K)) (x2 : Addr) (g : Addr) (d : OA) : K :=
  ldI .i64 (g.add 0) fun x25_0 =>
  c_bman_Open d x25_0 fun x26 =>
  Zed6 k x2 d x26.1 x26.2
abbrev Zed8 (k : (((OA × (OA × Sl)) × Bool) → K)) (x2 : Addr) (x3_2 : Bool) : K :=
  ldP (x2.add 0) fun x2_0_2 =>
  ldP (x2.add 1) fun x2_1_2 =>
  ldS (x2.add 2) fun x2_2_2 =>
  k ((x2_0_2, (x2_1_2, x2_2_2)), x3_2)
abbrev Zed9 (k : (((OA × (OA × Sl)) × Bool) → K)) (x2 : Addr) : K :=
  stK (x2.add 0) (.pointer none) <|
  stK (x2.add 1) (.pointer none) <|
  stK (x2.add 2) (.slice none 0 0) <|
  Zed8 k x2 false
abbrev Zed10 (k : (((OA × (OA × Sl)) × Bool) → K)) (x2 : Addr) (g : Addr) (d : OA) (x21 : Bool) : K :=
  brK x21
  (Zed9 k x2)
  (Zed7 k x2 g d)
abbrev Zed11 (k : (((OA × (OA × Sl)) × Bool) → K)) (x2 : Addr) (g : Addr) (d : OA) : K :=
  brK (Option.isNone d)
  (Zed10 k x2 g d true)
  (ldI .i64 (g.add 0) fun x18_0 =>
  c_blocks_Format d x18_0 fun x19 =>
  Zed10 k x2 g d (x19 != 0))
abbrev Zed12 (k : (((OA × (OA × Sl)) × Bool) → K)) (x2 : Addr) (g : Addr) : K :=
  ldI .i64 (g.add 0) fun x11_0 =>
  c_geom_Geometry_Words x11_0 fun x12 =>
  c_nvm_New x12 fun x13 =>
  Zed11 k x2 g x13
abbrev Zed13 (n : Int) (k : (((OA × (OA × Sl)) × Bool) → K)) (x2 : Addr) : K :=
  alK (.cells #[.int .i64 0] 43) fun b =>
  stK (Addr.add ⟨b, 0, none⟩ 0) (.int .i64 n) <|
  Zed12 k x2 ⟨b, 0, none⟩
abbrev law20_Begun (n : Int) : M ((OA × (OA × Sl)) × Bool) := fun k =>
  alK (.cells #[.pointer none, .pointer none, .slice none 0 0] 29) fun b_1 =>
  Zed13 n k ⟨b_1, 0, none⟩
theorem law20_Begun_ok (n : Int) (k : ((OA × (OA × Sl)) × Bool) → K) (w : World) (hyp_ : law20_Begun n k w) : c_law20_Begun n k w :=
  cl_of (P := Tryz.prog) Tryz.func59 rfl (by kernel_rfl)
  (Qs [(2, .addr)] [0] (fun z_ => Zed13 n k z_.1)
  Qz
  (fun ⟨x2, _⟩ => Qs [(4, .addr)] [2] (fun z_ => Zed12 k x2 z_.1)
  Qz
  (fun ⟨g, _⟩ => Qs [(5, .ptr)] [2, 4] (fun z_ => Zed11 k x2 g z_.1)
  Qz
  (fun ⟨d, _⟩ => Qs [] [2, 4, 5] (fun z_ => Zed7 k x2 g d)
  (Qs [(21, .bool)] [2, 4, 5] (fun z_ => Zed10 k x2 g d z_.1)
  (Qp [2])
  (fun ⟨x21, _⟩ => Qc (x21) (Zed9 k x2) (Zed7 k x2 g d) (Qs [(3, .bool)] [2] (fun z_ => Zed8 k x2 z_.1)
  Qz
  (fun ⟨x3_2, _⟩ => Qr)) Qk))
  (fun _ => Qs [(6, .ptr), (7, .int .i64)] [2, 5] (fun z_ => Zed6 k x2 d z_.1 z_.2.1)
  Qz
  (fun ⟨m, e, _⟩ => Qs [] [2, 5, 6] (fun z_ => Zed2 k x2 d m)
  (Qs [(34, .bool)] [2, 5, 6] (fun z_ => Zed5 k x2 d m z_.1)
  (Qp [2])
  (fun ⟨x34, _⟩ => Qc (x34) (Zed4 k x2) (Zed2 k x2 d m) (Qs [(3, .bool)] [2] (fun z_ => Zed3 k x2 z_.1)
  Qz
  (fun ⟨x3_1, _⟩ => Qr)) Qk))
  (fun _ => Qs [(7, .int .i64), (8, .ptr)] [2, 5] (fun z_ => Zed1 k x2 d z_.1 z_.2.1)
  Qz
  (fun ⟨e_1, a, _⟩ => Qs [(3, .bool)] [2] (fun z_ => Zed0 k x2 z_.1)
  (RefK.draw [5, 9] [0, 0, 3, 0, 8, 24, 56, 120, 248, 504, 1016, 2040, 4088, 8184, 16376, 32760, 1023, 131071] [0, 1, 2, 3, 4, 5, 6, 7, 8, 9, 10, 11, 12, 13, 14, 15, 16, 17] [0, 1, 2, 3, 4, 5, 6, 7, 8, 9, 16, 10, 11, 12, 13, 14, 15, 17] (by kernel_rfl) (by kernel_rfl))
  (fun ⟨x3, _⟩ => Qr))))))))) hyp_
end
section
variable {B : World} {P R : SL} {t : K}
end
section
variable {B : World} {P R : SL} {t : K}
end
def rfOf : Code → Option Code
  | .rangeFunc _ _ _ b => some b
  | .seq a b => (match rfOf a with | some x => some x | none => rfOf b)
  | .block _ c => rfOf c
  | .loop c => rfOf c
  | .scope c => rfOf c
  | .cond _ a b => (match rfOf a with | some x => some x | none => rfOf b)
  | _ => none
def rfBody (f : Func) : Code := match f.body with | some c => (match rfOf c with | some b => b | none => .skip) | none => .skip
def rfQ (kN kR : K) : Exit → Env → K
  | .normal, _ => kN
  | .ret, _ => kR
  | _, _ => kF
section
variable {B : World} {P R : SL} {t : K}
theorem Sat.perm {Q : SL} {w : World} (e : P = Q) (h : Sat B P w) : Sat B Q w := e ▸ h
theorem putObj_sat {w : World} {r : Nat} {o o' : Obj} (s : Sat B (R * pt r o) w) : Sat B (R * pt r o') (w.putObj r o') := by
  have hr := (s.has (b := r) (o := o) Has.last).1
  have hlt : r < w.heap.size := (Array.getElem?_eq_some_iff.1 hr).1
  refine s.upd Upd.last (World.putObj_heap_same hlt) (fun x hx => World.putObj_heap_other hx) rfl rfl rfl (by simp)
theorem sat_ex {α : Type} {X : α → SL} {w : World} (h : Sat B (ex X) w) : ∃ x, Sat B (X x) w := by
  obtain ⟨⟨g, ⟨x, hx⟩, hb⟩, k⟩ := h
  exact ⟨x, ⟨g, hx, hb⟩, k⟩
theorem ex_sat {α : Type} {X : α → SL} {w : World} (x : α) (h : Sat B (X x) w) : Sat B (ex X) w := by
  obtain ⟨⟨g, hx, hb⟩, k⟩ := h
  exact ⟨⟨g, ⟨x, hx⟩, hb⟩, k⟩
theorem T_exP {α : Type} {X : α → SL} {φ : α → Prop} (h : ∀ s, φ s → T B (X s) t) : T B (ex fun s => X s * pu (φ s)) t := by
  intro w hw
  obtain ⟨s, hw⟩ := sat_ex hw
  have k : T B (X s * pu (φ s)) t := T_pu fun hφ => h s hφ
  exact k w hw
/-- how a loop's yield answers: on, or no more -/
def Yld (B : World) (Pg : Program) {β : Type} (l : Nat) (enc : β → Array Value) (ok : List β → β → Prop) (I : List β → SL) (J : SL) : Prop :=
  ∀ m pre x W, ok pre x → Sat B (I pre) W → YieldAt Fence.wide m Pg l (enc x) W fun e W' => (e = .returned (.bool true) ∧ Sat B (I (pre ++ [x])) W') ∨ (e = .returned (.bool false) ∧ Sat B J W')
theorem T_yield {Pg : Program} {β : Type} {l : Nat} {enc : β → Array Value} {ok : List β → β → Prop} {I : List β → SL} {J : SL} (hy : Yld B Pg l enc ok I J) {pre : List β} {x : β} (hok : ok pre x) {k : Bool → K}
    (h1 : T B (I (pre ++ [x])) (k true)) (h0 : T B J (k false)) : T B (I pre) (dyn Pg (Fv.v ⟨.yield l, #[], #[]⟩) (enc x) (.one (.sc .bool)) k) := by
  intro w hw
  refine .inr ⟨l, rfl, (hy 0 pre x w hok hw).mono ?_⟩
  rintro e W' (⟨rfl, hs⟩ | ⟨rfl, hs⟩)
  · exact ⟨true, rfl, h1 _ hs⟩
  · exact ⟨false, rfl, h0 _ hs⟩
theorem wp_rangeF {Pg : Program} {β : Type} {g : Operand} {ps : Array Tmp} {assign body : Code} {Q : Exit → Act → World → Prop} {a : Act} {w : World} {n gf : Nat} {lb : Array Value} (hn : 1 ≤ n)
    (hg : a.eval g = .func (.func gf) #[] lb) (eg : ∀ args w, (callFunc gf args).run Pg w = .ok (.enter gf args) w) (enc : β → Array Value) (hps : ∀ x, (enc x).size = ps.size) (ok : List β → β → Prop)
    (I : List β → SL) (J : SL) (all : List β) (h0 : Sat B (I []) w) (Ag : β → Act → Prop)
    (hseq : ∀ (l : Nat) (X X' : SL), Yld B Pg l enc ok (fun pre => I pre * X) (J * X') →
      ∀ W, Sat B (I [] * X) W → CallsIn Fence.wide (n - 1) Pg gf (#[.func (.yield l) #[] #[]] ++ lb) W fun e W' => (∃ v, e = .returned v) ∧ (Sat B (I all * X) W' ∨ Sat B (J * X') W'))
    (hassign : ∀ (m l : Nat) (x : β) (W : World) (K : Act → World → Prop), (∀ a', Ag x a' → K a' W) → assign.wpIn (Fence.wide.inRound l) m Pg (Exit.then K (fun _ _ _ => False)) { tmps := (ps.zip (enc x)).foldl (fun t (p, v) => t.setIfInBounds p v) a.tmps, defers := [] } W)
    (hbody : ∀ (m l : Nat) (pre : List β) (x : β) (W : World) (X : SL) (a' : Act), Ag x a' → ok pre x → Sat B (I pre * X) W → body.wpIn (Fence.wide.inRound l) m Pg (fun e _ W' => (e = .normal ∧ Sat B (I (pre ++ [x]) * X) W') ∨ (e = .ret ∧ Sat B (J * X) W')) a' W)
    (hdone : ∀ (D : Nat) (W : World), Sat B (I all * pt D (.deferred (some []))) W → Q .normal { a with defers := { target := .collected D, args := #[] } :: a.defers } W)
    (hret : ∀ (D : Nat) (W : World), Sat B (J * pt D (.deferred (some []))) W → Q .ret { a with defers := { target := .collected D, args := #[] } :: a.defers } W) :
    (Code.rangeFunc g ps assign body).wpIn Fence.wide n Pg Q a w := by
  refine wpIn_rangeFunc ?_
  intro fn hfn
  rw [show Fence.wide.round = none from rfl]
  obtain ⟨rec, hrec⟩ : ∃ rec : LoopState → Option Code → Loop, rec = fun st pe => { state := st, pending := pe, fn, tmps := a.tmps, params := ps, assign, body, defers := w.heap.size } := ⟨_, rfl⟩
  have s1 : Sat B (I [] * pt w.heap.size (.deferred (some []))) (w.alloc (.deferred (some []))) := h0.alloc
  have s2 : Sat B (I [] * pt w.heap.size (.deferred (some [])) * pt (w.heap.size + 1) (.loop (rec .ready none))) ((w.alloc (.deferred (some []))).alloc (.loop (rec .ready none))) := by
    have := s1.alloc (o := .loop (rec .ready none))
    rwa [World.size_alloc] at this
  obtain ⟨W1, hW1⟩ : ∃ W1, (w.alloc (.deferred (some []))).alloc (.loop (rec .ready none)) = W1 := ⟨_, rfl⟩
  rw [hW1] at s2
  have sw : ∀ o (W : World) (Y : SL), Sat B (Y * (pt w.heap.size (.deferred (some [])) * pt (w.heap.size + 1) o)) W ↔ Sat B (Y * pt w.heap.size (.deferred (some [])) * pt (w.heap.size + 1) o) W := fun o W Y => by rw [sep_assoc]
  refine ⟨w.heap.size + 1, [{ target := .collected w.heap.size, args := #[] }], W1, { target := .fn (.func gf) lb, args := #[.func (.yield (w.heap.size + 1)) #[] #[]] }, W1, gf,
    #[.func (.yield (w.heap.size + 1)) #[] #[]] ++ lb, W1, ?_, ?_, fun _ _ => trivial, ?_, fun _ => hn, ?_⟩
  · rw [← hW1, hrec]; exact run_enterLoop_outer _ _ _ _ _
  · simp only [resolve, hg]
    simp [go_sem]
  · simp [invoke, go_sem, eg]
  · refine (hseq (w.heap.size + 1) (pt w.heap.size (.deferred (some [])) * pt (w.heap.size + 1) (.loop (rec .ready none))) (pt w.heap.size (.deferred (some [])) * pt (w.heap.size + 1) (.loop (rec .done (some .ret)))) ?_ W1 ((sw _ _ _).2 s2)).mono ?_
    · intro m pre x W hx hs
      rw [sw] at hs
      have hl : W.heap[w.heap.size + 1]? = some (.loop (rec .ready none)) := (hs.has Has.last).1
      have hy := run_yield (P := Pg) (args := enc x) hl (by rw [hrec]; exact hps x)
      rw [hrec] at hy
      refine ⟨fn, _, assign, body, hy, roundIn_of_wpIn hfn (hassign _ _ x W _ fun a' hAg => ⟨_, run_beginRound hl (by rw [hrec]), ?_⟩)⟩
      have hs2 := putObj_sat (o' := .loop { rec .ready none with state := .busy }) hs
      rw [← sw] at hs2
      refine wpIn_mono (hbody _ _ pre x _ _ a' hAg hx hs2) ?_
      rintro e a3 W3 (⟨rfl, hs3⟩ | ⟨rfl, hs3⟩)
      · rw [sw] at hs3
        have hl3 : W3.heap[w.heap.size + 1]? = some (.loop { rec .ready none with state := .busy }) := (hs3.has Has.last).1
        have hend := run_endRound (P := Pg) none hl3
        refine ⟨_, _, hend, .inl ⟨rfl, ?_⟩⟩
        have hs4 := putObj_sat (o' := .loop (rec .ready none)) hs3
        rw [sw]
        rw [hrec] at hs4 ⊢
        exact hs4
      · rw [sw] at hs3
        have hl3 : W3.heap[w.heap.size + 1]? = some (.loop { rec .ready none with state := .busy }) := (hs3.has Has.last).1
        have hend := run_endRound (P := Pg) (some .ret) hl3
        refine ⟨_, _, hend, .inr ⟨rfl, ?_⟩⟩
        have hs4 := putObj_sat (o' := .loop (rec .done (some .ret))) hs3
        rw [sw]
        rw [hrec] at hs4 ⊢
        exact hs4
    · rintro e W2 ⟨⟨v, rfl⟩, hs | hs⟩
      · rw [sw] at hs
        have hl : W2.heap[w.heap.size + 1]? = some (.loop (rec .ready none)) := (hs.has Has.last).1
        refine ⟨none, _, by have := run_endLoop (P := Pg) hl (by rw [hrec]; simp); rw [hrec] at this; exact this, ?_⟩
        exact hdone _ _ (putObj_sat hs).left
      · rw [sw] at hs
        have hl : W2.heap[w.heap.size + 1]? = some (.loop (rec .done (some .ret))) := (hs.has Has.last).1
        refine ⟨some .ret, _, by have := run_endLoop (P := Pg) hl (by rw [hrec]; simp); rw [hrec] at this; exact this, ?_⟩
        exact wpIn_ret (hret _ _ (putObj_sat hs).left)
/-- one piece of code behind another one, with slots known -/
theorem rk_seq {Pg : Program} {m n : Nat} {D : List Deferred} {E : Env} {a : Act} {w : World} {c d : Code} {t : K} {Q : Exit → Act → World → Prop} (l : List (Nat × Sg)) (cl : List Nat) (t2 : Tup l → K)
    (h1 : RefK Pg m c E t (thenQ (fun E' => getAll l E' t2) (fun _ _ => kF))) (ha : Agree D m E a) (ht : t w) (hc : clean (wr c) cl = true)
    (h2 : ∀ x a' w', Agree D m (encE l x ++ pick E cl) a' → t2 x w' → d.wpIn Fence.wide n Pg Q a' w') : (Code.seq c d).wpIn Fence.wide n Pg Q a w := by
  refine wpIn_seq (h1 none n D _ a w ha ht fun e E' a' w' ha' hf h => ?_)
  cases e <;> try exact h.elim
  obtain ⟨x, hs, h⟩ := getAll_spec h
  exact h2 x a' w' (carry ha (ha'.sub hs) hf hc) h
/-- the round's parameter, assigned -/
theorem rk_assign {Pg : Program} {m n lp p : Nat} {D : List Deferred} {E : Env} {a : Act} {W : World} {c : Code} {v : Value} {K : Act → World → Prop} (l : List (Nat × Sg)) (cl : List Nat) (z : Tup l) (ha : Agree D n E a) (hp : p < n)
    (h1 : RefK Pg n c (E.put (some p) v) (fun w => z = z ∧ w = W) (thenQ (fun E' => getAll l E' (fun x w => x = z ∧ w = W)) (fun _ _ => kF)))
    (hc : clean (wr c) cl = true) (hK : ∀ a', Agree [] n (encE l z ++ pick (E.put (some p) v) cl) a' → K a' W) {T : Array Value} (hT : T = a.tmps.setIfInBounds p v) :
    c.wpIn (Fence.wide.inRound lp) m Pg (Exit.then K (fun _ _ _ => False)) { tmps := T, defers := [] } W := by
  subst hT
  have ha0 : Agree [] n E { tmps := a.tmps, defers := [] } := ⟨rfl, ha.2.1, ha.2.2⟩
  have ha1 : Agree [] n (E.put (some p) v) { tmps := a.tmps.setIfInBounds p v, defers := [] } := ha0.put (dst := some p) fun d hd => by cases hd; exact hp
  refine h1 (some lp) m [] _ _ W ha1 ⟨rfl, rfl⟩ fun e E' a' w' ha' hf h => ?_
  cases e <;> try exact h.elim
  obtain ⟨x, hs, rfl, rfl⟩ := getAll_spec h
  exact hK a' (carry ha1 (ha'.sub hs) hf hc)
/-- behind a range over a function: the mark is come to, the results are read -/
theorem leave_T {Pg : Program} {fn : Func} {m n D : Nat} {a : Act} {E : Env} {S : SL} {W : World} {r : RSh} {k : r.T → K} (ha : Agree [{ target := .collected D, args := #[] }] m E a) (hs : Sat B (S * pt D (.deferred (some []))) W)
    (hk : T B S (resK Pg fn.results.toList E [] fun vs => decR r (packR vs) k)) :
    LeavesInM Fence.wide n Pg fn a.tmps (fun e w' => ∃ x : r.T, e = .returned (r.enc x) ∧ k x w') a.defers .returning W := by
  have hK : W.heap[D]? = some (.deferred (some [])) := (hs.has Has.last).1
  have hs2 := (putObj_sat (o' := .deferred none) hs).left
  obtain ⟨v, hr, hd⟩ := fin_run (fn := fn) (k := fun v => decR r v k) ha (hk _ hs2)
  obtain ⟨x, hx, hkx⟩ := decR_spec hd
  rw [ha.1]
  refine ⟨by simp, .inl ⟨_, _, rfl, run_takeDeferred hK, ?_⟩⟩
  exact ⟨_, hr, x, by rw [hx], hkx⟩
end
def nts (l : List Nat) : List Int := l.map fun (n : Nat) => (n : Int)
def Uof (ws : List Nat) (a : Nat) : Bool := (ws.getD (a / 64) 0).testBit (a % 64)
structure BmOk (lim : Nat) (U : Nat → Bool) (ws : List Nat) : Prop where
  len : ws.length = (lim + 63) / 64
  big : lim ≤ 2 ^ 40
  lt : ∀ w ∈ ws, w < 2 ^ 64
  eq : ∀ a, U a = Uof ws a
  off : ∀ a, lim ≤ a → U a = false
abbrev BmX := Sl × List Nat × Int
def BmQ (s lim : Nat) (x : BmX) : SL := vec 109 1 x.1 (wds (nts x.2.1)) * pt s (.cells [x.1.v, .int .i64 lim, .int .i64 x.2.2].toArray 191)
def Bm (s lim : Nat) (U : Nat → Bool) : SL := ex fun x : BmX => BmQ s lim x * pu (BmOk lim U x.2.1)
theorem bit_andN {a b : Nat} (ha : a < 2 ^ 64) (hb : b < 2 ^ 64) : ∃ m : Nat, bitI .andNot .u64 a b = m ∧ m < 2 ^ 64 ∧ ∀ j, j < 64 → m.testBit j = (a.testBit j && !b.testBit j) := by
  refine ⟨(BitVec.ofInt 64 a &&& ~~~ BitVec.ofInt 64 b).toNat, ?_, (BitVec.ofInt 64 a &&& ~~~ BitVec.ofInt 64 b).isLt, fun j hj => ?_⟩
  · exact wu64n _ (BitVec.ofInt 64 a &&& ~~~ BitVec.ofInt 64 b).isLt
  · rw [← BitVec.getLsbD, BitVec.getLsbD_and, BitVec.getLsbD_not, BitVec.ofInt_natCast, BitVec.ofInt_natCast, BitVec.getLsbD_ofNat, BitVec.getLsbD_ofNat]
    simp [hj]
section
variable {B : World} {P R : SL} {t : K}
theorem Bm_open {s lim : Nat} {U : Nat → Bool} (h : ∀ (q : Sl) (ws : List Nat) (m : Int), BmOk lim U ws → T B (R * vec 109 1 q (wds (nts ws)) * pt s (.cells [q.v, .int .i64 lim, .int .i64 m].toArray 191)) t) : T B (R * Bm s lim U) t := by
  refine T_ex fun x => ?_
  rw [← sep_assoc]
  refine T_pu fun ok => T.perm ?_ (h x.1 x.2.1 x.2.2 ok)
  unfold BmQ; simp only [sep_assoc]
theorem Bm_close {s lim : Nat} {U : Nat → Bool} {q : Sl} {ws : List Nat} {m : Int} (ok : BmOk lim U ws) (h : T B (R * Bm s lim U) t) : T B (R * vec 109 1 q (wds (nts ws)) * pt s (.cells [q.v, .int .i64 lim, .int .i64 m].toArray 191)) t := by
  have h2 : T B (R * (BmQ s lim (q, ws, m) * pu (BmOk lim U ws))) t := T_exI (X := fun x : BmX => BmQ s lim x * pu (BmOk lim U x.2.1)) (q, ws, m) h
  rw [← sep_assoc] at h2
  refine T.perm ?_ (T_puI ok h2)
  unfold BmQ; simp only [sep_assoc]
theorem bitmap_New_c {lim : Nat} (hl : lim ≤ 2 ^ 40) {k : Option Addr → K} (hk : ∀ s, T B (R * Bm s lim (fun _ => false)) (k (da s))) : T B R (c_bitmap_New lim k) := by
  refine T_of (bitmap_New_ok lim k) ?_
  have e0 : max2I (lim : Int) 0 = lim := by unfold max2I; split <;> omega
  (dsimp only [bitmap_New, Zdm0, Zdm1])
  rw [e0]
  refine bits_Up_c (by omega) (by omega) (by omega) ?_
  have e1 : ((lim : Int) + 64 - 1) / 64 = (((lim + 63) / 64 : Nat) : Int) := by omega
  rw [e1]
  refine T_mkV kd_u64 (by omega) (by omega) (by omega) fun b => ?_
  rw [Int.toNat_natCast, repZ_wds]
  (repeat ((with_reducible refine T_al ?_; intro _)))
  rename_i s
  have e2 : List.replicate ((lim + 63) / 64) (0 : Int) = nts (List.replicate ((lim + 63) / 64) 0) := by simp [nts]
  rw [e2]
  refine Bm_close (q := ⟨some ⟨b, 0, none⟩, (lim + 63) / 64, (lim + 63) / 64⟩) ⟨by simp, hl, fun w hw => ?_, fun a => ?_, fun a _ => rfl⟩ (hk s)
  · rw [List.eq_of_mem_replicate hw]; exact Nat.two_pow_pos _
  · unfold Uof
    rw [List.getD_eq_getElem?_getD, List.getElem?_replicate]
    split <;> simp
theorem bitmap_in_c {s lim : Nat} {U : Nat → Bool} {a : Int} {k : Bool → K} (hk : T B (R * Bm s lim U) (k (decide (0 ≤ a ∧ a < lim)))) : T B (R * Bm s lim U) (c_bitmap_Set_in (da s) a k) := by
  refine T_of (bitmap_Set_in_ok _ a k) ?_
  unfold da
  (repeat' (first | with_reducible refine T_nn ?_ | with_reducible refine T_brD (fun _ => ?_) (fun _ => ?_)))
  · rename_i h
    refine Bm_open fun q ws m ok => ?_
    (repeat (((with_reducible apply T_ldI); (focus rfl); (focus exact hasA); (focus rfl))))
    refine Bm_close ok ?_
    have e : decide (a < (lim : Int)) = decide (0 ≤ a ∧ a < lim) := by simp; omega
    rw [e]; exact hk
  · rename_i h
    have e : decide (0 ≤ a ∧ a < (lim : Int)) = false := by simp; omega
    rw [e] at hk; exact hk
def has (U : Nat → Bool) (a : Int) : Bool := decide (0 ≤ a) && U a.toNat
theorem nts_at {ws : List Nat} {i : Nat} (h : i < ws.length) : (wds (nts ws))[i]? = some (.int .u64 (ws[i] : Nat)) := by simp [wds, nts, h]
theorem bitmap_Has_c {s lim : Nat} {U : Nat → Bool} {a : Int} {k : Bool → K} (hk : T B (R * Bm s lim U) (k (has U a))) : T B (R * Bm s lim U) (c_bitmap_Set_Has (da s) a k) := by
  refine T_of (bitmap_Set_Has_ok _ a k) ?_
  refine bitmap_in_c ?_
  unfold da has at *
  by_cases h0 : 0 ≤ a ∧ a < (lim : Int)
  · rw [decide_eq_true h0]
    rw [decide_eq_true h0.1, Bool.true_and] at hk
    (repeat (first | with_reducible refine T_nn ?_ | with_reducible refine T_brT ?_))
    refine Bm_open fun q ws m ok => ?_
    obtain ⟨n, rfl⟩ := Int.eq_ofNat_of_zero_le h0.1
    have hb := ok.big
    have hlen := ok.len
    have hlt : n / 64 < ws.length := by omega
    (repeat (((with_reducible apply T_ldS); (focus rfl); (focus exact hasA); (focus rfl))))
    have e1 : IntKind.wrap .i64 (Int.tdiv (n : Int) 64) = ((n / 64 : Nat) : Int) := by rw [Int.tdiv_eq_ediv_of_nonneg (by omega), w64 (by omega) (by omega)]; omega
    have e2 : IntKind.wrap .u64 (Int.tmod (n : Int) 64) = ((n % 64 : Nat) : Int) := by rw [Int.tmod_eq_emod_of_nonneg (by omega), wu64 (by omega) (by omega)]; omega
    rw [e1]
    refine T_ixV (Rd.vec (E := 109) (s := q) (vs := wds (nts ws)) (.init .last)) (by omega) (by rw [Int.toNat_natCast]; exact nts_at hlt) ?_
    rw [e2]
    refine T_nneg (by omega) ?_
    have hw : ws[n / 64] < 2 ^ 64 := ok.lt _ (List.getElem_mem hlt)
    have e3 : (bitI .and .u64 (shrI .u64 ((ws[n / 64] : Nat) : Int) ((n % 64 : Nat) : Int)) 1 == 1) = U n := by
      rw [ok.eq n, shr_n (by omega)]
      have := bit_and (a := ws[n / 64] / 2 ^ (n % 64)) (b := 1) (Nat.lt_of_le_of_lt (Nat.div_le_self _ _) hw) (by omega)
      rw [show ((1 : Nat) : Int) = 1 from rfl] at this
      rw [this, Nat.and_one_is_mod]
      unfold Uof
      rw [List.getD_eq_getElem?_getD, List.getElem?_eq_getElem hlt, Option.getD_some, Nat.testBit_eq_decide_div_mod_eq]
      rw [Bool.eq_iff_iff]; simp only [beq_iff_eq, decide_eq_true_eq]; omega
    (dsimp only [bitmap_Set_Has, Zcl0, Zcl1])
    rw [e3]
    refine Bm_close ok ?_
    rw [Int.toNat_natCast] at hk; exact hk
  · rw [decide_eq_false h0]
    (repeat (with_reducible refine T_brF ?_))
    by_cases h1 : 0 ≤ a
    · refine Bm_open fun q ws m ok => ?_
      have := ok.off a.toNat (by omega)
      rw [this, Bool.and_false] at hk
      exact Bm_close ok hk
    · rw [decide_eq_false h1, Bool.false_and] at hk; exact hk
end
def uAdd (U : Nat → Bool) (a : Nat) : Nat → Bool := fun x => x == a || U x
def uDrop (U : Nat → Bool) (a : Nat) : Nat → Bool := fun x => x != a && U x
theorem nts_set (ws : List Nat) (i m : Nat) : (wds (nts ws)).set i (.int .u64 (m : Int)) = wds (nts (ws.set i m)) := by simp [wds, nts, List.map_set]
theorem Uof_set {ws : List Nat} {i m : Nat} (h : i < ws.length) (a : Nat) : Uof (ws.set i m) a = if a / 64 = i then m.testBit (a % 64) else Uof ws a := by
  unfold Uof
  rw [List.getD_eq_getElem?_getD, List.getElem?_set]
  by_cases e : a / 64 = i
  · rw [if_pos e, if_pos e.symm, if_pos (by omega)]; rfl
  · rw [if_neg e, if_neg (Ne.symm e), List.getD_eq_getElem?_getD]
theorem BmOk.set {lim : Nat} {U U' : Nat → Bool} {ws : List Nat} (ok : BmOk lim U ws) {a m : Nat} (ha : a < lim) (hm : m < 2 ^ 64)
    (h1 : ∀ j, j < 64 → j ≠ a % 64 → m.testBit j = (ws.getD (a / 64) 0).testBit j) (h2 : U' a = m.testBit (a % 64)) (h3 : ∀ x, x ≠ a → U' x = U x) : BmOk lim U' (ws.set (a / 64) m) := by
  have hlt : a / 64 < ws.length := by have := ok.len; omega
  refine ⟨by rw [List.length_set]; exact ok.len, ok.big, fun w hw => ?_, fun x => ?_, fun x hx => ?_⟩
  · rcases List.mem_or_eq_of_mem_set hw with h | h
    · exact ok.lt w h
    · rw [h]; exact hm
  · rw [Uof_set hlt]
    by_cases e : x = a
    · subst e; rw [if_pos rfl]; exact h2
    · rw [h3 x e, ok.eq x]
      split
      · rename_i e2
        rw [h1 (x % 64) (by omega) (by omega), ← e2]; rfl
      · rfl
  · rw [h3 x (by omega)]; exact ok.off x hx
section
variable {B : World} {P R : SL} {t : K}
theorem bitmap_Add_c {s lim : Nat} {U : Nat → Bool} {a : Int} {k : Bool → K} (h0 : ¬ (0 ≤ a ∧ a < lim ∧ U a.toNat = false) → T B (R * Bm s lim U) (k false))
    (h1 : 0 ≤ a → a < lim → U a.toNat = false → T B (R * Bm s lim (uAdd U a.toNat)) (k true)) : T B (R * Bm s lim U) (c_bitmap_Set_Add (da s) a k) := by
  refine T_of (bitmap_Set_Add_ok _ a k) ?_
  refine bitmap_in_c ?_
  by_cases hin : 0 ≤ a ∧ a < (lim : Int)
  · rw [decide_eq_true hin]
    skip
    simp only [Bool.not_true]
    (repeat (with_reducible refine T_brF ?_))
    refine bitmap_Has_c ?_
    obtain ⟨n, rfl⟩ := Int.eq_ofNat_of_zero_le hin.1
    rw [Int.toNat_natCast] at h1 h0
    have hh : has U (n : Int) = U n := by unfold has; rw [decide_eq_true hin.1, Bool.true_and, Int.toNat_natCast]
    rw [hh]
    cases hu : U n
    · have hk := h1 hin.1 hin.2 hu
      unfold da
      (repeat (first | with_reducible refine T_nn ?_ | with_reducible refine T_brF ?_))
      refine Bm_open fun q ws m ok => ?_
      have hb := ok.big
      have hlen := ok.len
      have hlt : n / 64 < ws.length := by omega
      (repeat (((with_reducible apply T_ldS); (focus rfl); (focus exact hasA); (focus rfl))))
      have e1 : IntKind.wrap .i64 (Int.tdiv (n : Int) 64) = ((n / 64 : Nat) : Int) := by rw [Int.tdiv_eq_ediv_of_nonneg (by omega), w64 (by omega) (by omega)]; omega
      have e2 : IntKind.wrap .u64 (Int.tmod (n : Int) 64) = ((n % 64 : Nat) : Int) := by rw [Int.tmod_eq_emod_of_nonneg (by omega), wu64 (by omega) (by omega)]; omega
      rw [e1]
      refine T_ixV (Rd.vec (E := 109) (s := q) (vs := wds (nts ws)) (.init .last)) (by omega) (by rw [Int.toNat_natCast]; exact nts_at hlt) ?_
      rw [e2]
      refine T_nneg (by omega) ?_
      have hw : ws[n / 64] < 2 ^ 64 := ok.lt _ (List.getElem_mem hlt)
      have h2p : 1 * 2 ^ (n % 64) < 2 ^ 64 := by rw [Nat.one_mul]; exact Nat.pow_lt_pow_right (by omega) (by omega)
      have e3 : shlI .u64 1 ((n % 64 : Nat) : Int) = ((1 * 2 ^ (n % 64) : Nat) : Int) := shl_n (a := 1) (by omega) h2p
      rw [e3, bit_or hw h2p]
      refine T_stV (E := 109) (i := ((n / 64 : Nat) : Int)) (s := q) (vs := wds (nts ws)) (.init .last) (by omega) (by rw [Int.toNat_natCast]; simp [wds, nts]; omega) ?_
      rw [Int.toNat_natCast, nts_set]
      have hg : ws.getD (n / 64) 0 = ws[n / 64] := by rw [List.getD_eq_getElem?_getD, List.getElem?_eq_getElem hlt]; rfl
      have ok' : BmOk lim (uAdd U n) (ws.set (n / 64) (ws[n / 64] ||| 1 * 2 ^ (n % 64))) := by
        refine ok.set (by omega) (Nat.or_lt_two_pow hw h2p) (fun j hj hne => ?_) ?_ (fun x hx => ?_)
        · rw [hg, Nat.testBit_or, Nat.one_mul, Nat.testBit_two_pow_of_ne (Ne.symm hne), Bool.or_false]
        · unfold uAdd; rw [Nat.testBit_or, Nat.one_mul, Nat.testBit_two_pow_self]; simp
        · unfold uAdd; simp [hx]
      (repeat (first | with_reducible refine T_nn ?_ | ((with_reducible apply T_ldI); (focus rfl); (focus exact hasA); (focus rfl)) | ((with_reducible apply T_st); (focus rfl); (focus exact updA); (focus simp); simp only [List.set, Nat.zero_add, Nat.reduceAdd])))
      refine T_bring (X := pt s (.cells [q.v, .int .i64 lim, .int .i64 (IntKind.wrap .i64 (m + 1))].toArray 191)) (.init .last) ?_
      exact Bm_close ok' hk
    · (repeat (with_reducible refine T_brT ?_))
      exact h0 (fun h => by rw [hu] at h; cases h.2.2)
  · rw [decide_eq_false hin]
    simp only [Bool.not_false]
    (repeat (with_reducible refine T_brT ?_))
    exact h0 (fun h => hin ⟨h.1, h.2.1⟩)
theorem bitmap_Drop_c {s lim : Nat} {U : Nat → Bool} {a : Int} {k : Bool → K} (h0 : has U a = false → T B (R * Bm s lim U) (k false))
    (h1 : 0 ≤ a → U a.toNat = true → T B (R * Bm s lim (uDrop U a.toNat)) (k true)) : T B (R * Bm s lim U) (c_bitmap_Set_Drop (da s) a k) := by
  refine T_of (bitmap_Set_Drop_ok _ a k) ?_
  refine bitmap_Has_c ?_
  cases hu : has U a
  · simp only [Bool.not_false]
    (repeat (with_reducible refine T_brT ?_))
    exact h0 hu
  · simp only [Bool.not_true]
    unfold has at hu
    simp only [Bool.and_eq_true, decide_eq_true_eq] at hu
    obtain ⟨hin, hu⟩ := hu
    obtain ⟨n, rfl⟩ := Int.eq_ofNat_of_zero_le hin
    rw [Int.toNat_natCast] at h1 hu
    have hk := h1 hin hu
    unfold da
    (repeat (first | with_reducible refine T_nn ?_ | with_reducible refine T_brF ?_))
    refine Bm_open fun q ws m ok => ?_
    have hb := ok.big
    have hlen := ok.len
    have hnl : n < lim := by
      rcases Nat.lt_or_ge n lim with h | h
      · exact h
      · rw [ok.off n h] at hu; cases hu
    have hlt : n / 64 < ws.length := by omega
    (repeat (((with_reducible apply T_ldS); (focus rfl); (focus exact hasA); (focus rfl))))
    have e1 : IntKind.wrap .i64 (Int.tdiv (n : Int) 64) = ((n / 64 : Nat) : Int) := by rw [Int.tdiv_eq_ediv_of_nonneg (by omega), w64 (by omega) (by omega)]; omega
    have e2 : IntKind.wrap .u64 (Int.tmod (n : Int) 64) = ((n % 64 : Nat) : Int) := by rw [Int.tmod_eq_emod_of_nonneg (by omega), wu64 (by omega) (by omega)]; omega
    rw [e1]
    refine T_ixV (Rd.vec (E := 109) (s := q) (vs := wds (nts ws)) (.init .last)) (by omega) (by rw [Int.toNat_natCast]; exact nts_at hlt) ?_
    rw [e2]
    refine T_nneg (by omega) ?_
    have hw : ws[n / 64] < 2 ^ 64 := ok.lt _ (List.getElem_mem hlt)
    have h2p : 1 * 2 ^ (n % 64) < 2 ^ 64 := by rw [Nat.one_mul]; exact Nat.pow_lt_pow_right (by omega) (by omega)
    have e3 : shlI .u64 1 ((n % 64 : Nat) : Int) = ((1 * 2 ^ (n % 64) : Nat) : Int) := shl_n (a := 1) (by omega) h2p
    obtain ⟨w', e4, e5, e6⟩ := bit_andN hw h2p
    rw [e3, e4]
    refine T_stV (E := 109) (i := ((n / 64 : Nat) : Int)) (s := q) (vs := wds (nts ws)) (.init .last) (by omega) (by rw [Int.toNat_natCast]; simp [wds, nts]; omega) ?_
    rw [Int.toNat_natCast, nts_set]
    have hg : ws.getD (n / 64) 0 = ws[n / 64] := by rw [List.getD_eq_getElem?_getD, List.getElem?_eq_getElem hlt]; rfl
    have ok' : BmOk lim (uDrop U n) (ws.set (n / 64) w') := by
      refine ok.set hnl e5 (fun j hj hne => ?_) ?_ (fun x hx => ?_)
      · rw [hg, e6 j hj, Nat.one_mul, Nat.testBit_two_pow_of_ne (Ne.symm hne)]; simp
      · unfold uDrop; rw [e6 _ (by omega), Nat.one_mul, Nat.testBit_two_pow_self]; simp
      · unfold uDrop; simp [hx]
    (repeat (first | with_reducible refine T_nn ?_ | ((with_reducible apply T_ldI); (focus rfl); (focus exact hasA); (focus rfl)) | ((with_reducible apply T_st); (focus rfl); (focus exact updA); (focus simp); simp only [List.set, Nat.zero_add, Nat.reduceAdd])))
    refine T_bring (X := pt s (.cells [q.v, .int .i64 lim, .int .i64 (IntKind.wrap .i64 (m - 1))].toArray 191)) (.init .last) ?_
    exact Bm_close ok' hk
end
def cnt0 (w : Int) : Int := IntKind.wrap .u64 (w - (bitI .and .u64 (shrI .u64 w 1) 6148914691236517205))
def cnt1 (w : Int) : Int := IntKind.wrap .u64 ((bitI .and .u64 w 3689348814741910323) + (bitI .and .u64 (shrI .u64 w 2) 3689348814741910323))
def cnt2 (w : Int) : Int := bitI .and .u64 (IntKind.wrap .u64 (w + (shrI .u64 w 4))) 1085102592571150095
def cnt3 (w : Int) : Int := IntKind.wrap .i64 (shrI .u64 (IntKind.wrap .u64 (w * 72340172838076673)) 56)
def cnt (w : Int) : Int := cnt3 (cnt2 (cnt1 (cnt0 w)))
theorem cnt_ones : ∀ i : Fin 64, cnt ((2 ^ i.val - 1 : Nat) : Int) = ((i.val : Nat) : Int) := by decide +kernel
theorem low_and {w i : Nat} (hw : w < 2 ^ 64) (hi : i < 64) (h0 : ∀ j, j < i → w.testBit j = false) (h1 : w.testBit i = true) : w &&& (2 ^ 64 - w) = 2 ^ i := by
  have hpos : 0 < w := by
    rcases Nat.eq_zero_or_pos w with h | h
    · subst h; simp at h1
    · exact h
  obtain ⟨m, hm⟩ : ∃ m, w = 2 ^ i * m := by
    refine ⟨w / 2 ^ i, ?_⟩
    have : w % 2 ^ i = 0 := by
      apply Nat.eq_of_testBit_eq
      intro j
      rw [Nat.testBit_mod_two_pow, Nat.zero_testBit]
      by_cases hj : j < i
      · rw [h0 j hj, Bool.and_false]
      · simp [hj]
    have := Nat.div_add_mod w (2 ^ i)
    omega
  have hodd : m.testBit 0 = true := by
    have := h1
    rw [hm, Nat.testBit_two_pow_mul] at this
    simpa using this
  have hm1 : m % 2 = 1 := by simpa [Nat.testBit_zero] using hodd
  have hw1 : w - 1 = 2 ^ i * (m - 1) + (2 ^ i - 1) := by
    have hp : 0 < 2 ^ i := Nat.two_pow_pos i
    rw [hm, Nat.mul_sub, Nat.mul_one]
    have : 2 ^ i * 1 ≤ 2 ^ i * m := Nat.mul_le_mul_left _ (by omega)
    omega
  apply Nat.eq_of_testBit_eq
  intro j
  rw [Nat.testBit_and, show 2 ^ 64 - w = 2 ^ 64 - ((w - 1) + 1) by omega, Nat.testBit_two_pow_sub_succ (by omega)]
  rcases Nat.lt_trichotomy j i with h | h | h
  · rw [h0 j h, Bool.false_and, Nat.testBit_two_pow_of_ne (by omega)]
  · subst h
    rw [h1, Nat.testBit_two_pow_self]
    have : (w - 1).testBit j = false := by
      rw [hw1, Nat.testBit_two_pow_mul_add _ (by have := Nat.two_pow_pos j; omega)]
      simp only [Nat.lt_irrefl, if_false, Nat.sub_self, Nat.testBit_zero, decide_eq_false_iff_not]
      omega
    rw [this]; simp [hi]
  · rw [Nat.testBit_two_pow_of_ne (by omega)]
    have : (w - 1).testBit j = w.testBit j := by
      rw [hw1, Nat.testBit_two_pow_mul_add _ (by have := Nat.two_pow_pos i; omega), if_neg (by omega)]
      rw [hm, Nat.testBit_two_pow_mul]
      obtain ⟨c, hc⟩ : ∃ c, j - i = c + 1 := ⟨j - i - 1, by omega⟩
      rw [hc, Nat.testBit_succ, Nat.testBit_succ, show (m - 1) / 2 = m / 2 by omega]
      simp; omega
    rw [this]
    cases w.testBit j <;> simp
section
variable {B : World} {P R : SL} {t : K}
theorem bits_Count_c {w : Int} {k : Int → K} (hk : T B R (k (cnt w))) : T B R (c_bits_Count w k) := T_of (bits_Count_ok w k) hk
theorem bits_Lowest_c {w i : Nat} (hw : w < 2 ^ 64) (hi : i < 64) (h0 : ∀ j, j < i → w.testBit j = false) (h1 : w.testBit i = true) {k : Int → K} (hk : T B R (k i)) : T B R (c_bits_Lowest w k) := by
  refine T_of (bits_Lowest_ok w k) ?_
  have hpos : 0 < w := by
    rcases Nat.eq_zero_or_pos w with h | h
    · subst h; simp at h1
    · exact h
  have e1 : IntKind.wrap .u64 (0 - (w : Int)) = ((2 ^ 64 - w : Nat) : Int) := by
    unfold IntKind.wrap
    simp only [IntKind.bits, IntKind.signed, Bool.false_and, Bool.false_eq_true, if_false]
    omega
  (dsimp only [bits_Lowest, Zbh0, Zbh1])
  rw [e1, bit_and hw (by omega), low_and hw hi h0 h1]
  have hp : 1 ≤ 2 ^ i := Nat.two_pow_pos i
  have hlt : 2 ^ i < 2 ^ 64 := Nat.pow_lt_pow_right (by omega) hi
  rw [wu64 (by omega) (by omega), show ((2 ^ i : Nat) : Int) - 1 = ((2 ^ i - 1 : Nat) : Int) by omega]
  refine bits_Count_c ?_
  rw [cnt_ones ⟨i, hi⟩]
  exact hk
end
theorem least {p : Nat → Bool} {n : Nat} (h : p n = true) : ∃ m, m ≤ n ∧ p m = true ∧ ∀ j, j < m → p j = false := by
  induction n using Nat.strongRecOn with
  | ind n ih =>
    by_cases hx : ∃ j, j < n ∧ p j = true
    · obtain ⟨j, h1, h2⟩ := hx
      obtain ⟨m, h3, h4, h5⟩ := ih j h1 h2
      exact ⟨m, by omega, h4, h5⟩
    · refine ⟨n, Nat.le_refl _, h, fun j hj => ?_⟩
      cases hp : p j
      · rfl
      · exact absurd ⟨j, hj, hp⟩ hx
theorem low_ex {w : Nat} (hw : w < 2 ^ 64) (h : w ≠ 0) : ∃ i, i < 64 ∧ w.testBit i = true ∧ ∀ j, j < i → w.testBit j = false := by
  obtain ⟨i, hi⟩ : ∃ i, w.testBit i = true := by
    refine Classical.byContradiction fun hn => h ?_
    apply Nat.eq_of_testBit_eq
    intro i
    rw [Nat.zero_testBit]
    cases hb : w.testBit i
    · rfl
    · exact absurd ⟨i, hb⟩ hn
  obtain ⟨m, h1, h2, h3⟩ := least (p := w.testBit) hi
  refine ⟨m, ?_, h2, h3⟩
  rcases Nat.lt_or_ge m 64 with hm | hm
  · exact hm
  · rw [Nat.testBit_lt_two_pow (Nat.lt_of_lt_of_le hw (Nat.pow_le_pow_right (by omega) hm))] at h2; cases h2
section
variable {B : World} {P R : SL} {t : K}
theorem bitmap_Next_c {s lim : Nat} {U : Nat → Bool} {a : Int} {k : Int × Bool → K} (h0 : (∀ x : Nat, a ≤ x → U x = false) → T B (R * Bm s lim U) (k (0, false)))
    (h1 : ∀ x : Nat, a ≤ x → U x = true → x < lim → (∀ y : Nat, a ≤ y → y < x → U y = false) → T B (R * Bm s lim U) (k ((x : Int), true))) : T B (R * Bm s lim U) (c_bitmap_Set_Next (da s) a k) := by
  refine T_of (bitmap_Set_Next_ok _ a k) ?_
  obtain ⟨n, hn, hna⟩ : ∃ n : Nat, max2I a 0 = n ∧ ∀ x : Nat, a ≤ x ↔ n ≤ x := by
    refine ⟨a.toNat, ?_, fun x => by omega⟩
    unfold max2I; split <;> omega
  simp only [hna] at h0 h1
  (dsimp only [bitmap_Set_Next, Zdp0, Zdp1, Zdp2, Zdp3, Zdp4, Zdp5, Zdp6, Zdp7, Zdp8, Zdp9, Zdp10, Zdp11, Zdp12])
  rw [hn]
  unfold da
  refine Bm_open fun q ws m ok => ?_
  have hb := ok.big
  have hlen := ok.len
  (repeat' (first | with_reducible refine T_nn ?_ | ((with_reducible apply T_ldI); (focus rfl); (focus exact hasA); (focus rfl)) | ((with_reducible apply T_ldS); (focus rfl); (focus exact hasA); (focus rfl)) | with_reducible refine T_brD (fun _ => ?_) (fun _ => ?_)))
  · rename_i hge
    exact Bm_close ok (h0 fun x hx => ok.off x (by omega))
  rename_i hlt0
  have hnl : n < lim := by omega
  have e1 : IntKind.wrap .i64 (Int.tdiv (n : Int) 64) = ((n / 64 : Nat) : Int) := by rw [Int.tdiv_eq_ediv_of_nonneg (by omega), w64 (by omega) (by omega)]; omega
  have e2 : IntKind.wrap .u64 (Int.tmod (n : Int) 64) = ((n % 64 : Nat) : Int) := by rw [Int.tmod_eq_emod_of_nonneg (by omega), wu64 (by omega) (by omega)]; omega
  have hlt : n / 64 < ws.length := by omega
  rw [e1]
  refine T_ixV (Rd.vec (E := 109) (s := q) (vs := wds (nts ws)) (.init .last)) (by omega) (by rw [Int.toNat_natCast]; exact nts_at hlt) ?_
  rw [e2]
  refine T_nneg (by omega) ?_
  refine T_nneg (by omega) ?_
  have hw : ws[n / 64] < 2 ^ 64 := ok.lt _ (List.getElem_mem hlt)
  have hsl : ws[n / 64] / 2 ^ (n % 64) * 2 ^ (n % 64) ≤ ws[n / 64] := Nat.div_mul_le_self _ _
  rw [shr_n (by omega), shl_n (by omega) (by omega)]
  have hU : ∀ x : Nat, x / 64 < ws.length → U x = (ws.getD (x / 64) 0).testBit (x % 64) := fun x _ => ok.eq x
  refine T_lpX (fun _ _ => R * vec 109 1 q (wds (nts ws)) * pt s (.cells [q.v, .int .i64 lim, .int .i64 m].toArray 191))
    (fun mm (st : Int × Int × Unit) => ∃ i w : Nat, st.1 = i ∧ st.2.1 = w ∧ n / 64 ≤ i ∧ i < ws.length ∧ w < 2 ^ 64 ∧ mm = ws.length - i ∧ (∀ x : Nat, n ≤ x → x / 64 < i → U x = false) ∧ (∀ x : Nat, x / 64 = i → w.testBit (x % 64) = (decide (n ≤ x) && U x))) (ws.length - n / 64) rfl
    ⟨n / 64, _, rfl, rfl, Nat.le_refl _, hlt, by omega, rfl, fun x hx h => by omega, fun x hx => ?_⟩ ?_
  · rw [ok.eq x]; unfold Uof
    rw [hx, List.getD_eq_getElem?_getD, List.getElem?_eq_getElem hlt, Option.getD_some, Nat.testBit_mul_two_pow, Nat.testBit_div_two_pow]
    by_cases hnx : n ≤ x
    · rw [decide_eq_true hnx, decide_eq_true (show n % 64 ≤ x % 64 by omega)]
      rw [show x % 64 - n % 64 + n % 64 = x % 64 by omega]
    · rw [decide_eq_false hnx, decide_eq_false (show ¬ n % 64 ≤ x % 64 by omega)]; simp
  rintro mm ⟨s1, s2, u⟩ c ⟨i, w, f1, f2, f8, f3, f4, f5, f6, f7⟩ hc
  simp only at f1 f2
  subst f1 f2 f5
  refine T_vlen (E := 109) (sz := 1) (s := q) (vs := wds (nts ws)) (.init .last) fun hq => ?_
  have hqn : q.n = ws.length := by simpa [wds, nts] using hq
  (repeat' (first | with_reducible refine T_nn ?_ | ((with_reducible apply T_ldS); (focus rfl); (focus exact hasA); (focus rfl)) | with_reducible refine T_brD (fun _ => ?_) (fun _ => ?_) | with_reducible refine T_brE (fun _ => ?_) (fun _ => ?_)))
  · rename_i hz hge
    refine Bm_close ok (h0 fun x hx => ?_)
    rw [w64 (by omega) (by omega)] at hge
    by_cases hxl : x < lim
    · rcases Nat.lt_trichotomy (x / 64) i with h | h | h
      · exact f6 x hx h
      · have := f7 x h
        have hw0 : w = 0 := by simp only at hz; omega
        rw [hw0, decide_eq_true hx, Bool.true_and, Nat.zero_testBit] at this
        exact this.symm
      · omega
    · exact ok.off x (by omega)
  · rename_i hz hlt2
    have hw0 : w = 0 := by simp only at hz; omega
    rw [w64 (by omega) (by omega)] at hlt2
    have hi : i + 1 < ws.length := by omega
    have e3 : IntKind.wrap .i64 ((i : Int) + 1) = ((i + 1 : Nat) : Int) := by rw [w64 (by omega) (by omega)]; omega
    (dsimp only [bitmap_Set_Next, Zdp0, Zdp1, Zdp2, Zdp3, Zdp4, Zdp5, Zdp6, Zdp7, Zdp8, Zdp9, Zdp10, Zdp11, Zdp12])
    rw [e3]
    refine T_ixV (Rd.vec (E := 109) (s := q) (vs := wds (nts ws)) (.init .last)) (by omega) (by rw [Int.toNat_natCast]; exact nts_at hi) ?_
    refine hc (ws.length - (i + 1)) _ (by omega) ⟨i + 1, ws[i + 1], rfl, rfl, by omega, hi, ok.lt _ (List.getElem_mem hi), rfl, fun x hx hxi => ?_, fun x hx => ?_⟩
    · by_cases hxe : x / 64 = i
      · have := f7 x hxe
        rw [hw0, decide_eq_true hx, Bool.true_and, Nat.zero_testBit] at this
        exact this.symm
      · exact f6 x hx (by omega)
    · rw [ok.eq x]; unfold Uof
      rw [hx, List.getD_eq_getElem?_getD, List.getElem?_eq_getElem hi, Option.getD_some, decide_eq_true (show n ≤ x by omega), Bool.true_and]
  · rename_i hne
    have hw0 : w ≠ 0 := by simp only at hne; omega
    obtain ⟨j, g1, g2, g3⟩ := low_ex f4 hw0
    refine bits_Lowest_c f4 g1 g3 g2 ?_
    (dsimp only [bitmap_Set_Next, Zdp0, Zdp1, Zdp2, Zdp3, Zdp4, Zdp5, Zdp6, Zdp7, Zdp8, Zdp9, Zdp10, Zdp11, Zdp12])
    have e3 : IntKind.wrap .i64 ((IntKind.wrap .i64 ((i : Int) * 64)) + j) = ((64 * i + j : Nat) : Int) := by rw [w64 (n := (i : Int) * 64) (by omega) (by omega), w64 (by omega) (by omega)]; omega
    rw [e3]
    have hx := f7 (64 * i + j) (by omega)
    rw [show (64 * i + j) % 64 = j by omega, g2] at hx
    have hx' := (Bool.and_eq_true_iff.1 hx.symm)
    have hnx : n ≤ 64 * i + j := by simpa using hx'.1
    refine Bm_close ok (h1 _ hnx hx'.2 ?_ fun y hy hyx => ?_)
    · rcases Nat.lt_or_ge (64 * i + j) lim with h | h
      · exact h
      · rw [ok.off _ h] at hx'; cases hx'.2
    · by_cases hyi : y / 64 < i
      · exact f6 y hy hyi
      · have := f7 y (by omega)
        rw [g3 _ (by omega), decide_eq_true hy, Bool.true_and] at this
        exact this.symm
end
end Go.Proofs.YtdgcbapclnnkkaaGreat.X
