/- Part 6 of the proof that the law holds for every input: the theorems of this part. Conditions: each theorem bears its own; the last has none. -/
import Derived.Test.YtdgcbapclnnkkaaGreatKe
import Derived.ChangeKeysEq
import Derived.Test.YtdgcbapclnnkkaaGreatRows
import Derived.WalkKit
import Derived.ProofKit
import Derived.OpenShut
import Derived.JoinedCond
import Derived.ReadAgain
import Derived.Carry
set_option linter.all false
set_option maxRecDepth 4000
namespace Go.Proofs.YtdgcbapclnnkkaaGreat.X
open Go
section
variable {B : World} {P R : SL} {t : K}
theorem ref08_Class_c {o : Ob} {k : Int → K} (hk : T B R (k (kC o))) : T B R (c_ref08_Class o k) := by
  refine T_of (ref08_Class_ok o k) ?_
  (repeat (first | ((with_reducible apply T_ldI); (focus rfl); (focus exact hasA); (focus rfl)) | (with_reducible refine T_al ?_; intro _)))
  refine ref08_Size_c ?_
  refine ref06_Of_c ?_
  exact T.weak hk
theorem ref08_Blocks_c {o : Ob} {k : Int → K} (hk : T B R (k (if (kOf (oSize o)).2 = true then 0 else (oSize o + 511) / 512))) (h0 : oSize o ≠ 0) : T B R (c_ref08_Blocks o k) := by
  refine T_of (ref08_Blocks_ok o k) ?_
  have hr := oSize_rng o
  have h2 : (kOf (oSize o)).2 = true → 0 ≤ (kOf (oSize o)).1 := by
    unfold kOf ofC
    intro h
    split at h
    · rw [if_pos (by assumption)]; exact Int.natCast_nonneg _
    · cases h
  (repeat (first | ((with_reducible apply T_ldI); (focus rfl); (focus exact hasA); (focus rfl)) | (with_reducible refine T_al ?_; intro _)))
  refine ref08_Class_c ?_
  rw [show ((o.1, o.2) : Ob) = o from rfl]
  unfold kC
  by_cases h : (kOf (oSize o)).2 = true
  · rw [if_pos h] at hk ⊢
    refine T_brD (fun _ => ?_) (fun h' => absurd (h2 h) h')
    exact T.weak hk
  · rw [if_neg h] at hk ⊢
    refine T_brD (fun h' => absurd h' (by omega)) (fun _ => ?_)
    (repeat (((with_reducible apply T_ldI); (focus rfl); (focus exact hasA); (focus rfl))))
    refine ref08_Size_c ?_
    rw [show ((o.1, o.2) : Ob) = o from rfl]
    refine ref04_Need_c (by omega) (by omega) ?_
    exact T.weak hk
theorem law07_Ref_c {h : Hd} {k : Hd → K} (hk : T B R (k h)) : T B R (c_law07_Ref h k) := by
  refine T_of (law07_Ref_ok h k) ?_
  (repeat (first | ((with_reducible apply T_ldI); (focus rfl); (focus exact hasA); (focus rfl)) | (with_reducible refine T_al ?_; intro _) | ((with_reducible apply T_st); (focus rfl); (focus exact updA); (focus simp); simp only [List.set, Nat.zero_add, Nat.reduceAdd])))
  refine T.weak ?_
  refine T.weak ?_
  exact hk
theorem law07_Refs_c {x : Sl} {hs : List Hd} (hl : hs.length ≤ 2 ^ 20) (hx : Rd R x 3 (hds hs)) {k : Sl → K} (hk : ∀ s, T B (R * vec 141 3 s (hds hs)) (k s)) : T B R (c_law07_Refs x k) := by
  refine T_of (law07_Refs_ok x k) ?_
  refine T_rdlen hx fun hxn => ?_
  rw [hds_len] at hxn
  refine T_vecN (E := 141) (sz := 3) (s := ⟨none, 0, 0⟩) rfl rfl ?_
  refine T_lpX (fun _ s => R * vec 141 3 s.1 (hds (hs.take s.2.1.toNat))) (fun m (s : Sl × Int × Unit) => ∃ i : Nat, i ≤ hs.length ∧ s.2.1 = i ∧ m = hs.length - i) hs.length rfl ⟨0, by omega, rfl, rfl⟩ ?_
  rintro m ⟨out, s1, u⟩ cc ⟨i, h1, h2, h3⟩ hc
  simp only at h2
  subst h2 h3
  simp only [Int.toNat_natCast]
  (repeat' (with_reducible refine T_brD (fun _ => ?_) (fun _ => ?_)))
  · rename_i hlt
    have hlt' : i < hs.length := by omega
    refine T_ixH (l := hs) hx.init (by omega) (by rw [Int.toNat_natCast]; exact hlt') fun y hy => ?_
    simp only [Int.toNat_natCast] at hy
    refine T_ldAt hy rfl ?_
    refine T_ldAt hy rfl ?_
    refine T_ldAt hy rfl ?_
    refine law07_Ref_c ?_
    refine T_app1 (vs := hds (hs.take i)) (new := [.int .i64 hs[i].1, .int .i64 hs[i].2.1, .int .i64 hs[i].2.2]) kd_hd7 rfl rfl (by rw [hds_len, List.length_take]; omega) fun s' => ?_
    have := hc (hs.length - (i + 1)) (s', IntKind.wrap .i64 ((i : Int) + 1), ()) (by omega) ⟨i + 1, by omega, w64 (by omega) (by omega), rfl⟩
    have e : (IntKind.wrap .i64 ((i : Int) + 1)).toNat = i + 1 := by rw [w64 (by omega) (by omega)]; omega
    simp only [e] at this
    rw [List.take_succ_eq_append_getElem hlt', hds_append] at this
    exact this
  · rename_i hge
    have hi : i = hs.length := by omega
    subst hi
    have := hk out
    rw [List.take_length]
    exact this
end
theorem kd_ln : Kd Tryz.prog 100 219 8 := ⟨by kernel_rfl, by kernel_rfl, by kernel_rfl, by kernel_rfl, by kernel_rfl, by decide +kernel, by decide +kernel⟩
section
variable {B : World} {P R : SL} {t : K}
theorem ref08_Encode_c {a : Int} {o : Ob} {k : Int → K} (hk : T B R (k (oenc a o))) : T B R (c_ref08_Encode o a k) := by
  refine T_of (ref08_Encode_ok o a k) ?_
  (repeat (first | ((with_reducible apply T_ldI); (focus rfl); (focus exact hasA); (focus rfl)) | (with_reducible refine T_al ?_; intro _)))
  refine ref08_Size_c ?_
  (repeat' (first | ((with_reducible apply T_ldI); (focus rfl); (focus exact hasA); (focus rfl)) | with_reducible refine T_brE (fun _ => ?_) (fun _ => ?_)))
  · rename_i h
    (refine T_end hk (by intro t h; repeat (first | exact h | refine T.weak ?_)) ?_)
    unfold oenc; exact if_pos h
  · rename_i h
    have h' : oSize o ≠ 0 := h
    have hr : oRight o := by
      by_cases hr : oRight o
      · exact hr
      · unfold oSize at h'; rw [if_neg hr] at h'; exact absurd rfl h'
    unfold oRight at hr
    try (dsimp only [ref08_Encode, Zce0, Zce1, Zce2, Zce3, Zce4])
    have hn : 0 ≤ oNum o ∧ oNum o < 4294967296 := by unfold oNum; omega
    have e : IntKind.wrap .u32 (IntKind.wrap .i64 (IntKind.wrap .i64 (165 + IntKind.wrap .i64 (256 * o.1)) + IntKind.wrap .i64 (16384 * o.2))) = oNum o := by
      rw [w64 (n := 256 * o.1) (by omega) (by omega), w64 (n := 16384 * o.2) (by omega) (by omega), w64 (n := 165 + 256 * o.1) (by omega) (by omega), w64 (by omega) (by omega), wu32']
      unfold oNum at hn ⊢; omega
    rw [e]
    refine ref02_Seal_c hn.1 hn.2 ?_
    (refine T_end hk (by intro t h; repeat (first | exact h | refine T.weak ?_)) ?_)
    unfold oenc; exact if_neg h'
theorem ref08_Decode_c {a w : Int} (hw : 0 ≤ w ∧ w < 18446744073709551616) {k : Ob × Int → K} (hk : T B R (k (odec a w))) : T B R (c_ref08_Decode a w k) := by
  refine T_of (ref08_Decode_ok a w k) ?_
  (repeat ((with_reducible refine T_al ?_; intro _)))
  try (dsimp only [ref08_Decode, Zcb0, Zcb1, Zcb2, Zcb3, Zcb4, Zcb5, Zcb6, Zcb7, Zcb8, Zcb9, Zcb10, Zcb11])
  refine ref02_Open_c hw ?_
  unfold odec at hk
  unfold openI
  split
  · rename_i ho
    rw [if_pos ho] at hk
    skip
    have hm : 0 ≤ w % 4294967296 ∧ w % 4294967296 < 4294967296 := by omega
    generalize hxw : w % 4294967296 = x at *
    have e1 : IntKind.wrap .i64 (Int.tmod (IntKind.wrap .u32 (Int.tdiv x 256)) 64) = (onum x).1 := by
      show _ = x / 256 % 64
      rw [Int.tdiv_eq_ediv_of_nonneg hm.1, wu32', Int.tmod_eq_emod_of_nonneg (by omega), w64 (by omega) (by omega)]; omega
    have e2 : IntKind.wrap .i64 (Int.tmod (IntKind.wrap .u32 (Int.tdiv x 16384)) 32768) = (onum x).2 := by
      show _ = x / 16384 % 32768
      rw [Int.tdiv_eq_ediv_of_nonneg hm.1, wu32', Int.tmod_eq_emod_of_nonneg (by omega), w64 (by omega) (by omega)]; omega
    try rw [e1, e2]
    refine T_brN ?_
    (repeat (first | with_reducible refine T_brT ?_ | ((with_reducible apply T_ldI); (focus rfl); (focus exact hasA); (focus rfl)) | (with_reducible refine T_al ?_; intro _) | ((with_reducible apply T_st); (focus rfl); (focus exact updA); (focus simp); simp only [List.set, Nat.zero_add, Nat.reduceAdd])))
    refine ref08_Size_c ?_
    (repeat' (first | with_reducible refine T_brT ?_ | ((with_reducible apply T_ldI); (focus rfl); (focus exact hasA); (focus rfl)) | ((with_reducible apply T_st); (focus rfl); (focus exact updA); (focus simp); simp only [List.set, Nat.zero_add, Nat.reduceAdd]) | with_reducible refine T_brE (fun _ => ?_) (fun _ => ?_)))
    · rename_i h0
      have : ¬ oenc a (onum x) = w := by
        intro h
        have h1 : oenc a (onum x) = 0 := if_pos h0
        rw [h1] at h; subst h
        have hx0 : x = 0 := by omega
        subst hx0
        exact absurd h0 (by decide)
      (refine T_end hk (by intro t h; repeat (first | exact h | refine T.weak ?_)) ?_)
      exact if_neg this
    · refine ref08_Encode_c ?_
      (repeat' (first | ((with_reducible apply T_ldI); (focus rfl); (focus exact hasA); (focus rfl)) | ((with_reducible apply T_st); (focus rfl); (focus exact updA); (focus simp); simp only [List.set, Nat.zero_add, Nat.reduceAdd]) | with_reducible refine T_brNE (fun _ => ?_) (fun _ => ?_)))
      · rename_i hne
        (refine T_end hk (by intro t h; repeat (first | exact h | refine T.weak ?_)) ?_)
        exact if_neg hne
      · rename_i he
        (refine T_end hk (by intro t h; repeat (first | exact h | refine T.weak ?_)) ?_)
        exact if_pos he
  · rename_i ho
    rw [if_neg ho] at hk
    (repeat' (first | with_reducible refine T_brF ?_ | ((with_reducible apply T_ldI); (focus rfl); (focus exact hasA); (focus rfl)) | ((with_reducible apply T_st); (focus rfl); (focus exact updA); (focus simp); simp only [List.set, Nat.zero_add, Nat.reduceAdd]) | with_reducible refine T_brN ?_))
    (refine T_end hk (by intro t h; repeat (first | exact h | refine T.weak ?_)) ?_)
    rfl
theorem ref03_Get_c {l : Sl} {ws : List Int} {a : Int} (hx : Rd R l 8 (wds ws)) (h0 : 0 ≤ a) (h1 : a < ws.length) (h8 : ws.length % 8 = 0) (hb : ws.length ≤ 2 ^ 40) {k : Int → K} (hk : T B R (k (getI ws a))) : T B R (c_ref03_Get l a k) := by
  refine T_of (ref03_Get_ok l a k) ?_
  refine T_rdlen hx fun hn => ?_
  rw [wds_len] at hn
  rw [ref03_Get]
  try (dsimp only [ref03_Get, Zcc0, Zcc1, Zcc2, Zcc3, Zcc4])
  rw [w64 (n := 8 * ((l.n : Nat) : Int)) (by omega) (by omega), w64 (n := Int.tdiv a 8) (by rw [Int.tdiv_eq_ediv_of_nonneg h0]; omega) (by rw [Int.tdiv_eq_ediv_of_nonneg h0]; omega), Int.tdiv_eq_ediv_of_nonneg h0, Int.tmod_eq_emod_of_nonneg h0]
  refine T_brD (fun h => by omega) (fun _ => ?_)
  refine T_brD (fun h => by omega) (fun _ => ?_)
  refine T_ixEl (by omega) hx (by omega) (by rw [wds_len]; omega) fun b hb => ?_
  refine T_ixA (by omega) (by omega) ?_
  have hlt : a.toNat < ws.length := by omega
  refine T_ldAt (n := ws[a.toNat]) hb ?_ ?_
  · rw [cut_get (by omega), show (a / 8).toNat * 8 + (a % 8).toNat * 1 = a.toNat by omega]
    exact wds_at hlt
  · unfold getI at hk
    rw [if_neg (by omega), List.getD_eq_getElem?_getD, List.getElem?_eq_getElem hlt] at hk
    exact hk
end
section
set_option maxHeartbeats 1000000
section
variable {B : World} {P R : SL} {t : K}
theorem T_ldSc {a : Addr} {k : Sl → K} {b i : Nat} {l : List Value} {ty : TypeId} {p : Option Addr} {n c : Nat} (ha : a = ⟨b, i, none⟩) (h : Has P b (.cells l.toArray ty)) (hi : l[i]? = some (.slice p n c)) (ht : T B P (k ⟨p, n, c⟩)) : T B P (ldS a k) :=
  T_ldS (n := ⟨p, n, c⟩) ha h hi ht
theorem T_stL {s : Sl} {ws : List Int} {i j x : Int} (hF : Frm P (vec 219 8 s (wds ws)) R) (h0 : 0 ≤ i) (hj0 : 0 ≤ j) (hj : j < 8) (h8 : ws.length % 8 = 0) (hi : i.toNat * 8 + j.toNat < ws.length)
    (ht : T B (R * vec 219 8 s (wds (ws.set (i.toNat * 8 + j.toNat) x))) t) :
    T B P (ixS s.p s.n i 8 fun a => ixA a 8 j 1 fun a => stK (a.add 0) (.int .u64 x) t) := by
  have hl := wds_len ws
  refine T_vopen hF (fun e => by rw [e] at hl; simp at hl; omega) fun b rest h1 h2 h3 h4 => ?_
  refine T_ixS h1 h0 (by omega) ?_
  rw [add_mk, Nat.zero_add]
  refine T_ixA hj0 (by omega) ?_
  rw [add_mk, Nat.mul_one]
  refine T_st (i := i.toNat * 8 + j.toNat) (by rw [add_mk]; rfl) Upd.last (by simp; omega) ?_
  rw [List.set_append_left _ _ (by omega), wds_set]
  refine T_vecI h1 ?_ ?_ h4 ht
  · rw [h2, wds_len, wds_len]; simp
  · rw [h3, wds_len, wds_len]; simp
def padL (l : List Int) (i : Nat) : List Int := l.take i ++ List.replicate (8 * ((i + 7) / 8) - i) 0
theorem padL_len {l : List Int} {i : Nat} (h : i ≤ l.length) : (padL l i).length = 8 * ((i + 7) / 8) := by
  unfold padL; rw [List.length_append, List.length_replicate, List.length_take, Nat.min_eq_left h]; omega
theorem padL_full {l : List Int} (h : l.length % 8 = 0) : padL l l.length = l := by
  unfold padL; rw [List.take_length, show 8 * ((l.length + 7) / 8) - l.length = 0 by omega]; simp
theorem padL_set {l : List Int} {i : Nat} (h : i < l.length) (hm : i % 8 ≠ 0) : (padL l i).set i l[i] = padL l (i + 1) := by
  unfold padL
  rw [show (i + 1 + 7) / 8 = (i + 7) / 8 by omega, List.take_succ_eq_append_getElem h]
  obtain ⟨m, hm⟩ : ∃ m, 8 * ((i + 7) / 8) - i = m + 1 := ⟨8 * ((i + 7) / 8) - i - 1, by omega⟩
  rw [hm, show 8 * ((i + 7) / 8) - (i + 1) = m by omega, List.set_append_right _ _ (by rw [List.length_take]; omega), List.length_take, Nat.min_eq_left (by omega), Nat.sub_self, List.replicate_succ, List.set_cons_zero, List.append_assoc]
  rfl
theorem padL_set0 {l : List Int} {i : Nat} (h : i < l.length) (hm : i % 8 = 0) : (padL l i ++ List.replicate 8 0).set i l[i] = padL l (i + 1) := by
  unfold padL
  rw [show 8 * ((i + 7) / 8) - i = 0 by omega, show 8 * ((i + 1 + 7) / 8) - (i + 1) = 7 by omega, List.take_succ_eq_append_getElem h, List.replicate_zero, List.append_nil,
    List.set_append_right _ _ (by rw [List.length_take]; omega), List.length_take, Nat.min_eq_left (by omega), Nat.sub_self, List.append_assoc]
  rfl
theorem ref03_Load_c {x : Sl} {l : List Int} (hl : l.length ≤ 2 ^ 20) (h8 : l.length % 8 = 0) (hx : Rd R x 1 (wds l)) {k : Sl × Sl × Sl × Sl × Sl × Int × Int × Bool → K}
    (hk : ∀ s r, T B (R * vec 219 8 s (wds l)) (k (s, r))) : T B R (c_ref03_Load x k) := by
  refine T_of (ref03_Load_ok x k) ?_
  refine T_rdlen hx fun hn => ?_
  rw [wds_len, Nat.mul_one] at hn
  rw [ref03_Load]
  refine T_al fun b5 => ?_
  refine T_al fun b4 => ?_
  try (dsimp only [ref03_Load, Zbx0, Zbx1, Zbx2, Zbx3, Zbx4, Zbx5, Zbx6, Zbx7, Zbx8, Zbx9, Zbx10, Zbx11, Zbx12, Zbx13, Zbx14])
  refine T_lpW (fun _ (s : Int × Unit) => R * ex (fun q : Sl => vec 219 8 q (wds (padL l s.1.toNat)) * (pt b5 (.cells #[.slice none 0 0, .slice none 0 0, .slice none 0 0, .slice none 0 0, .slice none 0 0, .int .i64 0, .int .i64 0, .bool false] 103) * pt b4 (.cells #[q.v, .slice none 0 0, .slice none 0 0, .slice none 0 0, .slice none 0 0, .int .i64 0, .int .i64 0, .bool false] 103))))
    (fun n (s : Int × Unit) => ∃ i : Nat, i ≤ l.length ∧ s.1 = i ∧ n = l.length - i) l.length ?_ ⟨0, by omega, rfl, by omega⟩ ?_
  · intro t ht
    refine T_vecN (E := 219) (sz := 8) (s := ⟨none, 0, 0⟩) rfl rfl ?_
    refine T.perm ?_ (T_exI (⟨none, 0, 0⟩ : Sl) ht)
    show R * _ * _ * vec _ _ _ [] = R * (vec _ _ _ [] * _)
    ac_rfl
  rintro n ⟨s1, u⟩ c ⟨i, hi, h1, h2⟩ hc
  simp only at h1
  subst h1 h2
  simp only [Int.toNat_natCast]
  refine T_ex fun q => ?_
  rw [← sep_assoc, ← sep_assoc]
  have hnx : ∀ q' : Sl, i < l.length → T B (R * vec 219 8 q' (wds (padL l (i + 1))) * pt b5 (.cells #[.slice none 0 0, .slice none 0 0, .slice none 0 0, .slice none 0 0, .slice none 0 0, .int .i64 0, .int .i64 0, .bool false] 103) * pt b4 (.cells #[q'.v, .slice none 0 0, .slice none 0 0, .slice none 0 0, .slice none 0 0, .int .i64 0, .int .i64 0, .bool false] 103)) (c (IntKind.wrap .i64 ((i : Int) + 1), ())) := by
    intro q' hlt
    rw [w64 (by omega) (by omega)]
    have := hc (l.length - (i + 1)) (((i : Int) + 1), ()) (by omega) ⟨i + 1, by omega, rfl, rfl⟩
    simp only [show ((i : Int) + 1).toNat = i + 1 by omega] at this
    refine T.perm ?_ (T_exI q' this)
    simp only [sep_assoc]
  have hem : ((i : Nat) : Int).tmod 8 = ((i % 8 : Nat) : Int) := by rw [Int.tmod_eq_emod_of_nonneg (by omega)]; omega
  have hed : IntKind.wrap .i64 (((i : Nat) : Int).tdiv 8) = ((i / 8 : Nat) : Int) := by rw [Int.tdiv_eq_ediv_of_nonneg (by omega), w64 (by omega) (by omega)]; omega
  rw [hem, hed]
  (repeat' (first | with_reducible refine T_tick ?_ | ((with_reducible apply T_ldS); (focus rfl); (focus exact hasA); (focus rfl)) | (with_reducible refine T_al ?_; intro _) | with_reducible refine T_brD (fun _ => ?_) (fun _ => ?_) | with_reducible refine T_brE (fun _ => ?_) (fun _ => ?_)))
  · rename_i hlt hm b3
    have hlt' : i < l.length := by omega
    refine T_bring (X := vec 219 8 q (wds (padL l i))) (.init (.init (.init .last))) ?_
    refine T_append (x := ⟨some ⟨b3, 0, none⟩, 1, 1⟩) (new := wds (List.replicate 8 0)) kd_ln (Rd.one Has.last rfl (Nat.le_refl _)) (wds_scal _) ?_ fun s' => ?_
    · rw [wds_len, padL_len hi]; simp only; omega
    (repeat (first | with_reducible refine T_tick ?_ | ((with_reducible apply T_ldS); (focus rfl); (focus exact hasA); (focus rfl)) | ((with_reducible apply T_st); (focus rfl); (focus exact updA); (focus simp); simp only [List.set, Nat.zero_add, Nat.reduceAdd])))
    refine T_ixV hx.init.init.init.init (by omega) (wds_at (by omega)) ?_
    rw [← show wds (padL l i ++ List.replicate 8 0) = wds (padL l i) ++ wds (List.replicate 8 0) from List.map_append]
    refine T_stL (ws := padL l i ++ List.replicate 8 0) .last (by omega) (by omega) (by omega) ?_ ?_ ?_
    · rw [List.length_append, padL_len hi, List.length_replicate]; omega
    · rw [List.length_append, padL_len hi, List.length_replicate]; omega
    simp only [Int.toNat_natCast]
    rw [show i / 8 * 8 + i % 8 = i by omega, padL_set0 hlt' (by omega)]
    refine T_drop1 (.init .last) ?_
    refine T.perm ?_ (hnx s' hlt')
    ac_rfl
  · rename_i hlt hm
    have hlt' : i < l.length := by omega
    refine T_ixV hx.init.init.init (by omega) (wds_at (by omega)) ?_
    refine T_stL (ws := padL l i) (.init (.init .last)) (by omega) (by omega) (by omega) ?_ ?_ ?_
    · rw [padL_len hi]; omega
    · rw [padL_len hi]; omega
    simp only [Int.toNat_natCast]
    rw [show i / 8 * 8 + i % 8 = i by omega, padL_set hlt' (by omega)]
    refine T.perm ?_ (hnx q hlt')
    ac_rfl
  · have : i = l.length := by omega
    subst this
    rw [padL_full h8]
    refine T_rdlen (Rd.vec (.init (.init .last))) fun hq => ?_
    rw [wds_len] at hq
    refine T_vecN (E := 219) (sz := 8) (s := ⟨none, 0, 0⟩) rfl rfl ?_
    (repeat (first | (first | with_reducible refine T_nn ?_ | with_reducible refine T_tick ?_ | with_reducible refine T_brT ?_ | with_reducible refine T_brF ?_ | with_reducible refine T_chk0 ?_ | ((with_reducible apply T_ldI); (focus rfl); (focus exact hasA); (focus rfl)) | ((with_reducible apply T_ldP); (focus rfl); (focus exact hasA); (focus rfl)) | ((with_reducible apply T_ldS); (focus rfl); (focus exact hasA); (focus rfl)) | ((with_reducible apply T_ldB); (focus rfl); (focus exact hasA); (focus rfl)) | ((with_reducible apply T_ldM); (focus rfl); (focus exact hasA); (focus rfl)) | ((with_reducible apply T_ldF); (focus rfl); (focus exact hasA); (focus rfl)) | ((with_reducible apply T_blob); (focus rfl); (focus exact hasA); (focus rfl)) | (with_reducible refine T_al ?_; intro _) | ((with_reducible apply T_st); (focus rfl); (focus exact updA); (focus simp); simp only [List.set, Nat.zero_add, Nat.reduceAdd]) | ((with_reducible apply T_chk); (focus rfl); (focus exact hasA); (focus rfl))) | ((with_reducible apply T_ldSc); (focus rfl); (focus exact hasA); (focus rfl))))
    refine T_append (s := ⟨none, 0, 0⟩) (x := q) (vs := []) kd_ln (Rd.vec (.init (.init .last))) (wds_scal l) (by simp; omega) fun s' => ?_
    (repeat (first | (first | with_reducible refine T_nn ?_ | with_reducible refine T_tick ?_ | with_reducible refine T_brT ?_ | with_reducible refine T_brF ?_ | with_reducible refine T_chk0 ?_ | ((with_reducible apply T_ldI); (focus rfl); (focus exact hasA); (focus rfl)) | ((with_reducible apply T_ldP); (focus rfl); (focus exact hasA); (focus rfl)) | ((with_reducible apply T_ldS); (focus rfl); (focus exact hasA); (focus rfl)) | ((with_reducible apply T_ldB); (focus rfl); (focus exact hasA); (focus rfl)) | ((with_reducible apply T_ldM); (focus rfl); (focus exact hasA); (focus rfl)) | ((with_reducible apply T_ldF); (focus rfl); (focus exact hasA); (focus rfl)) | ((with_reducible apply T_blob); (focus rfl); (focus exact hasA); (focus rfl)) | (with_reducible refine T_al ?_; intro _) | ((with_reducible apply T_st); (focus rfl); (focus exact updA); (focus simp); simp only [List.set, Nat.zero_add, Nat.reduceAdd]) | ((with_reducible apply T_chk); (focus rfl); (focus exact hasA); (focus rfl))) | ((with_reducible apply T_ldSc); (focus rfl); (focus exact hasA); (focus rfl))))
    refine T_mkV kd_ln (by omega) (by omega) (by omega) fun b => ?_
    (repeat (first | (first | with_reducible refine T_nn ?_ | with_reducible refine T_tick ?_ | with_reducible refine T_brT ?_ | with_reducible refine T_brF ?_ | with_reducible refine T_chk0 ?_ | ((with_reducible apply T_ldI); (focus rfl); (focus exact hasA); (focus rfl)) | ((with_reducible apply T_ldP); (focus rfl); (focus exact hasA); (focus rfl)) | ((with_reducible apply T_ldS); (focus rfl); (focus exact hasA); (focus rfl)) | ((with_reducible apply T_ldB); (focus rfl); (focus exact hasA); (focus rfl)) | ((with_reducible apply T_ldM); (focus rfl); (focus exact hasA); (focus rfl)) | ((with_reducible apply T_ldF); (focus rfl); (focus exact hasA); (focus rfl)) | ((with_reducible apply T_blob); (focus rfl); (focus exact hasA); (focus rfl)) | (with_reducible refine T_al ?_; intro _) | ((with_reducible apply T_st); (focus rfl); (focus exact updA); (focus simp); simp only [List.set, Nat.zero_add, Nat.reduceAdd]) | ((with_reducible apply T_chk); (focus rfl); (focus exact hasA); (focus rfl))) | ((with_reducible apply T_ldSc); (focus rfl); (focus exact hasA); (focus rfl))))
    refine T_mkV kd_bool (by omega) (by omega) (by omega) fun b => ?_
    (repeat (first | (first | with_reducible refine T_nn ?_ | with_reducible refine T_tick ?_ | with_reducible refine T_brT ?_ | with_reducible refine T_brF ?_ | with_reducible refine T_chk0 ?_ | ((with_reducible apply T_ldI); (focus rfl); (focus exact hasA); (focus rfl)) | ((with_reducible apply T_ldP); (focus rfl); (focus exact hasA); (focus rfl)) | ((with_reducible apply T_ldS); (focus rfl); (focus exact hasA); (focus rfl)) | ((with_reducible apply T_ldB); (focus rfl); (focus exact hasA); (focus rfl)) | ((with_reducible apply T_ldM); (focus rfl); (focus exact hasA); (focus rfl)) | ((with_reducible apply T_ldF); (focus rfl); (focus exact hasA); (focus rfl)) | ((with_reducible apply T_blob); (focus rfl); (focus exact hasA); (focus rfl)) | (with_reducible refine T_al ?_; intro _) | ((with_reducible apply T_st); (focus rfl); (focus exact updA); (focus simp); simp only [List.set, Nat.zero_add, Nat.reduceAdd]) | ((with_reducible apply T_chk); (focus rfl); (focus exact hasA); (focus rfl))) | ((with_reducible apply T_ldSc); (focus rfl); (focus exact hasA); (focus rfl))))
    refine T_mkV kd_bool (by omega) (by omega) (by omega) fun b => ?_
    (repeat (first | (first | with_reducible refine T_nn ?_ | with_reducible refine T_tick ?_ | with_reducible refine T_brT ?_ | with_reducible refine T_brF ?_ | with_reducible refine T_chk0 ?_ | ((with_reducible apply T_ldI); (focus rfl); (focus exact hasA); (focus rfl)) | ((with_reducible apply T_ldP); (focus rfl); (focus exact hasA); (focus rfl)) | ((with_reducible apply T_ldS); (focus rfl); (focus exact hasA); (focus rfl)) | ((with_reducible apply T_ldB); (focus rfl); (focus exact hasA); (focus rfl)) | ((with_reducible apply T_ldM); (focus rfl); (focus exact hasA); (focus rfl)) | ((with_reducible apply T_ldF); (focus rfl); (focus exact hasA); (focus rfl)) | ((with_reducible apply T_blob); (focus rfl); (focus exact hasA); (focus rfl)) | (with_reducible refine T_al ?_; intro _) | ((with_reducible apply T_st); (focus rfl); (focus exact updA); (focus simp); simp only [List.set, Nat.zero_add, Nat.reduceAdd]) | ((with_reducible apply T_chk); (focus rfl); (focus exact hasA); (focus rfl))) | ((with_reducible apply T_ldSc); (focus rfl); (focus exact hasA); (focus rfl))))
    exact (hk q _).weak.weak.weak.weak.weak.weak
end
end
section
variable {B : World} {P R : SL} {t : K}
theorem bitmap_Between_c {s lim : Nat} {U : Nat → Bool} {a b : Int} (hl : lim ≤ 2 ^ 40) {k : Int → K}
    (hk : ∀ n : Nat, (n = 0 ↔ ∀ x : Nat, a ≤ x → (x : Int) < b → U x = false) → T B (R * Bm s lim U) (k n)) : T B (R * Bm s lim U) (c_bitmap_Set_Between (da s) a b k) := by
  refine T_of (bitmap_Set_Between_ok _ a b k) ?_
  have loop : ∀ r : Int × Bool, Nxt U lim a r → T B (R * Bm s lim U) (Zea5 (da s) b k 0 r.1 r.2) := by
    intro r hr
    refine T_lpX (fun _ _ => R * Bm s lim U) (fun m (z : Int × Int × Bool × Unit) => ∃ (n : Nat) (c : Int), z.1 = n ∧ a ≤ c ∧ Nxt U lim c (z.2.1, z.2.2.1) ∧ m = (if z.2.2.1 then lim - z.2.1.toNat else 0) ∧ (n : Int) ≤ max 0 c ∧ (n = 0 ↔ ∀ x : Nat, a ≤ x → (x : Int) < c → (x : Int) < b → U x = false)) _ rfl ⟨0, a, rfl, by omega, hr, rfl, by omega, ?_⟩ ?_
    · exact ⟨fun _ x h1 h2 => by omega, fun _ => rfl⟩
    rintro m ⟨z1, z2, z3, u⟩ cc ⟨n, c, e1, e2, e3, e4, e5, e6⟩ hc
    simp only at e1 e3 e4
    subst e1 e4
    rcases e3 with ⟨e3, hz⟩ | ⟨x, e3, h1, h2, h3, h4⟩
    · obtain ⟨rfl, rfl⟩ := Prod.mk.inj e3
      (repeat (with_reducible refine T_brF ?_))
      refine hk n ?_
      rw [e6]
      exact ⟨fun h x g1 g2 => if hx : (x : Int) < c then h x g1 hx g2 else hz x (by omega), fun h x g1 _ g3 => h x g1 g3⟩
    · obtain ⟨rfl, rfl⟩ := Prod.mk.inj e3
      (repeat' (first | with_reducible refine T_brT ?_ | with_reducible refine T_brD (fun _ => ?_) (fun _ => ?_)))
      · rename_i hlt
        simp only at hlt
        (dsimp only [bitmap_Set_Between, Zea0, Zea1, Zea2, Zea3, Zea4, Zea5, Zea6])
        rw [w64 (n := (x : Int) + 1) (by omega) (by omega), w64 (n := (n : Int) + 1) (by omega) (by omega)]
        have nx : ∀ r : Int × Bool, Nxt U lim ((x : Int) + 1) r → T B (R * Bm s lim U) (cc ((n : Int) + 1, r.1, r.2, ())) := by
          intro r hr
          refine hc (if r.2 then lim - r.1.toNat else 0) _ ?_ ⟨n + 1, (x : Int) + 1, by simp, by omega, hr, rfl, by omega, ?_⟩
          · simp only [if_true]
            rcases hr with ⟨rfl, _⟩ | ⟨y, rfl, g1, g2, _⟩
            · simp; omega
            · simp; omega
          · constructor
            · intro h; omega
            · intro h
              have := h x (by omega) (by omega) (by omega)
              rw [h3] at this; cases this
        refine bitmap_Next_c (fun hz => nx (0, false) (.inl ⟨rfl, hz⟩)) (fun y g1 g2 g3 g4 => nx ((y : Int), true) (.inr ⟨y, rfl, g1, g3, g2, g4⟩))
      · rename_i hge
        simp only at hge
        refine hk n ?_
        rw [e6]
        exact ⟨fun h y g1 g2 => if hy : (y : Int) < c then h y g1 hy g2 else h4 y (by omega) (by omega), fun h y g1 _ g3 => h y g1 g3⟩
  refine bitmap_Next_c (fun hz => loop (0, false) (.inl ⟨rfl, hz⟩)) (fun y g1 g2 g3 g4 => loop ((y : Int), true) (.inr ⟨y, rfl, g1, g3, g2, g4⟩))
theorem T_clearI {s : Sl} {l : List Int} {ty o : Nat} {d : Sl} (hd : d = ⟨cutP s.p o s.c 1, s.n - o, s.c - o⟩) (ho : o ≤ l.length) {k : Unit → K}
    (hk : ∀ l' : List Int, l'.length = l.length → l'.take o = l.take o → T B (R * vec 3 1 s (ints l')) (k ())) :
    T B (R * vec 3 1 s (ints l)) (semT Tryz.prog (Builtin.clear_ #[27] ty #[d.v]) (.tup []) k) := by
  intro w hw
  have hlen : s.n = l.length := by
    have := (Rd.vec (E := 3) (s := s) (vs := ints l) (P := R * vec 3 1 s (ints l)) .last B w hw).1
    rw [ints_len] at this; omega
  have hz : zeroP Tryz.prog 3 = some (.int .i64 0) := by kernel_rfl
  subst hd
  unfold semT
  by_cases h0 : s.n - o = 0
  · have hrun : (Builtin.clear_ #[27] ty #[Sl.v ⟨cutP s.p o s.c 1, s.n - o, s.c - o⟩]).run Tryz.prog w = .ok (.tuple #[]) w := by
      rw [h0]
      cases hp : cutP s.p o s.c 1 with
      | none => simp [Builtin.clear_, Sl.v, r_und kd_int.und]
      | some a => simp [Builtin.clear_, Sl.v, r_und kd_int.und]
    rw [hrun]
    exact ⟨(), rfl, hk l rfl rfl w hw⟩
  · rcases vec_cases hw with ⟨h1, h2, h3, _⟩ | ⟨b, rest, h1, h2, h3, h4, hR⟩
    · omega
    · have hdp : cutP s.p o s.c 1 = some ⟨b, o, none⟩ := by
        unfold cutP
        rw [if_neg (by rw [ints_len] at h2 h3; omega), h1]; simp [add_mk]
      obtain ⟨w', hr, hs'⟩ := store_sat (Pg := Tryz.prog) (B := B) (b := b) (o := o) (ty := 3) (P' := fun l => R * pt b (.cells l.toArray 3)) (fun _ _ => Upd.last) (new := List.replicate (s.n - o) (.int .i64 0)) (l := ints l ++ rest) (i := 0) (w := w) rfl (by simp [scal]) (by rw [List.length_append, ints_len]; simp; omega) hR
      obtain ⟨q, hq⟩ : ∃ q, s.n - o = q + 1 := ⟨s.n - o - 1, by omega⟩
      have hzc : (Builtin.zeroCells #[Value.int .i64 0] (s.n - o)).toList = List.replicate (s.n - o) (.int .i64 0) := by
        generalize s.n - o = j
        simp only [Builtin.zeroCells]
        rw [List.eq_replicate_iff]
        refine ⟨by simp, fun x hx => ?_⟩
        simp only [List.size_toArray, List.length_singleton, Nat.mul_one, Nat.mod_one] at hx
        simp at hx
        exact hx.2.symm
      have hrun : (Builtin.clear_ #[27] ty #[Sl.v ⟨cutP s.p o s.c 1, s.n - o, s.c - o⟩]).run Tryz.prog w = .ok (.tuple #[]) w' := by
        rw [hdp]
        have hzc' := hzc
        rw [hq] at hzc' hr ⊢
        rw [← hzc'] at hr
        simp [Builtin.clear_, Sl.v, r_und kd_int.und, r_zero hz, Value.cells, hr]
      rw [hrun]
      rw [Nat.add_zero, splice_append (by simp [ints_len]; omega)] at hs'
      have e : splice (ints l) o (List.replicate (s.n - o) (Value.int .i64 0)) = ints (splice l o (List.replicate (s.n - o) 0)) := by
        unfold ints; rw [splice_map]; simp
      rw [e] at hs'
      refine ⟨(), rfl, hk (splice l o (List.replicate (s.n - o) 0)) (splice_length (by simp; omega)) ?_ w' (vec_mk h1 ?_ ?_ h4 hs')⟩
      · unfold splice
        rw [List.append_assoc, List.take_append_of_le_length (by simp; omega), List.take_take, Nat.min_self]
      · rw [ints_len, splice_length (by simp; omega), ← ints_len]; exact h2
      · rw [ints_len, splice_length (by simp; omega), ← ints_len]; exact h3
end
/-- a function value that answers as p does, where Z stands -/
def Prd (B : World) (Z : SL) (f : Fv) (p : Int → Bool) : Prop := ∀ (X : SL) (x : Int) (k : Bool → K), T B (X * Z) (k (p x)) → T B (X * Z) (dyn Tryz.prog f.v #[.int .i64 x] (.one (.sc .bool)) k)
theorem filter_take {p : Int → Bool} {l : List Int} {j : Nat} (h : j < l.length) : (l.take (j + 1)).filter p = (l.take j).filter p ++ (if p l[j] then [l[j]] else []) := by
  rw [List.take_succ_eq_append_getElem h, List.filter_append]
  congr 1
  by_cases hp : p l[j] = true
  · rw [if_pos hp, List.filter_cons_of_pos hp, List.filter_nil]
  · rw [if_neg hp, List.filter_cons_of_neg hp, List.filter_nil]
section
variable {B : World} {P R Z : SL} {t : K} {f : Fv} {p : Int → Bool}
theorem indexFunc_c (hp : Prd B Z f p) {s : Sl} {l : List Int} (hl : l.length ≤ 2 ^ 40) (h : Rd R s 1 (ints l)) {k : Int → K}
    (h0 : (∀ x ∈ l, p x = false) → T B (R * Z) (k (-1))) (h1 : ∀ (i : Nat) (hi : i < l.length), (∀ x ∈ l.take i, p x = false) → p l[i] = true → T B (R * Z) (k i)) : T B (R * Z) (c_slices_IndexFunc_Sint_int s f k) := by
  refine T_of (slices_IndexFunc_Sint_int_ok s f k) ?_
  refine T_rdlen h.init fun hn => ?_
  rw [ints_len, Nat.mul_one] at hn
  (dsimp only [slices_IndexFunc_Sint_int, Zco0, Zco1, Zco2, Zco3, Zco4, Zco5, Zco6])
  refine T_lpX (fun _ _ => R * Z) (fun n (s : Int × Unit) => ∃ i : Nat, i ≤ l.length ∧ s.1 = i ∧ n = l.length - i ∧ ∀ x ∈ l.take i, p x = false) l.length rfl ⟨0, by omega, rfl, by omega, by simp⟩ ?_
  rintro n ⟨s1, u⟩ c ⟨i, hi, e1, e2, hv⟩ hc
  simp only at e1
  subst e1 e2
  (repeat' (with_reducible refine T_brD (fun _ => ?_) (fun _ => ?_)))
  · rename_i hlt
    have hlt' : i < l.length := by omega
    refine T_ixV h.init (by omega) (n := l[i]) (by rw [Int.toNat_natCast]; exact ints_at hlt') ?_
    refine hp _ _ _ ?_
    refine T_br (fun e => ?_) (fun e => ?_)
    · exact h1 i hlt' hv e
    · refine hc (l.length - (i + 1)) _ (by omega) ⟨i + 1, by omega, w64 (by omega) (by omega), rfl, fun x hx => ?_⟩
      rw [List.take_succ_eq_append_getElem hlt'] at hx
      rcases List.mem_append.1 hx with hx | hx
      · exact hv x hx
      · rw [List.mem_singleton.1 hx]; exact e
  · have : i = l.length := by omega
    subst this
    rw [List.take_length] at hv
    exact h0 hv
theorem deleteFunc_c (hp : Prd B Z f p) {s : Sl} {l : List Int} (hl : l.length ≤ 2 ^ 40) {k : Sl → K}
    (hk : ∀ s', T B (R * vec 3 1 s' (ints (l.filter fun x => !p x)) * Z) (k s')) : T B (R * vec 3 1 s (ints l) * Z) (c_slices_DeleteFunc_Sint_int s f k) := by
  refine T_of (slices_DeleteFunc_Sint_int_ok s f k) ?_
  refine T_vlen (E := 3) (sz := 1) (s := s) (vs := ints l) (.init .last) fun hn => ?_
  rw [ints_len, Nat.mul_one] at hn
  refine indexFunc_c hp hl (Rd.vec (E := 3) (s := s) (vs := ints l) .last) (fun hno => ?_) (fun i hi hbe hpi => ?_)
  · (repeat' (with_reducible refine T_brE (fun _ => ?_) (fun _ => ?_)))
    · have e : (l.filter fun x => !p x) = l := by
        rw [List.filter_eq_self]
        intro x hx; rw [hno x hx]; rfl
      have := hk s
      rw [e] at this
      exact this
    · rename_i h; exact absurd rfl h
  · (repeat' (with_reducible refine T_brE (fun _ => ?_) (fun _ => ?_)))
    · exfalso; omega
    have f0 : (l.take i).filter (fun x => !p x) = l.take i := by
      rw [List.filter_eq_self]
      intro x hx; rw [hbe x hx]; rfl
    rw [w64 (by omega) (by omega)]
    refine T_lpW (fun _ z => ex fun l' : List Int => R * vec 3 1 s (ints l') * Z * pu (l'.length = l.length ∧ l'.take z.1.toNat = (l.take z.2.1.toNat).filter (fun x => !p x) ∧ l'.drop z.2.1.toNat = l.drop z.2.1.toNat))
      (fun n (z : Int × Int × Unit) => ∃ a b : Nat, z.1 = a ∧ z.2.1 = b ∧ a < b ∧ b ≤ l.length ∧ n = l.length - b) (l.length - (i + 1)) (fun t ht => ?_) ⟨i, i + 1, rfl, by simp, by omega, by omega, rfl⟩ ?_
    · intro w hw
      refine ht w (ex_sat l (Sat.puI ⟨rfl, ?_, rfl⟩ hw))
      have e1 : ((i : Int) + 1).toNat = i + 1 := by omega
      rw [e1, Int.toNat_natCast, filter_take hi, f0, hpi]; simp
    rintro n ⟨z1, z2, u⟩ c ⟨a, b, e1, e2, e3, e4, e5⟩ hc
    simp only at e1 e2
    subst e1 e2 e5
    simp only [Int.toNat_natCast]
    refine T_exP fun l' ⟨q1, q2, q3⟩ => ?_
    have nx : ∀ (l2 : List Int) (a' : Nat), b < l.length → a' < b + 1 → l2.length = l.length → l2.take a' = (l.take (b + 1)).filter (fun x => !p x) → l2.drop (b + 1) = l.drop (b + 1) →
        T B (R * vec 3 1 s (ints l2) * Z) (c ((a' : Int), IntKind.wrap .i64 ((b : Int) + 1), ())) := by
      intro l2 a' hb ha r1 r2 r3 w hw
      have ew : IntKind.wrap .i64 ((b : Int) + 1) = ((b + 1 : Nat) : Int) := by rw [w64 (by omega) (by omega)]; omega
      refine hc (l.length - (b + 1)) _ (by omega) ⟨a', b + 1, rfl, ew, ha, by omega, rfl⟩ w (ex_sat l2 (Sat.puI ⟨r1, ?_, ?_⟩ hw))
      · simp only [ew, Int.toNat_natCast]; exact r2
      · simp only [ew, Int.toNat_natCast]; exact r3
    clear hc
    have hlen : (l'.take a).length = a := by simp; omega
    have hbb : ∀ hb : b < l.length, l'[b]'(by omega) = l[b] := by
      intro hb
      have h1 : (l'.drop b)[0]? = (l.drop b)[0]? := by rw [q3]
      rw [List.getElem?_drop, List.getElem?_drop, List.getElem?_eq_getElem (by omega), List.getElem?_eq_getElem (by omega)] at h1
      simpa using h1
    have hdr : l'.drop (b + 1) = l.drop (b + 1) := by
      rw [← List.drop_drop, ← List.drop_drop, q3]
    (repeat' (with_reducible refine T_brD (fun _ => ?_) (fun _ => ?_)))
    · rename_i hlt
      have hb : b < l.length := by omega
      refine T_ixV (Rd.vec (E := 3) (s := s) (vs := ints l') (.init .last)) (by omega) (n := l'[b]'(by omega)) (by rw [Int.toNat_natCast]; exact ints_at (by omega)) ?_
      rw [hbb hb]
      refine hp _ _ _ ?_
      cases hpb : p l[b]
      · simp only [Bool.not_false]
        (repeat (with_reducible refine T_brT ?_))
        refine T_stV (E := 3) (i := (a : Int)) (s := s) (vs := ints l') (.init .last) (by omega) (by rw [ints_len]; omega) ?_
        rw [Int.toNat_natCast, ints_set]
        have ew : IntKind.wrap .i64 ((a : Int) + 1) = ((a + 1 : Nat) : Int) := by rw [w64 (by omega) (by omega)]; omega
        (dsimp only [slices_DeleteFunc_Sint_int, Zcl0, Zcl1, Zcl2, Zcl3, Zcl4, Zcl5, Zcl6, Zcl7, Zcl8, Zcl9, Zcl10, Zcl11, Zcl12, Zcl13, Zcl14])
        rw [ew]
        refine T.perm (by ac_rfl) (nx (l'.set a l[b]) (a + 1) hb (by omega) (by rw [List.length_set]; exact q1) ?_ ?_)
        · rw [filter_take hb, hpb, ← q2]
          have h1 : a < l'.length := by omega
          rw [List.take_succ_eq_append_getElem (by rw [List.length_set]; exact h1), List.take_set_of_le (by omega)]
          simp
        · rw [List.drop_set_of_lt (by omega)]; exact hdr
      · simp only [Bool.not_true]
        (repeat (with_reducible refine T_brF ?_))
        refine nx l' a hb (by omega) q1 ?_ hdr
        rw [filter_take hb, hpb, ← q2]; simp
    · have hb : b = l.length := by omega
      subst hb
      rw [List.take_length] at q2
      refine T_lo (by omega) (by omega) ?_
      rw [Int.toNat_natCast]
      refine T_bring (X := vec 3 1 s (ints l')) (.init .last) ?_
      refine T_clearI (l := l') (o := a) rfl (by omega) fun l2 g1 g2 => ?_
      have hcap : ∀ t, ((s.n ≤ s.c) → T B (R * Z * vec 3 1 s (ints l2)) t) → T B (R * Z * vec 3 1 s (ints l2)) t := by
        intro t h w hw
        have := (Rd.vec (E := 3) (s := s) (vs := ints l2) .last) B w hw
        exact h (by omega) w hw
      refine hcap _ fun hc2 => ?_
      refine T_lo (by omega) (by omega) ?_
      rw [Int.toNat_natCast]
      refine T_vcut (s' := ⟨cutP s.p 0 s.c 1, a - 0, s.c - 0⟩) (n := a) (by omega) (by simp only [cutP_zero]) (by simp) (by simp) (by rw [ints_len]; omega) ?_
      have e3 : (ints l2).take (a * 1) = ints (l.filter fun x => !p x) := by
        unfold ints
        rw [Nat.mul_one, ← List.map_take, g2, q2]
      rw [e3]
      exact T.perm (by ac_rfl) (hk _)
end
def pIn (a b x : Int) : Bool := decide (x ≥ a) && decide (x < b)
def rmN (L : Nat → List Int) (k : Nat) (p : Int → Bool) : Nat → Nat → List Int
  | 0 => setN L k ((L k).filter fun x => !p x)
  | i + 1 => setN (rmN L k p i) (ix i k) ((rmN L k p i (ix i k)).filter fun x => !p x)
theorem rmN_get (L : Nat → List Int) {k : Nat} (hk : k < 32) (p : Int → Bool) : ∀ i, i ≤ 4 → ∀ x, rmN L k p i x = if x = k ∨ (∃ m, m < i ∧ x = ix m k) then (L x).filter (fun x => !p x) else L x := by
  intro i
  induction i with
  | zero =>
    intro _ x
    show setN L k _ x = _
    by_cases e : x = k
    · subst e; rw [setN_same, if_pos (.inl rfl)]
    · rw [setN_ne _ _ e, if_neg]
      rintro (h | ⟨m, h, _⟩)
      · exact e h
      · omega
  | succ i ih =>
    intro hi x
    have ih := ih (by omega)
    show setN (rmN L k p i) (ix i k) _ x = _
    by_cases e : x = ix i k
    · subst e
      rw [setN_same, ih, if_neg, if_pos (.inr ⟨i, by omega, rfl⟩)]
      rintro (h | ⟨m, h, h2⟩)
      · unfold ix at h; omega
      · have := (ix_inj hk hk h2).1; omega
    · rw [setN_ne _ _ e, ih x]
      by_cases e2 : x = k ∨ ∃ m, m < i ∧ x = ix m k
      · rw [if_pos e2, if_pos]
        rcases e2 with h | ⟨m, h, h2⟩
        · exact .inl h
        · exact .inr ⟨m, by omega, h2⟩
      · rw [if_neg e2, if_neg]
        rintro (h | ⟨m, h, h2⟩)
        · exact e2 (.inl h)
        · by_cases e3 : m = i
          · subst e3; exact e h2
          · exact e2 (.inr ⟨m, by omega, h2⟩)
theorem rmN_acc (L : Nat → List Int) {k : Nat} (hk : k < 32) (p : Int → Bool) : accL (rmN L k p 4) k 4 = (accL L k 4).filter (fun x => !p x) ∧ ∀ j, j < 32 → j ≠ k → accL (rmN L k p 4) j 4 = accL L j 4 := by
  have hg := rmN_get L hk p 4 (by omega)
  constructor
  · show (((rmN L k p 4 k ++ rmN L k p 4 (ix 0 k)) ++ rmN L k p 4 (ix 1 k)) ++ rmN L k p 4 (ix 2 k)) ++ rmN L k p 4 (ix 3 k) = ((((L k ++ L (ix 0 k)) ++ L (ix 1 k)) ++ L (ix 2 k)) ++ L (ix 3 k)).filter _
    rw [hg k, if_pos (.inl rfl), hg (ix 0 k), if_pos (.inr ⟨0, by omega, rfl⟩), hg (ix 1 k), if_pos (.inr ⟨1, by omega, rfl⟩), hg (ix 2 k), if_pos (.inr ⟨2, by omega, rfl⟩), hg (ix 3 k), if_pos (.inr ⟨3, by omega, rfl⟩)]
    simp only [List.filter_append]
  · intro j hj hjk
    have h1 : ∀ m, m < 4 → rmN L k p 4 (ix m j) = L (ix m j) := by
      intro m hm
      rw [hg, if_neg]
      rintro (h | ⟨m', h, h2⟩)
      · unfold ix at h; omega
      · exact hjk (ix_inj hj hk h2).2
    have h2 : rmN L k p 4 j = L j := by
      rw [hg, if_neg]
      rintro (h | ⟨m', h, h2⟩)
      · exact hjk h
      · unfold ix at h2; omega
    show (((rmN L k p 4 j ++ rmN L k p 4 (ix 0 j)) ++ rmN L k p 4 (ix 1 j)) ++ rmN L k p 4 (ix 2 j)) ++ rmN L k p 4 (ix 3 j) = ((((L j ++ L (ix 0 j)) ++ L (ix 1 j)) ++ L (ix 2 j)) ++ L (ix 3 j))
    rw [h2, h1 0 (by omega), h1 1 (by omega), h1 2 (by omega), h1 3 (by omega)]
section
variable {B : World} {P R : SL} {t : K}
theorem free_Len_c {a : Nat} {L : Nat → List Int} (hL : ∀ i, i < 160 → (L i).length ≤ 2 ^ 30) {k : Nat} (hk2 : k < 32) {kk : Int → K} (hk : T B (R * Fl a L) (kk (accL L k 4).length)) : T B (R * Fl a L) (c_free_Lists_Len (da a) k kk) := by
  refine T_of (free_Lists_Len_ok _ k kk) ?_
  (dsimp only [free_Lists_Len, Zeq0, Zeq1])
  refine free_List_c hL hk2 fun s => ?_
  refine T_vlen .last fun hn => ?_
  rw [ints_len, Nat.mul_one, sortI, List.length_mergeSort] at hn
  rw [hn]
  exact hk.weak
theorem gone_prd {b1 b2 : Nat} {u v : Int} : Prd B (pt b1 (.cells [.int .i64 u].toArray 3) * pt b2 (.cells [.int .i64 v].toArray 3)) ⟨.func 210, #[], #[.pointer (some ⟨b1, 0, none⟩), .pointer (some ⟨b2, 0, none⟩)]⟩ (pIn u v) := by
  intro X x k hk w hw
  have h : T B (X * (pt b1 (.cells [.int .i64 u].toArray 3) * pt b2 (.cells [.int .i64 v].toArray 3))) (c_free_Lists_Remove_1 x ⟨b1, 0, none⟩ ⟨b2, 0, none⟩ k) := by
    refine T_of (free_Lists_Remove_1_ok _ _ _ k) ?_
    unfold pIn at hk
    rw [← sep_assoc] at hk ⊢
    (repeat (((with_reducible apply T_ldI); (focus rfl); (focus exact hasA); (focus rfl))))
    refine T_br (fun e => ?_) (fun e => ?_)
    · rw [e, Bool.true_and] at hk
      (repeat (((with_reducible apply T_ldI); (focus rfl); (focus exact hasA); (focus rfl))))
      exact hk
    · rw [e, Bool.false_and] at hk
      exact hk
  exact .inl ⟨210, _, rfl, by kernel_rfl, h w hw⟩
theorem free_Remove_c {a : Nat} {L : Nat → List Int} (hL : ∀ i, i < 160 → (L i).length ≤ 2 ^ 30) {k : Nat} (hk2 : k < 32) {u v : Int} {kk : Int → K}
    (hk : ∀ n, T B (R * Fl a (rmN L k (pIn u v) 4)) (kk n)) : T B (R * Fl a L) (c_free_Lists_Remove (da a) k u v kk) := by
  refine T_of (free_Lists_Remove_ok _ k u v kk) ?_
  (repeat ((with_reducible refine T_al ?_; intro _)))
  rename_i b1 b2
  refine class_Right_c ?_
  rw [decide_eq_true (by omega)]
  simp only [Bool.not_true]
  (repeat (with_reducible refine T_brF ?_))
  refine T_bring (X := Fl a L) (by exact frmA) ?_
  refine free_Len_c hL hk2 ?_
  have hp := gone_prd (B := B) (b1 := b1) (b2 := b2) (u := u) (v := v)
  (dsimp only [free_Lists_Remove, Zeb0, Zeb1, Zeb2, Zeb3, Zeb4, Zeb5, Zeb6, Zeb7, Zeb8, Zeb9, Zeb10, Zeb11, Zeb12, Zeb13, Zeb14, Zeb15])
  have hlk := hL k (by omega)
  refine T_tick ?_
  refine Fl_pick (i := k) (by omega) fun S cs r ok => ?_
  unfold da
  (repeat (with_reducible refine T_nn ?_))
  refine T_gld (S := S) (.init .last) hk2 ?_
  (repeat (with_reducible refine T_nn ?_))
  refine T.perm (Q := R * MpF eslot esl r cs * bigX 160 (vI S L) k * pt a (.cells (glob S ++ [Value.map (some r)]).toArray 199) * vec 3 1 (S k) (ints (L k)) * (pt b1 (.cells [.int .i64 u].toArray 3) * pt b2 (.cells [.int .i64 v].toArray 3))) (by ac_rfl) ?_
  refine deleteFunc_c hp (by omega) fun s' => ?_
  refine T.perm (Q := R * pt b1 (.cells [.int .i64 u].toArray 3) * pt b2 (.cells [.int .i64 v].toArray 3) * MpF eslot esl r cs * bigX 160 (vI S L) k * pt a (.cells (glob S ++ [Value.map (some r)]).toArray 199) * vec 3 1 s' (ints ((L k).filter fun x => !pIn u v x))) (by ac_rfl) ?_
  refine T_gst (S := S) (s := s') hk2 (.init .last) ?_
  refine Fl_put (i := k) (by omega) (ok.glob hk2 s') ?_
  have hlen : ∀ i, i ≤ 4 → ∀ x, x < 160 → (rmN L k (pIn u v) i x).length ≤ 2 ^ 30 := by
    intro i hi x hx
    rw [rmN_get L hk2 _ i hi x]
    have := hL x hx
    split
    · exact Nat.le_trans (List.length_filter_le _ _) this
    · exact this
  refine T_lpX (fun _ z => R * pt b1 (.cells [.int .i64 u].toArray 3) * pt b2 (.cells [.int .i64 v].toArray 3) * Fl a (rmN L k (pIn u v) z.1.toNat)) (fun n (z : Int × Unit) => ∃ i : Nat, z.1 = i ∧ i ≤ 4 ∧ n = 4 - i) 4 rfl ⟨0, rfl, by omega, rfl⟩ ?_
  rintro n ⟨z, uu⟩ c ⟨i, e1, e2, e3⟩ hc
  simp only at e1
  subst e1 e3
  simp only [Int.toNat_natCast]
  (repeat' (first | with_reducible refine T_nn ?_ | with_reducible refine T_tick ?_ | (with_reducible refine T_al ?_; intro _) | ((with_reducible apply T_st); (focus rfl); (focus exact updA); (focus simp); simp only [List.set, Nat.zero_add, Nat.reduceAdd]) | with_reducible refine T_brD (fun _ => ?_) (fun _ => ?_)))
  · rename_i hlt b3
    have hi : i < 4 := by omega
    have hix : ix i k < 160 := by unfold ix; omega
    have hnx := hc (4 - (i + 1)) (IntKind.wrap .i64 ((i : Int) + 1), ()) (by omega) ⟨i + 1, w64 (by omega) (by omega), by omega, rfl⟩
    have e : (IntKind.wrap .i64 ((i : Int) + 1)).toNat = i + 1 := by rw [w64 (by omega) (by omega)]; omega
    simp only [e] at hnx
    clear hc
    have hl0 := hlen i e2 _ hix
    have hnx : T B (R * pt b1 (.cells [.int .i64 u].toArray 3) * pt b2 (.cells [.int .i64 v].toArray 3) * Fl a (setN (rmN L k (pIn u v) i) (ix i k) ((rmN L k (pIn u v) i (ix i k)).filter fun x => !pIn u v x))) (c (IntKind.wrap .i64 ((i : Int) + 1), ())) := hnx
    generalize rmN L k (pIn u v) i = L0 at *
    refine T_bring (X := Fl a L0) (by exact frmA) ?_
    refine Fl_pick hix fun S cs r ok => ?_
    (repeat (first | ((with_reducible apply T_ldI); (focus rfl); (focus exact hasA); (focus rfl)) | ((with_reducible apply T_ldM); (focus rfl); (focus exact hasA); (focus rfl))))
    refine T_lkF (ek := eslot) (ev := esl) kd_slot (MHas.init (MHas.init (MHas.init (MHas.of .last)))) (key := ((i : Int), (k : Int))) (f := cs) ((cs ((i : Int), (k : Int))).getD nilS) (by cases cs ((i : Int), (k : Int)) <;> rfl) fun ob => ?_
    have hS := ok.eq i k hi hk2
    refine T_vlen (E := 3) (sz := 1) (s := S (ix i k)) (vs := ints (L0 (ix i k))) .last fun hn => ?_
    rw [ints_len, Nat.mul_one] at hn
    cases hcs : cs ((i : Int), (k : Int)) with
    | none =>
      rw [hcs] at hS
      have hn0 : (S (ix i k)).n = 0 := by rw [← hS]; rfl
      have h0 : L0 (ix i k) = [] := List.eq_nil_of_length_eq_zero (by omega)
      have e0 : setN L0 (ix i k) ((L0 (ix i k)).filter fun x => !pIn u v x) = L0 := by
        rw [h0, List.filter_nil, ← h0, setN_self]
      rw [e0] at hnx
      simp only [Option.isSome_none]
      (repeat (with_reducible refine T_brF ?_))
      refine T_drop1 (by exact frmA : Frm _ (pt b3 (.cells [.int .i64 i, .int .i64 k].toArray 201)) _) ?_
      have h2 := Fl_put (B := B) (R := R * pt b1 (.cells [.int .i64 u].toArray 3) * pt b2 (.cells [.int .i64 v].toArray 3)) (a := a) (i := ix i k) (r := r) (L := L0) (S := S) (cs := cs) (s := S (ix i k)) (l := L0 (ix i k)) hix (by rw [setN_self]; exact ok) (t := c (IntKind.wrap .i64 ((i : Int) + 1), ())) (by rw [setN_self]; exact hnx)
      rw [setN_self] at h2
      exact h2
    | some s0 =>
      rw [hcs] at hS
      simp only [Option.isSome_some, Option.getD_some] at hS ⊢
      subst hS
      (repeat (first | with_reducible refine T_nn ?_ | with_reducible refine T_tick ?_ | with_reducible refine T_brT ?_ | ((with_reducible apply T_ldI); (focus rfl); (focus exact hasA); (focus rfl)) | ((with_reducible apply T_ldM); (focus rfl); (focus exact hasA); (focus rfl))))
      refine T.perm (Q := R * pt b3 (.cells [.int .i64 i, .int .i64 k].toArray 201) * MpF eslot esl r cs * bigX 160 (vI S L0) (ix i k) * pt a (.cells (glob S ++ [Value.map (some r)]).toArray 199) * vec 3 1 (S (ix i k)) (ints (L0 (ix i k))) * (pt b1 (.cells [.int .i64 u].toArray 3) * pt b2 (.cells [.int .i64 v].toArray 3))) (by ac_rfl) ?_
      refine deleteFunc_c hp (by omega) fun s' => ?_
      refine T.perm (Q := R * pt b1 (.cells [.int .i64 u].toArray 3) * pt b2 (.cells [.int .i64 v].toArray 3) * pt b3 (.cells [.int .i64 i, .int .i64 k].toArray 201) * bigX 160 (vI S L0) (ix i k) * pt a (.cells (glob S ++ [Value.map (some r)]).toArray 199) * vec 3 1 s' (ints ((L0 (ix i k)).filter fun x => !pIn u v x)) * MpF eslot esl r cs) (by ac_rfl) ?_
      (repeat (first | with_reducible refine T_chk0 ?_ | ((with_reducible apply T_chk); (focus rfl); (focus exact hasA); (focus rfl))))
      refine T_updM (ek := eslot) (ev := esl) kd_slot (v := s') (key := ((i : Int), (k : Int))) rfl rfl ?_
      refine T_drop1 (by exact frmA : Frm _ (pt b3 (.cells [.int .i64 i, .int .i64 k].toArray 201)) _) ?_
      have h2 := Fl_put (r := r) hix (ok.slot hi hk2 s') hnx
      rw [glob_setN S (by unfold ix; omega)] at h2
      exact T.perm (by ac_rfl) h2
  · have : i = 4 := by omega
    subst this
    refine free_Len_c (hlen 4 (by omega)) hk2 ?_
    skip
    refine T_drop1 (by exact frmA : Frm _ (pt b1 (.cells [.int .i64 u].toArray 3)) _) ?_
    refine T_drop1 (by exact frmA : Frm _ (pt b2 (.cells [.int .i64 v].toArray 3)) _) ?_
    exact hk _
end
section
set_option maxHeartbeats 1000000
theorem hd_one {hs : List Hd} {b : Nat} {h : Hd} (hb : b < hs.length) (i : Nat) : hd (splice hs b [h]) i = if i = b then h else hd hs i := by
  unfold hd
  rw [splice_getD (by simp; omega)]
  simp only [List.length_singleton]
  by_cases e : i = b
  · subst e; rw [if_pos (by omega), if_pos rfl]; simp
  · rw [if_neg (by omega), if_neg e]
theorem hd_lt {hs : List Hd} {b : Nat} (h : (hd hs b).1 ≠ 0) : b < hs.length := by
  refine Classical.byContradiction fun hn => h ?_
  unfold hd; rw [List.getD_eq_getElem?_getD, List.getElem?_eq_none (by omega)]; rfl
theorem pIn_block {b x : Nat} : pIn ((b * 512 : Nat) : Int) (((b * 512 : Nat) : Int) + 512) (x : Int) = decide (x / 512 = b) := by
  unfold pIn
  rw [Bool.eq_iff_iff]
  simp only [Bool.and_eq_true, decide_eq_true_eq]
  omega
theorem Inv.trim {g : Nat} {hs : List Hd} {U : Nat → Bool} {L : Nat → List Int} (h : Inv g hs U L) {b k : Nat} (hk : k < 32) (hb : 1 ≤ b) (hh : hd hs b = (1, (k : Int), 0)) (hu : ∀ x, x / 512 = b → U x = false) :
    Inv g (splice hs b [(0, 0, 0)]) U (rmN L k (pIn ((b * 512 : Nat) : Int) (((b * 512 : Nat) : Int) + 512)) 4) := by
  have hl := h.len
  have hlt : b < hs.length := hd_lt (by rw [hh]; simp)
  have hhd := fun i => hd_one (h := ((0, 0, 0) : Hd)) hlt i
  obtain ⟨a1, a2⟩ := rmN_acc L hk (pIn ((b * 512 : Nat) : Int) (((b * 512 : Nat) : Int) + 512))
  have hw' : ∀ {b0 n0}, WholeP hs b0 n0 → WholeP (splice hs b [(0, 0, 0)]) b0 n0 := by
    intro b0 n0 hw
    refine hw.keep (splice_length (by simp; omega)) fun i h1 h2 => ?_
    rw [hhd, if_neg]
    intro e; subst e
    rcases hw.kind h1 h2 with ⟨_, h3⟩ | ⟨_, h3⟩ <;> (rw [hh] at h3; simp at h3)
  have hsm : ∀ j, j < 32 → ∀ x, SmCell g (splice hs b [(0, 0, 0)]) j x ↔ SmCell g hs j x ∧ x / 512 ≠ b := by
    intro j hj x
    constructor
    · rintro ⟨b', i, h1, h2, h3, h4, rfl⟩
      rw [hhd] at h3
      by_cases e : b' = b
      · rw [if_pos e] at h3; simp at h3
      · rw [if_neg e] at h3
        exact ⟨⟨b', i, h1, h2, h3, h4, rfl⟩, by rw [cellN_blk hj h4]; exact e⟩
    · rintro ⟨⟨b', i, h1, h2, h3, h4, rfl⟩, hne⟩
      rw [cellN_blk hj h4] at hne
      exact ⟨b', i, h1, h2, by rw [hhd, if_neg hne]; exact h3, h4, rfl⟩
  refine ⟨by rw [splice_length (by simp; omega)]; exact hl, h.two, h.big, fun x hx => ?_, ?_, fun b0 hb0 => ?_, fun b0 hb0 => ?_, fun x hx => ?_, ⟨fun j hj => ?_, fun j hj y => ?_⟩⟩
  · unfold splice at hx
    simp only [List.mem_append, List.mem_singleton] at hx
    rcases hx with (hx | rfl) | hx
    · exact h.right x (List.mem_of_mem_take hx)
    · exact .inl rfl
    · exact h.right x (List.mem_of_mem_drop hx)
  · rw [hhd, if_neg (by omega)]; exact h.zero
  · rw [hhd] at hb0
    by_cases e : b0 = b
    · rw [if_pos e] at hb0; simp at hb0
    · rw [if_neg e] at hb0
      obtain ⟨n, hw⟩ := h.whole b0 hb0
      exact ⟨n, hw' hw⟩
  · rw [hhd] at hb0
    by_cases e : b0 = b
    · rw [if_pos e] at hb0; simp at hb0
    · rw [if_neg e] at hb0
      obtain ⟨b1, n, hw, h1, h2⟩ := h.cont b0 hb0
      exact ⟨b1, n, hw' hw, h1, h2⟩
  · rcases h.used x hx with ⟨j, hj, hc⟩ | ⟨b0, n, h1, hw, h2⟩
    · refine .inl ⟨j, hj, (hsm j hj x).2 ⟨hc, fun e => ?_⟩⟩
      rw [hu x e] at hx; cases hx
    · exact .inr ⟨b0, n, h1, hw' hw, h2⟩
  · by_cases e : j = k
    · subst e; rw [a1]; exact (h.free.nd j hj).filter _
    · rw [a2 j hj e]; exact h.free.nd j hj
  · by_cases e : j = k
    · subst e
      rw [a1, List.mem_filter, h.free.mem j hj]
      constructor
      · rintro ⟨⟨x, rfl, h1, h2⟩, h3⟩
        rw [pIn_block] at h3
        exact ⟨x, rfl, (hsm j hj x).2 ⟨h1, by simpa using h3⟩, h2⟩
      · rintro ⟨x, rfl, h1, h2⟩
        obtain ⟨h1, h3⟩ := (hsm j hj x).1 h1
        refine ⟨⟨x, rfl, h1, h2⟩, ?_⟩
        rw [pIn_block]; simpa using h3
    · rw [a2 j hj e, h.free.mem j hj]
      constructor
      · rintro ⟨x, rfl, h1, h2⟩
        refine ⟨x, rfl, (hsm j hj x).2 ⟨h1, fun e2 => ?_⟩, h2⟩
        obtain ⟨b', i, _, _, h3, h4, rfl⟩ := h1
        rw [cellN_blk hj h4] at e2
        subst e2
        rw [hh] at h3
        simp only [Prod.mk.injEq] at h3
        omega
      · rintro ⟨x, rfl, h1, h2⟩
        exact ⟨x, rfl, ((hsm j hj x).1 h1).1, h2⟩
def trimS (s : St) (b k : Nat) (F' : RF) : St := { s with hs := splice s.hs b [(0, 0, 0)], F := F', c := wrH s.c b [(0, 0, 0)], L := rmN s.L k (pIn ((b * 512 : Nat) : Int) (((b * 512 : Nat) : Int) + 512)) 4 }
section
variable {B : World} {P R : SL} {t : K}
theorem Trim_c {a d g : Nat} {s : St} (inv : Inv g s.hs s.U s.L) {b : Int} {kk : Bool × Int → K} (h0 : T B (R * Al a d g s) (kk (false, 0)))
    (h1 : ∀ (n k : Nat) F', b = n → 1 ≤ n → k < 32 → hd s.hs n = (1, (k : Int), 0) → (∀ x, x / 512 = n → s.U x = false) → T B (R * Al a d g (trimS s n k F')) (kk (true, 0))) :
    T B (R * Al a d g s) (c_alloc_Allocator_Trim (da a) b kk) := by
  refine T_of (alloc_Allocator_Trim_ok _ b kk) ?_
  have hg := inv.big
  have hl := inv.len
  refine Al_open fun m u f => ?_
  unfold da
  (repeat (first | with_reducible refine T_nn ?_ | ((with_reducible apply T_ldP); (focus rfl); (focus exact hasA); (focus rfl))))
  refine T_bring (X := Mg m d g s.hs s.F) (by exact frmA) ?_
  refine Mg_open fun tt xx tie => ?_
  unfold da
  (repeat (((with_reducible apply T_ldP); (focus rfl); (focus exact hasA); (focus rfl))))
  refine T_bring (X := Tab tt d g s.hs) (by exact frmA) ?_
  refine blocks_Get_c ?_
  (repeat (first | with_reducible refine T_nn ?_ | ((with_reducible apply T_ldI); (focus rfl); (focus exact hasA); (focus rfl)) | (with_reducible refine T_al ?_; intro _) | ((with_reducible apply T_st); (focus rfl); (focus exact updA); (focus simp); simp only [List.set, Nat.zero_add, Nat.reduceAdd])))
  rename_i b0
  have cl : ∀ t, T B (R * Al a d g s) t → T B (R * LDx d (64 * g) s.c * Bm u (512 * g) s.U * Fl f s.L * pt a (.cells [.pointer (some ⟨m, 0, none⟩), .pointer (some ⟨d, 0, none⟩), .int .i64 g, .pointer (some ⟨u, 0, none⟩), .pointer (some ⟨f, 0, none⟩)].toArray 47) * Idx xx g s.F * pt m (.cells [.pointer (some ⟨tt, 0, none⟩), .pointer (some ⟨xx, 0, none⟩), .int .i64 g].toArray 51) * Tab tt d g s.hs) t := by
    intro t h
    have h2 := Al_close (m := m) (u := u) (f := f) h
    have h3 : T B (R * LDx d (64 * g) s.c * Bm u (512 * g) s.U * Fl f s.L * pt a (.cells [.pointer (da m), .pointer (da d), .int .i64 g, .pointer (da u), .pointer (da f)].toArray 47) * Mg m d g s.hs s.F) t := T.perm (by ac_rfl) h2
    have h4 := Mg_close (a := tt) (x := xx) tie h3
    exact T.perm (by unfold da; ac_rfl) h4
  generalize hh : (if b < 1 then ((0, 0, 0) : Hd) else s.hs.getD b.toNat (0, 0, 0)) = h
  obtain ⟨h1', h2', h3'⟩ := h
  have hb0 : h1' ≠ 0 → 1 ≤ b ∧ hd s.hs b.toNat = (h1', h2', h3') := by
    intro hne
    split at hh
    · simp only [Prod.mk.injEq] at hh; omega
    · exact ⟨by omega, hh⟩
  refine geom_First_c (by omega) ?_
  (dsimp only [alloc_Allocator_Trim, Zfn0, Zfn1, Zfn2, Zfn3, Zfn4, Zfn5, Zfn6, Zfn7, Zfn8, Zfn9, Zfn10])
  refine T_ldI (n := h1') (by rw [add_mk]) .last rfl ?_
  refine T_brNE (fun hne => ?_) (fun heq => ?_)
  · (repeat (with_reducible refine T_brT ?_))
    refine T_drop1 .last ?_
    exact cl _ h0
  subst heq
  obtain ⟨hb1, hbh⟩ := hb0 (by decide)
  obtain ⟨n, rfl⟩ := Int.eq_ofNat_of_zero_le (show 0 ≤ b by omega)
  rw [Int.toNat_natCast] at hbh
  have hlt : n < s.hs.length := hd_lt (by rw [hbh]; simp)
  have hrt := hRight_mem inv.right n
  rw [hbh] at hrt
  unfold hRight at hrt
  simp only [Prod.mk.injEq] at hrt
  obtain ⟨k, rfl⟩ := Int.eq_ofNat_of_zero_le (show 0 ≤ h2' by omega)
  have hk : k < 32 := by omega
  have h30 : h3' = 0 := by omega
  subst h30
  have hf : first g (n : Int) = ((n * 512 : Nat) : Int) := by unfold first; rw [if_neg (by omega)]; omega
  have ew : IntKind.wrap .i64 (((n * 512 : Nat) : Int) + 512) = ((n * 512 : Nat) : Int) + 512 := w64 (by omega) (by omega)
  rw [hf]
  (repeat (first | with_reducible refine T_nn ?_ | ((with_reducible apply T_ldP); (focus rfl); (focus exact hasA); (focus rfl))))
  rw [ew]
  refine T_bring (X := Bm u (512 * g) s.U) (by exact frmA) ?_
  refine bitmap_Between_c (by omega) fun q hq => ?_
  by_cases hq0 : q = 0
  · subst hq0
    have hun : ∀ x, x / 512 = n → s.U x = false := fun x hx => hq.1 rfl x (by omega) (by omega)
    (repeat' (first | with_reducible refine T_nn ?_ | with_reducible refine T_tick ?_ | ((with_reducible apply T_ldI); (focus rfl); (focus exact hasA); (focus rfl)) | ((with_reducible apply T_ldP); (focus rfl); (focus exact hasA); (focus rfl)) | with_reducible refine T_brD (fun _ => ?_) (fun _ => ?_)))
    · exfalso; omega
    refine T_bring (X := Fl f s.L) (by exact frmA) ?_
    refine free_Remove_c (fun i hi => by have := inv.free.lens hg i hi; omega) hk fun _ => ?_
    (repeat (first | with_reducible refine T_nn ?_ | ((with_reducible apply T_ldP); (focus rfl); (focus exact hasA); (focus rfl))))
    refine T_drop1 (by exact frmA : Frm _ (pt b0 (.cells [.int .i64 1, .int .i64 k, .int .i64 0].toArray 143)) _) ?_
    refine T.perm (Q := R * LDx d (64 * g) s.c * pt a (.cells [.pointer (some ⟨m, 0, none⟩), .pointer (some ⟨d, 0, none⟩), .int .i64 g, .pointer (some ⟨u, 0, none⟩), .pointer (some ⟨f, 0, none⟩)].toArray 47) * Bm u (512 * g) s.U * Fl f (rmN s.L k (pIn ((n * 512 : Nat) : Int) (((n * 512 : Nat) : Int) + 512)) 4) * Tab tt d g s.hs * Idx xx g s.F * pt m (.cells [.pointer (da tt), .pointer (da xx), .int .i64 g].toArray 51)) (by unfold da; ac_rfl) ?_
    refine Mg_close tie ?_
    refine T_bring (X := LDx d (64 * g) s.c) (by exact frmA) ?_
    refine T_bring (X := Mg m d g s.hs s.F) (by exact frmA) ?_
    refine bman_Release_c (nn := 1) rfl (by omega) (.inl ⟨by rw [show s.hs.getD n (0, 0, 0) = hd s.hs n from rfl, hbh], rfl, hlt⟩) fun F' tie' => ?_
    (repeat' (with_reducible refine T_brNE (fun _ => ?_) (fun _ => ?_)))
    · rename_i h; exact absurd rfl h
    have h2 := Al_close (m := m) (u := u) (f := f) (h1 n k F' rfl (by omega) hk hbh hun)
    exact T.perm (by unfold da; ac_rfl) h2
  · (repeat' (first | with_reducible refine T_nn ?_ | with_reducible refine T_tick ?_ | ((with_reducible apply T_ldI); (focus rfl); (focus exact hasA); (focus rfl)) | ((with_reducible apply T_ldP); (focus rfl); (focus exact hasA); (focus rfl)) | with_reducible refine T_brD (fun _ => ?_) (fun _ => ?_)))
    · refine T.perm (Q := R * LDx d (64 * g) s.c * Bm u (512 * g) s.U * Fl f s.L * pt a (.cells [.pointer (some ⟨m, 0, none⟩), .pointer (some ⟨d, 0, none⟩), .int .i64 g, .pointer (some ⟨u, 0, none⟩), .pointer (some ⟨f, 0, none⟩)].toArray 47) * Idx xx g s.F * pt m (.cells [.pointer (some ⟨tt, 0, none⟩), .pointer (some ⟨xx, 0, none⟩), .int .i64 g].toArray 51) * Tab tt d g s.hs * pt b0 (.cells [.int .i64 1, .int .i64 k, .int .i64 0].toArray 143)) (by ac_rfl) ?_
      refine T_drop1 .last ?_
      exact cl _ h0
    · exfalso; omega
end
end
section
set_option maxHeartbeats 1000000
/-- the device's words fit what the allocator knows -/
structure Pl (g : Nat) (s : St) : Prop where
  len : s.c.length = 512 * g
  hdr : ∀ b : Nat, 1 ≤ b → b < g → getI s.c (256 + b) = benc b (hd s.hs b)
  obj : ∀ x, s.U x = true → ∃ o, PlOk s.c (64 * g) s.hs g (x : Int) o
  large : ∀ b n, 1 ≤ b → WholeP s.hs b n → s.U (b * 512) = true
theorem oHead_keep {c c' : List Int} {n : Nat} {a : Int} (h : getI c' a = getI c a) : oHead c' n a = oHead c n a := by unfold oHead; rw [h]
theorem getI_nat (c : List Int) (x : Nat) : getI c (x : Int) = c.getD x 0 := by unfold getI; rw [if_neg (by omega), Int.toNat_natCast]
theorem getI_eq {c c' : List Int} {x : Nat} (h : c'[x]? = c[x]?) : getI c' (x : Int) = getI c (x : Int) := by rw [getI_nat, getI_nat, List.getD_eq_getElem?_getD, List.getD_eq_getElem?_getD, h]
theorem PlOk.keep {c c' : List Int} {n g x : Nat} {hs hs' : List Hd} {o : Ob} (h : PlOk c n hs g (x : Int) o) (hl : hs'.length = hs.length) (hc : c'[x]? = c[x]?) (hh : hd hs' (x / 512) = hd hs (x / 512)) (hw : ∀ m, WholeP hs (x / 512) m → WholeP hs' (x / 512) m) : PlOk c' n hs' g (x : Int) o := by
  obtain ⟨h1, h2, h3, h4⟩ := h
  obtain ⟨x', e1, e2, _, _⟩ := blockOf_nat h2
  have : x' = x := by omega
  subst this
  refine ⟨by rw [oHead_keep (getI_eq hc)]; exact h1, h2, by rw [hl]; exact h3, ?_⟩
  rw [e2, Int.toNat_natCast] at h4 ⊢
  rcases h4 with ⟨k, g1, g2, g3, g4⟩ | ⟨g1, m, g2, g3, g4⟩
  · exact .inl ⟨k, g1, g2, g3, by rw [hh]; exact g4⟩
  · exact .inr ⟨g1, m, hw m g2, g3, g4⟩
/-- an object's place -/
theorem PlOk.place {c : List Int} {n g x : Nat} {hs : List Hd} {o : Ob} (h : PlOk c n hs g (x : Int) o) : x < 512 * g ∧ 512 ≤ x ∧ oHead c n x = (o, 0) ∧
    ((∃ k : Nat, k < 32 ∧ kOf (oSize o) = ((k : Int), true) ∧ SmCell g hs k x) ∨ (∃ b m : Nat, x = b * 512 ∧ 1 ≤ b ∧ kOf (oSize o) = (0, false) ∧ WholeP hs b m ∧ (m : Int) = oBlocks o)) := by
  obtain ⟨h1, h2, h3, h4⟩ := h
  obtain ⟨x', e1, e2, e3, e4⟩ := blockOf_nat h2
  have : x' = x := by omega
  subst this
  refine ⟨by omega, e4, h1, ?_⟩
  rcases h4 with ⟨k, g1, g2, g3, g4⟩ | ⟨g1, m, g2, g3, g4⟩
  · obtain ⟨y, e5, hc⟩ := cellOf_sm g1 h2 g3 g4
    have : y = x' := by omega
    subst this
    exact .inl ⟨k, g1, g2, hc⟩
  · rw [e2] at g3
    rw [e2, Int.toNat_natCast] at g2
    have hb : x' = x' / 512 * 512 := by
      unfold first at g3
      split at g3 <;> omega
    exact .inr ⟨x' / 512, m, hb, by omega, g1, g2, g4⟩
theorem blockOf_of {g x : Nat} (h : x < 512 * g) : blockOf g (x : Int) = ((x / 512 : Nat) : Int) := by unfold blockOf; rw [if_neg (by omega)]; omega
theorem oRight_of {o : Ob} (h : oSize o ≠ 0) : oRight o := by
  by_cases hr : oRight o
  · exact hr
  · exact absurd (by unfold oSize; rw [if_neg hr]) h
theorem oHead_of {c : List Int} {n x : Nat} {o : Ob} (h : getI c x = oenc x o) (hz : oSize o ≠ 0) (hf : (x : Int) + oSize o ≤ ((8 * n : Nat) : Int)) : oHead c n x = (o, 0) := by
  have hr := oSize_rng o
  unfold oHead
  rw [h, odec_oenc (oRight_of hz), if_neg]
  simp only
  omega
theorem PlOk.small {c : List Int} {g x k : Nat} {hs : List Hd} {o : Ob} (hl : hs.length = g) (hh : oHead c (64 * g) x = (o, 0)) (hk : k < 32) (hko : kOf (oSize o) = ((k : Int), true)) (hc : SmCell g hs k x) : PlOk c (64 * g) hs g (x : Int) o := by
  obtain ⟨b, i, h1, h2, h3, h4, rfl⟩ := hc
  have hr := cellN_rng (b := b) hk h4
  obtain ⟨t1, t2, t3, t4, t5, t6, t7, t8⟩ := cls_tab k hk
  have hlt : cellN b k i < 512 * g := by omega
  have hb := blockOf_of hlt
  rw [cellN_blk hk h4] at hb
  refine ⟨hh, by omega, by omega, .inl ⟨k, hk, hko, ?_, by rw [hb, Int.toNat_natCast]; exact h3⟩⟩
  unfold cellOf
  rw [if_neg (by rw [hb]; omega), hb]
  simp only [decide_eq_true_eq, t1]
  have e : ((cellN b k i : Nat) : Int) % 512 / (cw k : Int) = ((i : Nat) : Int) := by
    have e1 : cellN b k i % 512 = i * cw k := by
      have h5 := hr.2
      have h6 := hr.1
      unfold cellN at h5 h6 ⊢
      omega
    have e2 : ((cellN b k i : Nat) : Int) % 512 = ((i * cw k : Nat) : Int) := by omega
    rw [e2, ← Int.natCast_ediv, Nat.mul_div_cancel _ (by omega)]
  rw [e]
  exact cellAt_eq hk h1 h2 h4
theorem PlOk.large {c : List Int} {g b m : Nat} {hs : List Hd} {o : Ob} (hl : hs.length = g) (hh : oHead c (64 * g) ((b * 512 : Nat) : Int) = (o, 0)) (hb : 1 ≤ b) (hko : kOf (oSize o) = (0, false)) (hw : WholeP hs b m) (hm : (m : Int) = oBlocks o) : PlOk c (64 * g) hs g ((b * 512 : Nat) : Int) o := by
  have := hw.1
  have := hw.2.1
  have hlt : b * 512 < 512 * g := by omega
  have hbo := blockOf_of hlt
  rw [Nat.mul_div_cancel _ (by omega)] at hbo
  refine ⟨hh, by omega, by omega, .inr ⟨hko, m, by rw [hbo, Int.toNat_natCast]; exact hw, ?_, hm⟩⟩
  rw [hbo]; unfold first; rw [if_neg (by omega)]; omega
theorem WholeP.disj {hs : List Hd} {b n b' n' i : Nat} (h : WholeP hs b n) (h' : WholeP hs b' n') (hne : b' ≠ b) (h1 : b ≤ i) (h2 : i < b + n) : ¬ (b' ≤ i ∧ i < b' + n') := by
  intro e
  rcases h.kind h1 h2 with ⟨h3, h4⟩ | ⟨h3, h4⟩ <;> rcases h'.kind e.1 e.2 with ⟨h5, h6⟩ | ⟨h5, h6⟩
  · omega
  · omega
  · omega
  · have e1 := h.2.2.2.2 (i - b) (by omega) (by omega)
    have e2 := h'.2.2.2.2 (i - b') (by omega) (by omega)
    rw [show b + (i - b) = i by omega] at e1
    rw [show b' + (i - b') = i by omega] at e2
    rw [e1] at e2
    simp only [Prod.mk.injEq] at e2
    omega
/-- only free blocks' headers are turned -/
def Chg (hs hs' : List Hd) : Prop := hs'.length = hs.length ∧ ∀ i, (hd hs i).1 ≠ 0 → hd hs' i = hd hs i
theorem Chg.whole {hs hs' : List Hd} {b n : Nat} (h : Chg hs hs') (hw : WholeP hs b n) : WholeP hs' b n :=
  hw.keep h.1 fun i h1 h2 => h.2 i (by rcases hw.kind h1 h2 with ⟨_, h3⟩ | ⟨_, h3⟩ <;> omega)
theorem PlOk.chg {c c' : List Int} {n g x : Nat} {hs hs' : List Hd} {o : Ob} (h : PlOk c n hs g (x : Int) o) (hg : Chg hs hs') (hc : c'[x]? = c[x]?) : PlOk c' n hs' g (x : Int) o := by
  refine h.keep hg.1 hc (hg.2 _ ?_) (fun m hw => hg.whole hw)
  obtain ⟨_, _, _, h4⟩ := h.place
  rcases h4 with ⟨k, hk, _, b, i, _, _, h1, h2, rfl⟩ | ⟨b, m, rfl, _, _, hw, _⟩
  · rw [cellN_blk hk h2, h1]; simp
  · rw [Nat.mul_div_cancel _ (by omega)]
    have := hw.2.2.1
    unfold hd; omega
theorem hdr_put {g b : Nat} {c : List Int} {hs xs : List Hd} (hl : hs.length = g) (hc : c.length = 512 * g) (hfit : b + xs.length ≤ g) (h : ∀ b' : Nat, 1 ≤ b' → b' < g → getI c (256 + b') = benc b' (hd hs b')) :
    ∀ b' : Nat, 1 ≤ b' → b' < g → getI (wrH c b xs) (256 + b') = benc b' (hd (splice hs b xs) b') := by
  intro b' h1 h2
  have e : (256 + (b' : Int)) = ((256 + b' : Nat) : Int) := by omega
  rw [e, getI_nat, List.getD_eq_getElem?_getD, wrH_get]
  unfold hd
  rw [splice_getD (by omega)]
  by_cases hin : b ≤ b' ∧ b' < b + xs.length
  · rw [if_neg (by omega), if_pos hin, show 256 + b' - (256 + b) = b' - b by omega, List.getElem?_eq_getElem (by omega), List.getD_eq_getElem?_getD, List.getElem?_eq_getElem (by omega)]
    simp only [Option.map_some, Option.getD_some]
    congr 1; omega
  · rw [if_pos (by omega), if_neg hin, ← List.getD_eq_getElem?_getD, ← getI_nat, ← e]
    exact h b' h1 h2
theorem RoomR.chg {g : Nat} {s s1 : St} {o : Ob} {x : Nat} (tie : Tie g s.hs s.F) (h : RoomR g s o s1 x) : Chg s.hs s1.hs := by
  have hl := tie.len
  rcases h with ⟨k, _, _, _, h⟩ | ⟨n, _, _, _, _, h⟩
  · rcases h.from_ with ⟨h1, _⟩ | ⟨b, q, h1, h2, _, _, h3, h4, _⟩
    · rw [h1]; exact ⟨rfl, fun _ _ => rfl⟩
    · rw [h4]
      refine ⟨splice_length (by simp; omega), fun i hi => ?_⟩
      rw [hd_one (by omega), if_neg]
      intro e; subst e; exact hi h3
  · obtain ⟨b, q, _, h1, h2, _, h3, h4, _, h5, _⟩ := h.from_
    rw [h5]
    have hfit : b + (runH n).length ≤ s.hs.length := by rw [runH_len]; omega
    refine ⟨splice_length hfit, fun i hi => ?_⟩
    unfold hd
    rw [splice_getD hfit, if_neg]
    rintro ⟨e1, e2⟩
    rw [runH_len] at e2
    have := (tie.fr i).1 ⟨(b : Int), q, h3, by omega, by omega⟩
    rw [Int.toNat_natCast] at this
    exact hi this.2.2
/-- what stands behind an object that is made isn't touched -/
theorem RoomR.apart {g : Nat} {s s1 : St} {o : Ob} {x y : Nat} (h : RoomR g s o s1 x) (hz : oSize o ≠ 0) (hy : s.U y = true) : y ≠ x ∧ ¬ (x < y ∧ y < x + (oSize o).toNat) := by
  obtain ⟨inv, hun, _⟩ := h.inv
  have hr := oSize_rng o
  refine ⟨fun e => (by subst e; rw [hun] at hy; cases hy), ?_⟩
  rintro ⟨e1, e2⟩
  have hy' : uAdd s.U x y = true := by unfold uAdd; rw [hy]; simp
  rcases h with ⟨k, hk, hko, hs, h⟩ | ⟨n, hk, hb, _, _, h⟩
  · obtain ⟨b, i, h1, h2, h3, h4, rfl⟩ := h.cell
    have r1 := cellN_rng (b := b) hk h4
    have hyb : y / 512 = b := by omega
    rcases inv.used y hy' with ⟨k', hk', b', i', g1, g2, g3, g4, rfl⟩ | ⟨b', n', g1, hw, rfl⟩
    · rw [cellN_blk hk' g4] at hyb
      subst hyb
      rw [h3] at g3
      simp only [Prod.mk.injEq] at g3
      have : k' = k := by omega
      subst this
      unfold cellN at e1 e2
      rcases Nat.lt_or_ge i i' with hi | hi
      · have := Nat.mul_le_mul_right (cw k') (show i + 1 ≤ i' from hi)
        rw [Nat.add_mul, Nat.one_mul] at this
        omega
      · have := Nat.mul_le_mul_right (cw k') hi
        omega
    · rw [Nat.mul_div_cancel _ (by omega)] at hyb
      subst hyb
      have := hw.2.2.1
      unfold hd at h3
      rw [h3] at this; simp at this
  · obtain ⟨b, q, rfl, h1, h2, hw, _⟩ := h.from_
    unfold oBlocks at hb
    have : ¬ (1 ≤ oSize o ∧ oSize o ≤ 256) := by
      intro hh
      unfold kOf at hk
      rw [if_pos hh] at hk
      simp at hk
    rw [if_neg this] at hb
    have hyb : b ≤ y / 512 ∧ y / 512 < b + n := by omega
    rcases inv.used y hy' with ⟨k', hk', b', i', g1, g2, g3, g4, rfl⟩ | ⟨b', n', g1, hw', rfl⟩
    · rw [cellN_blk hk' g4] at hyb
      rcases hw.kind hyb.1 hyb.2 with ⟨_, h3⟩ | ⟨_, h3⟩ <;> (rw [g3] at h3; simp at h3)
    · rw [Nat.mul_div_cancel _ (by omega)] at hyb
      have hne : b' ≠ b := by intro e; subst e; omega
      exact hw.disj hw' hne hyb.1 hyb.2 ⟨by omega, by have := hw'.1; omega⟩
theorem made_get {s1 : St} {o : Ob} {x y : Nat} (h1 : y ≠ x) (h2 : ¬ (x < y ∧ y < x + (oSize o).toNat)) : (made s1 o x).c[y]? = s1.c[y]? := by
  show ((zerN s1.c x (oSize o).toNat).set x (oenc x o))[y]? = _
  rw [List.getElem?_set, if_neg (Ne.symm h1), zerN_get, if_neg (by omega)]
theorem zerN_length (c : List Int) (a : Nat) : ∀ y, (zerN c a y).length = c.length
  | 0 => rfl
  | 1 => rfl
  | y + 2 => by show ((zerN c a (y + 1)).set _ _).length = _; rw [List.length_set]; exact zerN_length c a (y + 1)
theorem Pl.made {g : Nat} {s s1 : St} {o : Ob} {x : Nat} (h : Pl g s) (inv : Inv g s.hs s.U s.L) (tie : Tie g s.hs s.F) (hg : g ≤ 255) (hz : oSize o ≠ 0) (hr : RoomR g s o s1 x) : Pl g (made s1 o x) := by
  obtain ⟨inv1, hun, hu⟩ := hr.inv
  obtain ⟨f1, f2⟩ := hr.fits hz
  have hrng := oSize_rng o
  have hchg := hr.chg tie
  have hl := inv.len
  have hc1 : s1.c.length = 512 * g ∧ (∀ y, 512 ≤ y → s1.c[y]? = s.c[y]?) ∧ (∀ b' : Nat, 1 ≤ b' → b' < g → getI s1.c (256 + b') = benc b' (hd s1.hs b')) := by
    have key : ∀ b xs, 1 ≤ b → b + xs.length ≤ g → s1.hs = splice s.hs b xs → s1.c = wrH s.c b xs → s1.c.length = 512 * g ∧ (∀ y, 512 ≤ y → s1.c[y]? = s.c[y]?) ∧ (∀ b' : Nat, 1 ≤ b' → b' < g → getI s1.c (256 + b') = benc b' (hd s1.hs b')) := by
      intro b xs hb hf e1 e2
      rw [e1, e2]
      refine ⟨by rw [wrH_length]; exact h.len, fun y hy => by rw [wrH_get, if_pos (by omega)], hdr_put hl h.len hf h.hdr⟩
    rcases hr with ⟨k, _, _, _, hr⟩ | ⟨n, _, _, _, _, hr⟩
    · rcases hr.from_ with ⟨h1, _, h2, _⟩ | ⟨b, q, h1, h2, _, _, h3, h4, _, h5, _⟩
      · rw [h1, h2]; exact ⟨h.len, fun _ _ => rfl, h.hdr⟩
      · exact key b _ h1 (by simp; omega) h4 h5
    · obtain ⟨b, q, _, h1, h2, _, h3, h4, _, h5, _, h6⟩ := hr.from_
      exact key b _ h1 (by rw [runH_len]; omega) h5 h6
  obtain ⟨c1, c2, c3⟩ := hc1
  have hlen : (X.made s1 o x).c.length = 512 * g := by
    show ((zerN s1.c x (oSize o).toNat).set x (oenc x o)).length = _
    rw [List.length_set, zerN_length]; exact c1
  refine ⟨hlen, fun b' h1 h2 => ?_, fun y hy => ?_, fun b n hb hw => ?_⟩
  · have e : (256 + (b' : Int)) = ((256 + b' : Nat) : Int) := by omega
    show _ = benc b' (hd s1.hs b')
    rw [← c3 b' h1 h2, e]
    exact getI_eq (made_get (by omega) (by omega))
  · have hy : uAdd s1.U x y = true := hy
    unfold uAdd at hy
    simp only [Bool.or_eq_true, beq_iff_eq] at hy
    rcases hy with rfl | hy
    · have hhead : oHead (X.made s1 o y).c (64 * g) y = (o, 0) := by
        refine oHead_of ?_ hz (by omega)
        rw [getI_nat, List.getD_eq_getElem?_getD]
        show (((zerN s1.c y (oSize o).toNat).set y (oenc y o))[y]?).getD 0 = _
        rw [List.getElem?_set, if_pos rfl, if_pos (by rw [zerN_length]; omega)]; rfl
      refine ⟨o, ?_⟩
      rcases hr with ⟨k, hk, hko, _, hr⟩ | ⟨n, hko, hb, _, _, hr⟩
      · exact .small inv1.len hhead hk hko hr.cell
      · obtain ⟨b, q, rfl, h1, h2, hw, _⟩ := hr.from_
        exact .large inv1.len hhead h1 hko hw hb.symm
    · rw [hu] at hy
      obtain ⟨o', ho⟩ := h.obj y hy
      obtain ⟨p1, p2, _⟩ := ho.place
      obtain ⟨q1, q2⟩ := hr.apart hz hy
      exact ⟨o', ho.chg hchg (by rw [made_get q1 q2]; exact c2 y p2)⟩
  · have hw : WholeP s1.hs b n := hw
    show uAdd s1.U x (b * 512) = true
    unfold uAdd
    rw [hu]
    simp only [Bool.or_eq_true, beq_iff_eq]
    rcases hr with ⟨k, hk, hko, _, hr⟩ | ⟨n', hko, _, hn', _, hr⟩
    · right
      rcases hr.from_ with ⟨h1, _⟩ | ⟨b0, q, h1, h2, _, _, h3, h4, _⟩
      · rw [h1] at hw; exact h.large b n hb hw
      · refine h.large b n hb ?_
        rw [h4] at hw
        refine hw.keep (splice_length (by simp; omega)).symm fun i h5 h6 => ?_
        have hne : i ≠ b0 := by
          intro e; subst e
          rcases hw.kind h5 h6 with ⟨_, h7⟩ | ⟨_, h7⟩ <;> (rw [hd_one (by omega), if_pos rfl] at h7; simp at h7)
        rw [hd_one (by omega), if_neg hne]
    · obtain ⟨b0, q, rfl, h1, h2, hw0, h3, h4, _, h5, _⟩ := hr.from_
      by_cases e : b = b0
      · exact .inl (by rw [e])
      · right
        refine h.large b n hb ?_
        have hfit : b0 + (runH n').length ≤ s.hs.length := by rw [runH_len]; omega
        refine WholeP.keep (hs := s1.hs) (by rw [h5]; exact (splice_length hfit).symm) hw fun i h6 h7 => ?_
        have hd := hw.disj hw0 (Ne.symm e) h6 h7
        rw [h5]
        unfold X.hd
        rw [splice_getD hfit, if_neg (by rw [runH_len]; exact hd)]
theorem Pl.freed {g : Nat} {s s' : St} {x : Nat} (h : Pl g s) (inv : Inv g s.hs s.U s.L) (hg : g ≤ 255) (hf : FreeR g s s' x) : Pl g s' := by
  have hl := inv.len
  rcases hf.from_ with ⟨k, hk, hc, e1, e2, e3, _⟩ | ⟨b, n, rfl, hb, hw, e1, e3, _⟩
  · refine ⟨by rw [e3]; exact h.len, fun b' h1 h2 => by rw [e3, e1]; exact h.hdr b' h1 h2, fun y hy => ?_, fun b n hb hw => ?_⟩
    · rw [hf.u] at hy
      unfold uDrop at hy
      simp only [Bool.and_eq_true] at hy
      rw [e1, e3]; exact h.obj y hy.2
    · rw [e1] at hw
      have hu := h.large b n hb hw
      rw [hf.u]
      unfold uDrop
      simp only [Bool.and_eq_true, bne_iff_ne]
      refine ⟨fun e => ?_, hu⟩
      obtain ⟨b', i, _, _, h3, h4, h5⟩ := hc
      have := cellN_blk (b := b') hk h4
      have : b' = b := by omega
      subst this
      have := hw.2.2.1
      unfold hd at h3
      rw [h3] at this; simp at this
  · have hfit : b + (List.replicate n ((0, 0, 0) : Hd)).length ≤ s.hs.length := by simp; exact hw.2.1
    have hfit' : b + n ≤ g := by have := hw.2.1; omega
    have hhd : ∀ i, ¬ (b ≤ i ∧ i < b + n) → hd s'.hs i = hd s.hs i := by
      intro i hi
      rw [e1]; unfold hd
      rw [splice_getD hfit, List.length_replicate, if_neg hi]
    have hhz : ∀ i, b ≤ i ∧ i < b + n → hd s'.hs i = (0, 0, 0) := by
      intro i hi
      rw [e1]; unfold hd
      rw [splice_getD hfit, List.length_replicate, if_pos hi, List.getD_eq_getElem?_getD, List.getElem?_replicate]; split <;> rfl
    have hlen : s'.hs.length = s.hs.length := by rw [e1]; exact splice_length hfit
    refine ⟨by rw [e3, wrH_length]; exact h.len, by rw [e3, e1]; exact hdr_put hl h.len (by simp; omega) h.hdr, fun y hy => ?_, fun b' n' hb' hw' => ?_⟩
    · rw [hf.u] at hy
      unfold uDrop at hy
      simp only [Bool.and_eq_true, bne_iff_ne] at hy
      obtain ⟨o, ho⟩ := h.obj y hy.2
      obtain ⟨p1, p2, p3, p4⟩ := ho.place
      refine ⟨o, ho.keep hlen (by rw [e3, wrH_get, if_pos (by simp; omega)]) (hhd _ fun hi => ?_) fun m hm => hm.keep hlen fun i h1 h2 => hhd i fun hi => ?_⟩
      · rcases p4 with ⟨k, hk, _, b', i, _, _, h1, h2, rfl⟩ | ⟨b', m, rfl, _, _, hw', _⟩
        · rw [cellN_blk hk h2] at hi
          rcases hw.kind hi.1 hi.2 with ⟨_, h3⟩ | ⟨_, h3⟩ <;> (rw [h1] at h3; simp at h3)
        · rw [Nat.mul_div_cancel _ (by omega)] at hi
          exact hw.disj hw' (fun e => hy.1 (by rw [e])) hi.1 hi.2 ⟨by omega, by have := hw'.1; omega⟩
      · rcases p4 with ⟨k, hk, _, b', i', _, _, h3, h4, rfl⟩ | ⟨b', m', rfl, _, _, hw', _⟩
        · rw [cellN_blk hk h4] at hm
          have := hm.2.2.1
          unfold hd at h3
          rw [h3] at this; simp at this
        · rw [Nat.mul_div_cancel _ (by omega)] at hm h1 h2
          exact hw.disj hm (fun e => hy.1 (by rw [e])) hi.1 hi.2 ⟨h1, h2⟩
    · have hk : ∀ i, b' ≤ i → i < b' + n' → ¬ (b ≤ i ∧ i < b + n) := by
        intro i h1 h2 hi
        have := hhz i hi
        rcases hw'.kind h1 h2 with ⟨_, h3⟩ | ⟨_, h3⟩ <;> (rw [this] at h3; simp at h3)
      have hw2 : WholeP s.hs b' n' := hw'.keep hlen.symm fun i h1 h2 => (hhd i (hk i h1 h2)).symm
      rw [hf.u]
      unfold uDrop
      simp only [Bool.and_eq_true, bne_iff_ne]
      refine ⟨fun e => ?_, h.large b' n' hb' hw2⟩
      have : b' = b := by omega
      subst this
      have := hw'.1
      have := hw.1
      exact hk b' (by omega) (by omega) ⟨by omega, by omega⟩
theorem Pl.trimmed {g : Nat} {s : St} {b k : Nat} {F' : RF} (h : Pl g s) (inv : Inv g s.hs s.U s.L) (hg : g ≤ 255) (hk : k < 32) (hb : 1 ≤ b) (hh : hd s.hs b = (1, (k : Int), 0)) (hu : ∀ x, x / 512 = b → s.U x = false) : Pl g (trimS s b k F') := by
  have hl := inv.len
  have hlt : b < s.hs.length := hd_lt (by rw [hh]; simp)
  have hhd := fun i => hd_one (h := ((0, 0, 0) : Hd)) hlt i
  have hlen : (splice s.hs b [((0, 0, 0) : Hd)]).length = s.hs.length := splice_length (by simp; omega)
  refine ⟨by show (wrH s.c b [(0, 0, 0)]).length = _; rw [wrH_length]; exact h.len, hdr_put hl h.len (by simp; omega) h.hdr, fun y hy => ?_, fun b' n' hb' hw' => ?_⟩
  · have hy : s.U y = true := hy
    obtain ⟨o, ho⟩ := h.obj y hy
    obtain ⟨p1, p2, p3, p4⟩ := ho.place
    have hne : y / 512 ≠ b := by intro e; rw [hu y e] at hy; cases hy
    refine ⟨o, ho.keep hlen (by show (wrH s.c b [(0, 0, 0)])[y]? = _; rw [wrH_get, if_pos (by simp; omega)]) (by show hd (splice s.hs b [(0, 0, 0)]) _ = _; rw [hhd, if_neg hne]) fun m hm => hm.keep hlen fun i h1 h2 => ?_⟩
    show hd (splice s.hs b [(0, 0, 0)]) i = hd s.hs i
    rw [hhd, if_neg]
    intro e; subst e
    rcases hm.kind h1 h2 with ⟨_, h3⟩ | ⟨_, h3⟩ <;> (rw [hh] at h3; simp at h3)
  · have hw' : WholeP (splice s.hs b [(0, 0, 0)]) b' n' := hw'
    refine h.large b' n' hb' (WholeP.keep (hs := splice s.hs b [(0, 0, 0)]) hlen.symm hw' fun i h1 h2 => ?_)
    rw [hhd, if_neg]
    intro e; subst e
    rcases hw'.kind h1 h2 with ⟨_, h3⟩ | ⟨_, h3⟩ <;> (rw [hhd, if_pos rfl] at h3; simp at h3)
end
section
set_option maxRecDepth 100000
set_option maxHeartbeats 2000000
theorem wdef (n : Int) : IntKind.wrap .i64 n = if n % 18446744073709551616 ≥ 9223372036854775808 then n % 18446744073709551616 - 18446744073709551616 else n % 18446744073709551616 := by
  show (if (true && decide (n % (2 ^ 64 : Int) ≥ (2 ^ 63 : Int))) = true then n % (2 ^ 64 : Int) - (2 ^ 64 : Int) else n % (2 ^ 64 : Int)) = _
  simp only [Bool.true_and, decide_eq_true_eq]
  rfl
theorem wi_l (a b : Int) : IntKind.wrap .i64 (IntKind.wrap .i64 a + b) = IntKind.wrap .i64 (a + b) := by
  rw [wdef a, wdef (a + b), wdef]; split <;> split <;> split <;> omega
theorem wi_r (a b : Int) : IntKind.wrap .i64 (a + IntKind.wrap .i64 b) = IntKind.wrap .i64 (a + b) := by
  rw [Int.add_comm, wi_l, Int.add_comm]
/-- what is told: free, small, large blocks; objects, their words; free cells; waste -/
structure Rp where
  f : Int
  s : Int
  l : Int
  o : Int
  u : Int
  c : Int
  w : Int
def rpL (r : Rp) : List Value := [.int .i64 (IntKind.wrap .i64 r.f), .int .i64 (IntKind.wrap .i64 r.s), .int .i64 (IntKind.wrap .i64 r.l), .int .i64 (IntKind.wrap .i64 r.o), .int .i64 (IntKind.wrap .i64 r.u), .int .i64 (IntKind.wrap .i64 r.c), .int .i64 (IntKind.wrap .i64 r.w)]
def Rpt (b : Nat) (r : Rp) : SL := pt b (.cells (rpL r).toArray 93)
def Rp.add (r : Rp) (o : Ob) (room : Int) : Rp := { r with o := r.o + 1, u := r.u + oSize o, w := r.w + (room - oSize o) }
def eb (b : Bool) : Value := .bool b
theorem kd_ib : KeyD (α := Int) Tryz.prog 156 3 4 ei := by
  refine ⟨by kernel_rfl, fun a b => ?_, fun a => by kernel_rfl, fun a b h => ?_, fun a => ?_⟩
  · show keyEq Tryz.prog 3 (.int .i64 a) (.int .i64 b) = _
    unfold keyEq
    rw [show Program.underlying Tryz.prog 3 = some (.int .i64) by kernel_rfl]
    simp only [if_true]
    rw [Bool.beq_eq_decide_eq]
  · unfold ei at h; injection h
  · show ((IntKind.i64 == IntKind.i64) && a == a) = true
    simp
abbrev FM := Int → Option Bool
/-- the map of all free cells -/
def FreeM (g : Nat) (s : St) (fm : FM) : Prop := ∀ x : Nat, (fm x).getD false = true ↔ ∃ k, k < 32 ∧ SmCell g s.hs k x ∧ s.U x = false
section
variable {B : World} {P R : SL} {t : K}
theorem check_add_c {b : Nat} {r : Rp} {o : Ob} {room : Int} {k : Unit → K} (hk : T B (R * Rpt b (r.add o room)) (k ())) : T B (R * Rpt b r) (c_check_Report_add (da b) o room k) := by
  refine T_of (check_Report_add_ok _ o room k) ?_
  unfold da Rpt rpL Rp.add at *
  (repeat (first | with_reducible refine T_nn ?_ | with_reducible refine T_tick ?_ | ((with_reducible apply T_ldI); (focus rfl); (focus exact hasA); (focus rfl)) | (with_reducible refine T_al ?_; intro _) | ((with_reducible apply T_st); (focus rfl); (focus exact updA); (focus simp); simp only [List.set, Nat.zero_add, Nat.reduceAdd])))
  rename_i b1
  refine ohead_Size_c ?_
  (repeat (first | with_reducible refine T_nn ?_ | with_reducible refine T_tick ?_ | with_reducible refine T_chk0 ?_ | ((with_reducible apply T_ldI); (focus rfl); (focus exact hasA); (focus rfl)) | ((with_reducible apply T_st); (focus rfl); (focus exact updA); (focus simp); simp only [List.set, Nat.zero_add, Nat.reduceAdd]) | ((with_reducible apply T_chk); (focus rfl); (focus exact hasA); (focus rfl))))
  refine ohead_Size_c ?_
  (repeat (first | with_reducible refine T_nn ?_ | with_reducible refine T_chk0 ?_ | ((with_reducible apply T_st); (focus rfl); (focus exact updA); (focus simp); simp only [List.set, Nat.zero_add, Nat.reduceAdd]) | ((with_reducible apply T_chk); (focus rfl); (focus exact hasA); (focus rfl))))
  rw [wi_l, wi_l, wi_r, wi_l]
  exact T_drop1 .last hk
theorem Used_c {a d g : Nat} {s : St} {x : Int} {k : Bool → K} (hk : T B (R * Al a d g s) (k (has s.U x))) : T B (R * Al a d g s) (c_alloc_Allocator_Used (da a) x k) := by
  refine T_of (alloc_Allocator_Used_ok _ x k) ?_
  refine Al_open fun m u f => ?_
  unfold da
  (repeat (first | with_reducible refine T_nn ?_ | ((with_reducible apply T_ldP); (focus rfl); (focus exact hasA); (focus rfl))))
  refine T_bring (X := Bm u (512 * g) s.U) (by exact frmA) ?_
  refine bitmap_Has_c ?_
  exact T.perm (by unfold da; ac_rfl) (Al_close (m := m) (u := u) (f := f) hk)
theorem has_nat (U : Nat → Bool) (x : Nat) : has U (x : Int) = U x := by unfold has; rw [decide_eq_true (by omega), Bool.true_and, Int.toNat_natCast]
/-- the boxes of the function's variables -/
def Bxs (b5 b6 b7 b9 b10 b11 br a m : Nat) (k r0 r1 : Int) : SL := pt b5 (.cells [.pointer (da br)].toArray 212) * pt b6 (.cells [.pointer (da a)].toArray 25) * pt b7 (.cells [.map (some m)].toArray 156) * pt b9 (.cells [.int .i64 k].toArray 3) * pt b10 (.cells [.int .i64 r0].toArray 3) * pt b11 (.cells [.int .i64 r1].toArray 52)
def cellR (g : Nat) (s : St) (b k i : Nat) (r : Rp) : Rp := if s.U (cellN b k i) then r.add (oHead s.c (64 * g) (cellN b k i : Nat)).1 (cw k) else { r with c := r.c + 1 }
theorem check_cell_c {a d g b k m br b5 b6 b7 b9 b10 b11 : Nat} {s : St} {fm : FM} (inv : Inv g s.hs s.U s.L) (hk : k < 32) (hb : 1 ≤ b) (hb2 : b < g) (hh : hd s.hs b = (1, (k : Int), 0)) (hfm : FreeM g s fm) {i : Nat} (hi : i < cn k) {r : Rp} {r0 r1 : Int} {kN kR : K}
    (hN : (s.U (cellN b k i) = true → ∃ o, PlOk s.c (64 * g) s.hs g (cellN b k i : Nat) o) → T B (R * Al a d g s * MpF ei eb m fm * Rpt br (cellR g s b k i r) * Bxs b5 b6 b7 b9 b10 b11 br a m k r0 r1) kN)
    (hR : s.U (cellN b k i) = true → (∀ o, ¬ PlOk s.c (64 * g) s.hs g (cellN b k i : Nat) o) → T B (R * Al a d g s * MpF ei eb m fm * Rpt br r * Bxs b5 b6 b7 b9 b10 b11 br a m k (cellN b k i : Nat) 22) kR) :
    T B (R * Al a d g s * MpF ei eb m fm * Rpt br r * Bxs b5 b6 b7 b9 b10 b11 br a m k r0 r1) (check_Report_block_b ⟨b5, 0, none⟩ ⟨b6, 0, none⟩ ⟨b7, 0, none⟩ ⟨b9, 0, none⟩ ⟨b10, 0, none⟩ ⟨b11, 0, none⟩ (cellN b k i : Nat) kN kR) := by
  have hsm : SmCell g s.hs k (cellN b k i) := ⟨b, i, hb, hb2, hh, hi, rfl⟩
  obtain ⟨t1, t2, t3, t4, t5, t6, t7, t8⟩ := cls_tab k hk
  have hfree : (fm (cellN b k i : Nat)).getD false = !s.U (cellN b k i) := by
    cases hu : s.U (cellN b k i)
    · exact (hfm _).2 ⟨k, hk, hsm, hu⟩
    · cases hf : (fm (cellN b k i : Nat)).getD false
      · rfl
      · obtain ⟨_, _, _, h⟩ := (hfm _).1 hf
        rw [hu] at h; cases h
  unfold Bxs da at *
  simp only [← sep_assoc] at *
  (repeat (((with_reducible apply T_ldP); (focus rfl); (focus exact hasA); (focus rfl))))
  refine T_bring (X := Al a d g s) (by exact frmA) ?_
  refine Used_c ?_
  rw [has_nat]
  unfold cellR at hN
  have hlk : ∀ z : Bool, (((fm (cellN b k i : Nat)).map eb).getD (.bool false)) = (ESh.sc (.bool)).enc ((fm (cellN b k i : Nat)).getD false) := fun _ => by cases fm (cellN b k i : Nat) <;> rfl
  cases hu : s.U (cellN b k i)
  · rw [hu] at hN hfree
    have hN := hN (fun h => by cases h)
    simp only [Bool.false_eq_true, if_false] at hN
    (repeat (with_reducible refine T_brF ?_))
    (dsimp only [check_Report_block_b, Zfs0, Zfs1, Zfs2, Zfs3, Zfs4, Zfs5, Zfs6, Zfs7, Zfs8, Zfs9, Zfs10, Zfs11, Zfs12])
    simp only [Bool.not_false]
    (repeat (first | with_reducible refine T_brT ?_ | ((with_reducible apply T_ldM); (focus rfl); (focus exact hasA); (focus rfl))))
    refine T_lkF (ek := ei) (ev := eb) kd_ib (MHas.of (show Frm _ (MpF ei eb m fm) _ by exact frmA)) (key := (cellN b k i : Nat)) (f := fm) _ (hlk true) fun ob => ?_
    rw [hfree]
    try (dsimp only [check_Report_block_b, Zfs0, Zfs1, Zfs2, Zfs3, Zfs4, Zfs5, Zfs6, Zfs7, Zfs8, Zfs9, Zfs10, Zfs11, Zfs12])
    simp only [Bool.not_true, Bool.not_false]
    unfold Rpt rpL at *
    (repeat (first | with_reducible refine T_nn ?_ | with_reducible refine T_brT ?_ | with_reducible refine T_brF ?_ | ((with_reducible apply T_ldI); (focus rfl); (focus exact hasA); (focus rfl)) | ((with_reducible apply T_ldP); (focus rfl); (focus exact hasA); (focus rfl)) | ((with_reducible apply T_st); (focus rfl); (focus exact updA); (focus simp); simp only [List.set, Nat.zero_add, Nat.reduceAdd])))
    rw [wi_l]
    exact T.perm (by ac_rfl) hN
  · rw [hu] at hN hfree
    simp only [if_true, Bool.not_true] at hN hfree
    (repeat (first | with_reducible refine T_brT ?_ | ((with_reducible apply T_ldM); (focus rfl); (focus exact hasA); (focus rfl))))
    (dsimp only [check_Report_block_b, Zfs0, Zfs1, Zfs2, Zfs3, Zfs4, Zfs5, Zfs6, Zfs7, Zfs8, Zfs9, Zfs10, Zfs11, Zfs12])
    refine T_lkF (ek := ei) (ev := eb) kd_ib (MHas.of (show Frm _ (MpF ei eb m fm) _ by exact frmA)) (key := (cellN b k i : Nat)) (f := fm) _ (hlk true) fun ob => ?_
    rw [hfree]
    try (dsimp only [check_Report_block_b, Zfs0, Zfs1, Zfs2, Zfs3, Zfs4, Zfs5, Zfs6, Zfs7, Zfs8, Zfs9, Zfs10, Zfs11, Zfs12])
    simp only [Bool.not_true]
    (repeat (first | with_reducible refine T_brF ?_ | ((with_reducible apply T_ldP); (focus rfl); (focus exact hasA); (focus rfl))))
    refine T_bring (X := Al a d g s) (by exact frmA) ?_
    refine Place_c inv (fun o ho => ?_) (fun hno o => ?_)
    · (repeat (first | (with_reducible refine T_al ?_; intro _) | ((with_reducible apply T_st); (focus rfl); (focus exact updA); (focus simp); simp only [List.set, Nat.zero_add, Nat.reduceAdd])))
      rename_i b1
      try (dsimp only [check_Report_block_b, Zfs0, Zfs1, Zfs2, Zfs3, Zfs4, Zfs5, Zfs6, Zfs7, Zfs8, Zfs9, Zfs10, Zfs11, Zfs12])
      simp only [Bool.not_true]
      (repeat (first | with_reducible refine T_tick ?_ | with_reducible refine T_brF ?_ | ((with_reducible apply T_ldI); (focus rfl); (focus exact hasA); (focus rfl)) | ((with_reducible apply T_ldP); (focus rfl); (focus exact hasA); (focus rfl))))
      refine class_Words_c ?_
      rw [t1]
      (repeat (first | with_reducible refine T_chk0 ?_ | ((with_reducible apply T_chk); (focus rfl); (focus exact hasA); (focus rfl))))
      refine T_bring (X := Rpt br r) (by exact frmA) ?_
      refine check_add_c ?_
      have e1 : (oHead s.c (64 * g) (cellN b k i : Nat)).1 = o := by rw [ho.1]
      rw [e1] at hN
      refine T_drop1 (by exact frmA : Frm _ (pt b1 (.cells [.int .i64 o.1, .int .i64 o.2].toArray 68)) _) ?_
      exact T.perm (by ac_rfl) (hN fun _ => ⟨o, ho⟩)
    · (repeat (first | (with_reducible refine T_al ?_; intro _) | ((with_reducible apply T_st); (focus rfl); (focus exact updA); (focus simp); simp only [List.set, Nat.zero_add, Nat.reduceAdd])))
      rename_i b1
      try (dsimp only [check_Report_block_b, Zfs0, Zfs1, Zfs2, Zfs3, Zfs4, Zfs5, Zfs6, Zfs7, Zfs8, Zfs9, Zfs10, Zfs11, Zfs12])
      simp only [Bool.not_false]
      (repeat (first | with_reducible refine T_brT ?_ | ((with_reducible apply T_st); (focus rfl); (focus exact updA); (focus simp); simp only [List.set, Nat.zero_add, Nat.reduceAdd])))
      refine T_drop1 (by exact frmA : Frm _ (pt b1 (.cells [.int .i64 o.1, .int .i64 o.2].toArray 68)) _) ?_
      exact T.perm (by ac_rfl) (hR hu hno)
end
end
section
set_option maxRecDepth 100000
set_option maxHeartbeats 2000000
def clsB (b k i : Nat) : List Int := (List.range i).map fun j => ((cellN b k j : Nat) : Int)
def okC (b k : Nat) (pre : List Int) (x : Int) : Prop := ∃ i, i < cn k ∧ x = (cellN b k i : Nat) ∧ pre = clsB b k i
theorem clsB_succ (b k i : Nat) : clsB b k (i + 1) = clsB b k i ++ [((cellN b k i : Nat) : Int)] := by unfold clsB; rw [List.range_succ, List.map_append]; rfl
theorem clsB_len (b k i : Nat) : (clsB b k i).length = i := by simp [clsB]
def cellsR (g : Nat) (s : St) (b k : Nat) : Nat → Rp → Rp
  | 0, r => r
  | i + 1, r => cellR g s b k i (cellsR g s b k i r)
section
variable {B : World} {P R : SL} {t : K}
theorem cells_All_1_c {l g b k bk bg bb : Nat} {t1 t2 t3 : TypeId} {I : List Int → SL} {J : SL} (hg : g ≤ 2 ^ 20) (hk : k < 32) (hb : 1 ≤ b) (hb2 : b < g)
    (h1 : ∀ pre, Has (I pre) bk (.cells [.int .i64 k].toArray t1)) (h2 : ∀ pre, Has (I pre) bg (.cells [.int .i64 g].toArray t2)) (h3 : ∀ pre, Has (I pre) bb (.cells [.int .i64 b].toArray t3))
    (hy : Yld B Tryz.prog l (fun x : Int => #[.int .i64 x]) (okC b k) I J) {kk : Unit → K} (hn : T B (I (clsB b k (cn k))) (kk ())) (h0 : T B J (kk ())) : T B (I []) (c_cells_All_1 ⟨.yield l, #[], #[]⟩ ⟨bk, 0, none⟩ ⟨bg, 0, none⟩ ⟨bb, 0, none⟩ kk) := by
  refine T_of (cells_All_1_ok _ _ _ _ kk) ?_
  obtain ⟨t1, t2, t3, t4, t5, t6, t7, t8⟩ := cls_tab k hk
  refine T_ldI (n := k) rfl (h1 []) rfl ?_
  refine class_Cells_c ?_
  rw [t2]
  refine T_lpX (fun m _ => I (clsB b k (cn k - m))) (fun m (z : Int × Unit) => m ≤ cn k ∧ z.1 = ((cn k - m : Nat) : Int)) (cn k) (by rw [Nat.sub_self]; rfl) ⟨Nat.le_refl _, by rw [Nat.sub_self]; rfl⟩ ?_
  rintro m ⟨z, u⟩ c ⟨hm, hz⟩ hc
  simp only at hz
  subst hz
  (repeat' (with_reducible refine T_brD (fun _ => ?_) (fun _ => ?_)))
  · rename_i hlt
    obtain ⟨i, hi⟩ : ∃ i, i = cn k - m := ⟨_, rfl⟩
    have hlt2 : i < cn k := by omega
    rw [← hi]
    refine T_ldI (n := g) rfl (h2 _) rfl ?_
    refine T_ldI (n := k) rfl (h1 _) rfl ?_
    refine T_ldI (n := b) rfl (h3 _) rfl ?_
    refine cells_Address_c (by omega) ?_
    rw [cellAt_eq hk hb hb2 hlt2]
    (repeat' (first | with_reducible refine T_brT ?_ | with_reducible refine T_brD (fun _ => ?_) (fun _ => ?_)))
    · exfalso; omega
    refine T_yield (x := ((cellN b k i : Nat) : Int)) hy ⟨i, hlt2, rfl, rfl⟩ ?_ ?_
    · refine T_brF ?_
      rw [w64 (by omega) (by omega), ← clsB_succ]
      have e1 : cn k - (cn k - (i + 1)) = i + 1 := by omega
      have := hc (cn k - (i + 1)) (((i : Nat) : Int) + 1, ()) (by omega) ⟨by omega, by rw [e1]; simp⟩
      rw [e1] at this
      exact this
    · exact T_brT h0
  · have : m = 0 := by omega
    subst this
    exact hn
theorem cells_All_c {g k b : Int} {kk : Fv → K} (hk : ∀ bg bk bb, T B (R * pt bg (.cells [.int .i64 g].toArray 43) * pt bk (.cells [.int .i64 k].toArray 3) * pt bb (.cells [.int .i64 b].toArray 3)) (kk ⟨.func 231, #[], #[.pointer (some ⟨bk, 0, none⟩), .pointer (some ⟨bg, 0, none⟩), .pointer (some ⟨bb, 0, none⟩)]⟩)) : T B R (c_cells_All g k b kk) := by
  refine T_of (cells_All_ok _ _ _ kk) ?_
  (repeat ((with_reducible refine T_al ?_; intro _)))
  exact hk _ _ _
end
def S9 (a d g : Nat) (s : St) (m : Nat) (fm : FM) (br : Nat) (k : Nat) (b5 b6 b7 b9 b10 b11 : Nat) (r : Rp) (r0 r1 : Int) : SL := Al a d g s * MpF ei eb m fm * Rpt br r * Bxs b5 b6 b7 b9 b10 b11 br a m k r0 r1
/-- a block of small objects is told -/
def blkR (g : Nat) (s : St) (b k : Nat) (r : Rp) : Rp := { cellsR g s b k (cn k) r with s := (cellsR g s b k (cn k) r).s + 1, w := (cellsR g s b k (cn k) r).w + (512 - (cn k : Int) * cw k) }
def Good (g : Nat) (s : St) (x : Nat) : Prop := s.U x = true → ∃ o, PlOk s.c (64 * g) s.hs g (x : Int) o
def Bad (g : Nat) (s : St) (x : Nat) : Prop := s.U x = true ∧ ∀ o, ¬ PlOk s.c (64 * g) s.hs g (x : Int) o
section
variable {B : World} {P R : SL} {t : K}
theorem check_block_c {a d g b k m br : Nat} {s : St} {fm : FM} (inv : Inv g s.hs s.U s.L) (hk : k < 32) (hb : 1 ≤ b) (hb2 : b < g) (hh : hd s.hs b = (1, (k : Int), 0)) (hfm : FreeM g s fm) {r : Rp} {kk : Int × Int → K}
    (h0 : (∀ i, i < cn k → Good g s (cellN b k i)) → T B (R * Al a d g s * MpF ei eb m fm * Rpt br (blkR g s b k r)) (kk (0, 0)))
    (h1 : ∀ x r', (∃ i, i < cn k ∧ Bad g s (cellN b k i)) → T B (R * Al a d g s * MpF ei eb m fm * Rpt br r') (kk (x, 22))) :
    T B (R * Al a d g s * MpF ei eb m fm * Rpt br r) (c_check_Report_block (da br) (da a) (some m) b k kk) := by
  obtain ⟨t1, t2, t3, t4, t5, t6, t7, t8⟩ := cls_tab k hk
  have hg := inv.big
  intro w hw
  refine (callsIn_wide (n := 9)).1 (callsIn_of_wp_marks Tryz.func168 rfl trivial ?_ rfl)
  -- the boxes
  obtain ⟨T1, hT1⟩ : ∃ T1 : Tup [(5, .addr), (6, .addr), (7, .addr), (9, .addr), (10, .addr), (11, .addr)] → K, T1 = fun z w => ∃ b5 b6 b7 b9 b10 b11, z = (⟨b5, 0, none⟩, ⟨b6, 0, none⟩, ⟨b7, 0, none⟩, ⟨b9, 0, none⟩, ⟨b10, 0, none⟩, ⟨b11, 0, none⟩, ()) ∧ Sat B (R * S9 a d g s m fm br k b5 b6 b7 b9 b10 b11 r 0 0) w := ⟨_, rfl⟩
  refine rk_seq [(5, .addr), (6, .addr), (7, .addr), (9, .addr), (10, .addr), (11, .addr)] [3]
    (t := alK (.cells #[.pointer (da br)] 212) fun b5 => alK (.cells #[.pointer (da a)] 25) fun b6 => alK (.cells #[.map (some m)] 156) fun b7 => alK (.cells #[.int .i64 k] 3) fun b9 => alK (.cells #[.int .i64 0] 3) fun b10 => alK (.cells #[.int .i64 0] 52) fun b11 => T1 (⟨b5, 0, none⟩, ⟨b6, 0, none⟩, ⟨b7, 0, none⟩, ⟨b9, 0, none⟩, ⟨b10, 0, none⟩, ⟨b11, 0, none⟩, ())) T1
    (RefK.plain [] (by kernel_rfl)) (agree0 (n := 86) (args := #[.pointer (da br), .pointer (da a), .map (some m), .int .i64 b, .int .i64 k]) (by simp)) ?_ (by kernel_rfl) ?_
  · subst hT1
    refine (T_al fun b5 => T_al fun b6 => T_al fun b7 => T_al fun b9 => T_al fun b10 => T_al fun b11 w hw => ⟨b5, b6, b7, b9, b10, b11, rfl, hw.perm ?_⟩) w hw
    unfold S9 Bxs
    ac_rfl
  subst hT1
  rintro z a1 w1 ha1 ⟨b5, b6, b7, b9, b10, b11, rfl, hw1⟩
  refine wpIn_seq ?_
  -- the sequence
  obtain ⟨T2, hT2⟩ : ∃ T2 : Tup [(23, .func)] → K, T2 = fun z w => ∃ bg bk bb, z = (⟨.func 231, #[], #[.pointer (some ⟨bk, 0, none⟩), .pointer (some ⟨bg, 0, none⟩), .pointer (some ⟨bb, 0, none⟩)]⟩, ()) ∧ Sat B (R * S9 a d g s m fm br k b5 b6 b7 b9 b10 b11 r 0 0 * pt bg (.cells [.int .i64 g].toArray 43) * pt bk (.cells [.int .i64 k].toArray 3) * pt bb (.cells [.int .i64 b].toArray 3)) w := ⟨_, rfl⟩
  refine rk_seq [(23, .func)] [5, 6, 7, 9, 10, 11]
    (t := tick fun _ => ldP ⟨b6, 0, none⟩ fun x16 => nn x16 fun x17 => ldP (Addr.add x17 0) fun x19 => ldI .i64 ⟨b9, 0, none⟩ fun x21 => c_bman_Manager_Geometry x19 fun x20 => chk [.cell ⟨b9, 0, none⟩ (.int .i64 x21)] fun _ => c_cells_All x20 x21 b fun x23 => T2 (x23, ())) T2
    (RefK.draw [] [0, 1, 3, 7, 15, 0, 0, 127] [0, 1, 2, 3, 5, 6, 4, 7] [0, 1, 2, 3, 4, 5, 6, 7] (by kernel_rfl) (by kernel_rfl)) ha1 ?_ (by kernel_rfl) ?_
  · subst hT2
    have hT : T B (R * S9 a d g s m fm br k b5 b6 b7 b9 b10 b11 r 0 0) (tick fun _ => ldP ⟨b6, 0, none⟩ fun x16 => nn x16 fun x17 => ldP (Addr.add x17 0) fun x19 => ldI .i64 ⟨b9, 0, none⟩ fun x21 => c_bman_Manager_Geometry x19 fun x20 => chk [.cell ⟨b9, 0, none⟩ (.int .i64 x21)] fun _ => c_cells_All x20 x21 b fun x23 w => ∃ bg bk bb, (x23, ()) = ((⟨.func 231, #[], #[.pointer (some ⟨bk, 0, none⟩), .pointer (some ⟨bg, 0, none⟩), .pointer (some ⟨bb, 0, none⟩)]⟩, ()) : Fv × Unit) ∧ Sat B (R * S9 a d g s m fm br k b5 b6 b7 b9 b10 b11 r 0 0 * pt bg (.cells [.int .i64 g].toArray 43) * pt bk (.cells [.int .i64 k].toArray 3) * pt bb (.cells [.int .i64 b].toArray 3)) w) := by
      unfold S9 Bxs
      simp only [← sep_assoc]
      unfold da
      (repeat (first | with_reducible refine T_nn ?_ | with_reducible refine T_tick ?_ | ((with_reducible apply T_ldP); (focus rfl); (focus exact hasA); (focus rfl))))
      refine T_bring (X := Al a d g s) (by exact frmA) ?_
      refine Al_open fun mm u f => ?_
      unfold da
      (repeat (first | ((with_reducible apply T_ldI); (focus rfl); (focus exact hasA); (focus rfl)) | ((with_reducible apply T_ldP); (focus rfl); (focus exact hasA); (focus rfl))))
      refine T_bring (X := Mg mm d g s.hs s.F) (by exact frmA) ?_
      refine bman_Geometry_c ?_
      (repeat (first | with_reducible refine T_chk0 ?_ | ((with_reducible apply T_chk); (focus rfl); (focus exact hasA); (focus rfl))))
      refine cells_All_c fun bg bk bb => ?_
      refine T.perm (Q := R * MpF ei eb m fm * Rpt br r * pt b5 (.cells [.pointer (some ⟨br, 0, none⟩)].toArray 212) * pt b6 (.cells [.pointer (some ⟨a, 0, none⟩)].toArray 25) * pt b7 (.cells [.map (some m)].toArray 156) * pt b9 (.cells [.int .i64 k].toArray 3) * pt b10 (.cells [.int .i64 0].toArray 3) * pt b11 (.cells [.int .i64 0].toArray 52) * pt bg (.cells [.int .i64 g].toArray 43) * pt bk (.cells [.int .i64 k].toArray 3) * pt bb (.cells [.int .i64 b].toArray 3) * LDx d (64 * g) s.c * Mg mm d g s.hs s.F * Bm u (512 * g) s.U * Fl f s.L * pt a (.cells [.pointer (da mm), .pointer (da d), .int .i64 g, .pointer (da u), .pointer (da f)].toArray 47)) (by unfold da; ac_rfl) ?_
      refine Al_close ?_
      intro w hw
      refine ⟨bg, bk, bb, rfl, hw.perm ?_⟩
      ac_rfl
    exact hT w1 hw1
  subst hT2
  rintro z a2 w2 ha2 ⟨bg, bk, bb, rfl, hw2⟩
  refine wpIn_block ?_
  have eg : ∀ args w, (callFunc 231 args).run Tryz.prog w = .ok (.enter 231 args) w := fun args w => callable_run (by kernel_rfl) args w
  obtain ⟨RR, hRR⟩ : ∃ RR, RR = R * pt bg (.cells [.int .i64 g].toArray 43) * pt bk (.cells [.int .i64 k].toArray 3) * pt bb (.cells [.int .i64 b].toArray 3) := ⟨_, rfl⟩
  refine wp_rangeF (B := B) (n := 9) (β := Int) (by omega) (ha2.rho (x := .tmp 23) (by kernel_rfl)) eg (fun x => #[.int .i64 x]) (fun _ => rfl) (okC b k)
    (fun pre => RR * S9 a d g s m fm br k b5 b6 b7 b9 b10 b11 (cellsR g s b k pre.length r) 0 0 * pu (∀ i, i < pre.length → Good g s (cellN b k i)))
    (ex fun q : Rp × Int => RR * S9 a d g s m fm br k b5 b6 b7 b9 b10 b11 q.1 q.2 22 * pu (∃ i, i < cn k ∧ Bad g s (cellN b k i))) (clsB b k (cn k)) ?start
    (fun x a => Agree [] 86 [(12, .int .i64 x), (5, .pointer (some ⟨b5, 0, none⟩)), (6, .pointer (some ⟨b6, 0, none⟩)), (7, .pointer (some ⟨b7, 0, none⟩)), (9, .pointer (some ⟨b9, 0, none⟩)), (10, .pointer (some ⟨b10, 0, none⟩)), (11, .pointer (some ⟨b11, 0, none⟩))] a) ?seq ?assign ?body ?done ?ret
  case start =>
    refine Sat.puI (fun i hi => absurd hi (Nat.not_lt_zero i)) (hw2.perm ?_)
    rw [hRR]; show _ = R * _ * _ * _ * S9 a d g s m fm br k b5 b6 b7 b9 b10 b11 r 0 0; ac_rfl
  case seq =>
    intro l X X' hy W hW
    have hhas : ∀ (Y : SL) (b0 : Nat) (o : Obj), Has RR b0 o → Has (RR * Y) b0 o := fun Y b0 o h => h.init
    have hT := cells_All_1_c (kk := fun _ w' => Sat B ((RR * S9 a d g s m fm br k b5 b6 b7 b9 b10 b11 (cellsR g s b k (clsB b k (cn k)).length r) 0 0 * pu (∀ i, i < (clsB b k (cn k)).length → Good g s (cellN b k i))) * X) w' ∨ Sat B ((ex fun q : Rp × Int => RR * S9 a d g s m fm br k b5 b6 b7 b9 b10 b11 q.1 q.2 22 * pu (∃ i, i < cn k ∧ Bad g s (cellN b k i))) * X') w')
      (bk := bk) (bg := bg) (bb := bb) (t1 := 3) (t2 := 43) (t3 := 3) hg hk hb hb2 (fun pre => ?_) (fun pre => ?_) (fun pre => ?_) hy (fun w h => .inl h) (fun w h => .inr h) W hW
    · refine callsIn_wide.2 (Calls.mono hT ?_)
      rintro e W' ⟨x, rfl, h⟩
      exact ⟨⟨_, rfl⟩, h⟩
    all_goals (refine Has.init (Has.init (Has.init ?_)); rw [hRR]; exact hasA)
  case assign =>
    intro m' l x W K hK
    exact rk_assign (p := 24) (v := .int .i64 x) [(12, .int .i64)] [5, 6, 7, 9, 10, 11] (x, ()) ha2 (by decide) (RefK.plain [] (by kernel_rfl)) (by kernel_rfl) (fun a' ha' => hK a' ha') (by simp)
  case body =>
    intro m' l pre x W X a' ha' hx hs
    obtain ⟨i, hi, rfl, rfl⟩ := hx
    simp only [clsB_len] at hs
    have hT : T B (RR * S9 a d g s m fm br k b5 b6 b7 b9 b10 b11 (cellsR g s b k i r) 0 0 * X * pu (∀ j, j < i → Good g s (cellN b k j)))
        (check_Report_block_b ⟨b5, 0, none⟩ ⟨b6, 0, none⟩ ⟨b7, 0, none⟩ ⟨b9, 0, none⟩ ⟨b10, 0, none⟩ ⟨b11, 0, none⟩ (cellN b k i : Nat)
          (fun w => Sat B ((RR * S9 a d g s m fm br k b5 b6 b7 b9 b10 b11 (cellsR g s b k (clsB b k i ++ [((cellN b k i : Nat) : Int)]).length r) 0 0 * pu (∀ j, j < (clsB b k i ++ [((cellN b k i : Nat) : Int)]).length → Good g s (cellN b k j))) * X) w)
          (fun w => Sat B ((ex fun q : Rp × Int => RR * S9 a d g s m fm br k b5 b6 b7 b9 b10 b11 q.1 q.2 22 * pu (∃ i, i < cn k ∧ Bad g s (cellN b k i))) * X) w)) := by
      refine T_pu fun hgood => ?_
      refine T.perm (Q := RR * X * Al a d g s * MpF ei eb m fm * Rpt br (cellsR g s b k i r) * Bxs b5 b6 b7 b9 b10 b11 br a m k 0 0) (by unfold S9; ac_rfl) ?_
      refine check_cell_c inv hk hb hb2 hh hfm hi (fun hg2 w hw => ?_) (fun hu hno w hw => ?_)
      · rw [← clsB_succ]
        simp only [clsB_len]
        have h2 : Sat B (RR * S9 a d g s m fm br k b5 b6 b7 b9 b10 b11 (cellsR g s b k (i + 1) r) 0 0 * X) w := hw.perm (by unfold S9; show _ = RR * (Al a d g s * MpF ei eb m fm * Rpt br (cellR g s b k i (cellsR g s b k i r)) * _) * X; ac_rfl)
        refine (Sat.puI (φ := ∀ j, j < i + 1 → Good g s (cellN b k j)) (fun j hj => ?_) h2).perm (by ac_rfl)
        by_cases e : j = i
        · subst e; exact hg2
        · exact hgood j (by omega)
      · rw [ex_sep]
        refine ex_sat (cellsR g s b k i r, ((cellN b k i : Nat) : Int)) ?_
        have h2 : Sat B (RR * S9 a d g s m fm br k b5 b6 b7 b9 b10 b11 (cellsR g s b k i r) ((cellN b k i : Nat) : Int) 22 * X) w := hw.perm (by unfold S9; ac_rfl)
        exact (Sat.puI (φ := ∃ i, i < cn k ∧ Bad g s (cellN b k i)) ⟨i, hi, hu, hno⟩ h2).perm (by ac_rfl)
    exact check_Report_block_b_ok _ _ _ _ _ _ _ _ _ (some l) m' [] _ a' W ha' (hT W (hs.perm (by ac_rfl))) fun e E' a'' w' _ _ h => by
      cases e <;> first | exact .inl ⟨rfl, h⟩ | exact .inr ⟨rfl, h⟩ | exact h.elim
  case ret =>
    intro D W hs
    rw [ex_sep] at hs
    obtain ⟨⟨r', x⟩, hs⟩ := sat_ex hs
    have haD : Agree [{ target := .collected D, args := #[] }] 86 _ { a2 with defers := { target := .collected D, args := #[] } :: a2.defers } := ⟨by rw [ha2.1], ha2.2.1, ha2.2.2⟩
    have key : T B (RR * S9 a d g s m fm br k b5 b6 b7 b9 b10 b11 r' x 22 * pt D (.deferred (some [])) * pu (∃ i, i < cn k ∧ Bad g s (cellN b k i))) (fun w => LeavesInM Fence.wide 9 Tryz.prog Tryz.f168 a2.tmps (fun e w' => ∃ x : (RSh.tup [.sc (.int .i64), .sc (.int .i64)]).T, e = .returned ((RSh.tup [.sc (.int .i64), .sc (.int .i64)]).enc x) ∧ kk x w') ({ target := .collected D, args := #[] } :: a2.defers) .returning w) := by
      refine T_pu fun hbad w hw => ?_
      refine leave_T (a := { a2 with defers := { target := .collected D, args := #[] } :: a2.defers }) haD hw ?_
      refine (show T B (RR * S9 a d g s m fm br k b5 b6 b7 b9 b10 b11 r' x 22) (ldI .i64 ⟨b10, 0, none⟩ fun x => ldI .i64 ⟨b11, 0, none⟩ fun y => kk (x, y)) from ?_)
      unfold S9 Bxs
      simp only [← sep_assoc]
      (repeat (((with_reducible apply T_ldI); (focus rfl); (focus exact hasA); (focus rfl))))
      subst hRR
      have := h1 x r' hbad
      refine T.perm (Q := R * Al a d g s * MpF ei eb m fm * Rpt br r' * (pt bg (.cells [.int .i64 g].toArray 43) * pt bk (.cells [.int .i64 k].toArray 3) * pt bb (.cells [.int .i64 b].toArray 3) * Bxs b5 b6 b7 b9 b10 b11 br a m k x 22)) (by unfold Bxs; ac_rfl) this.weak
    exact key W (hs.perm (by ac_rfl))
  case done =>
    intro D W hs
    simp only [clsB_len] at hs
    obtain ⟨rr, hrr⟩ : ∃ rr, rr = cellsR g s b k (cn k) r := ⟨_, rfl⟩
    rw [← hrr] at hs
    have hblk : blkR g s b k r = { rr with s := rr.s + 1, w := rr.w + (512 - (cn k : Int) * cw k) } := by rw [hrr]; rfl
    have haD : Agree [{ target := .collected D, args := #[] }] 86 _ { a2 with defers := { target := .collected D, args := #[] } :: a2.defers } := ⟨by rw [ha2.1], ha2.2.1, ha2.2.2⟩
    obtain ⟨hgood, hs⟩ : (∀ i, i < cn k → Good g s (cellN b k i)) ∧ Sat B (RR * S9 a d g s m fm br k b5 b6 b7 b9 b10 b11 rr 0 0 * pt D (.deferred (some []))) W := by
      have key : T B (RR * S9 a d g s m fm br k b5 b6 b7 b9 b10 b11 rr 0 0 * pt D (.deferred (some [])) * pu (∀ i, i < cn k → Good g s (cellN b k i))) (fun w => (∀ i, i < cn k → Good g s (cellN b k i)) ∧ Sat B (RR * S9 a d g s m fm br k b5 b6 b7 b9 b10 b11 rr 0 0 * pt D (.deferred (some []))) w) := T_pu fun h w hw => ⟨h, hw⟩
      exact key W (hs.perm (by ac_rfl))
    have h14 : T B (RR * S9 a d g s m fm br k b5 b6 b7 b9 b10 b11 rr 0 0 * pt D (.deferred (some []))) (ldP ⟨b5, 0, none⟩ fun x70 => nn x70 fun x71 => ldI .i64 (Addr.add x71 1) fun x73 => nn x70 fun x75 => stK (Addr.add (Addr.add x75 1) 0) (.int .i64 (IntKind.wrap .i64 (x73 + 1))) <| fun w => Sat B (RR * S9 a d g s m fm br k b5 b6 b7 b9 b10 b11 { rr with s := rr.s + 1 } 0 0 * pt D (.deferred (some []))) w) := by
      unfold S9 Bxs Rpt rpL da
      simp only [← sep_assoc]
      (repeat (first | with_reducible refine T_nn ?_ | ((with_reducible apply T_ldI); (focus rfl); (focus exact hasA); (focus rfl)) | ((with_reducible apply T_ldP); (focus rfl); (focus exact hasA); (focus rfl)) | ((with_reducible apply T_st); (focus rfl); (focus exact updA); (focus simp); simp only [List.set, Nat.zero_add, Nat.reduceAdd])))
      rw [wi_l]
      exact fun w hw => hw
    refine rk_seq [] [5, 9, 10, 11] (fun _ w => Sat B (RR * S9 a d g s m fm br k b5 b6 b7 b9 b10 b11 { rr with s := rr.s + 1 } 0 0 * pt D (.deferred (some []))) w) (RefK.plain [] (by kernel_rfl)) haD (h14 W hs) (by kernel_rfl) ?_
    rintro _ a3 w3 ha3 hw3
    have h15 : T B (RR * S9 a d g s m fm br k b5 b6 b7 b9 b10 b11 { rr with s := rr.s + 1 } 0 0 * pt D (.deferred (some []))) (tick fun _ => ldP ⟨b5, 0, none⟩ fun x77 => nn x77 fun x78 => ldI .i64 (Addr.add x78 6) fun x80 => ldI .i64 ⟨b9, 0, none⟩ fun x81 => c_class_Waste x81 fun x82 => chk [.cell (Addr.add x78 6) (.int .i64 x80), .cell ⟨b5, 0, none⟩ (.pointer x77)] fun _ => nn x77 fun x84 => stK (Addr.add (Addr.add x84 6) 0) (.int .i64 (IntKind.wrap .i64 (x80 + x82))) <| fun w => Sat B (RR * S9 a d g s m fm br k b5 b6 b7 b9 b10 b11 (blkR g s b k r) 0 0 * pt D (.deferred (some []))) w) := by
      rw [hblk]
      unfold S9 Bxs Rpt rpL da
      simp only [← sep_assoc]
      (repeat (first | with_reducible refine T_nn ?_ | with_reducible refine T_tick ?_ | ((with_reducible apply T_ldI); (focus rfl); (focus exact hasA); (focus rfl)) | ((with_reducible apply T_ldP); (focus rfl); (focus exact hasA); (focus rfl))))
      refine class_Waste_c ?_
      rw [if_pos (by omega), t1, t2]
      (repeat (first | with_reducible refine T_nn ?_ | with_reducible refine T_chk0 ?_ | ((with_reducible apply T_st); (focus rfl); (focus exact updA); (focus simp); simp only [List.set, Nat.zero_add, Nat.reduceAdd]) | ((with_reducible apply T_chk); (focus rfl); (focus exact hasA); (focus rfl))))
      rw [wi_l]
      exact fun w hw => hw
    refine rk_seq [] [10, 11] (fun _ w => Sat B (RR * S9 a d g s m fm br k b5 b6 b7 b9 b10 b11 (blkR g s b k r) 0 0 * pt D (.deferred (some []))) w) (RefK.draw [] [0, 1, 3, 7, 0, 16, 63, 127, 255, 511] [0, 1, 2, 3, 4, 5, 6, 7, 8, 9] [0, 1, 2, 3, 4, 5, 6, 7, 8, 9] (by kernel_rfl) (by kernel_rfl)) ha3 (h15 w3 hw3) (by kernel_rfl) ?_
    rintro _ a4 w4 ha4 hw4
    have h16 : T B (RR * S9 a d g s m fm br k b5 b6 b7 b9 b10 b11 (blkR g s b k r) 0 0 * pt D (.deferred (some []))) (stK (Addr.add ⟨b10, 0, none⟩ 0) (.int .i64 0) <| stK (Addr.add ⟨b11, 0, none⟩ 0) (.int .i64 0) <| fun w => Sat B (RR * S9 a d g s m fm br k b5 b6 b7 b9 b10 b11 (blkR g s b k r) 0 0 * pt D (.deferred (some []))) w) := by
      unfold S9 Bxs
      simp only [← sep_assoc]
      (repeat (((with_reducible apply T_st); (focus rfl); (focus exact updA); (focus simp); simp only [List.set, Nat.zero_add, Nat.reduceAdd])))
      exact fun w hw => hw
    refine rk_seq [] [10, 11] (fun _ w => Sat B (RR * S9 a d g s m fm br k b5 b6 b7 b9 b10 b11 (blkR g s b k r) 0 0 * pt D (.deferred (some []))) w) (RefK.plain [] (by kernel_rfl)) ha4 (h16 w4 hw4) (by kernel_rfl) ?_
    rintro _ a5 w5 ha5 hw5
    refine wpIn_ret ?_
    refine leave_T (r := .tup [.sc (.int .i64), .sc (.int .i64)]) ha5 hw5 ?_
    refine (show T B (RR * S9 a d g s m fm br k b5 b6 b7 b9 b10 b11 (blkR g s b k r) 0 0) (ldI .i64 ⟨b10, 0, none⟩ fun x => ldI .i64 ⟨b11, 0, none⟩ fun y => kk (x, y)) from ?_)
    unfold S9 Bxs
    simp only [← sep_assoc]
    (repeat (((with_reducible apply T_ldI); (focus rfl); (focus exact hasA); (focus rfl))))
    subst hRR
    have := h0 hgood
    refine T.perm (Q := R * Al a d g s * MpF ei eb m fm * Rpt br (blkR g s b k r) * (pt bg (.cells [.int .i64 g].toArray 43) * pt bk (.cells [.int .i64 k].toArray 3) * pt bb (.cells [.int .i64 b].toArray 3) * Bxs b5 b6 b7 b9 b10 b11 br a m k 0 0)) (by unfold Bxs; ac_rfl) this.weak
end
end
section
set_option maxHeartbeats 1000000
/-- headers fit one another -/
structure Fit (hs : List Hd) : Prop where
  whole : ∀ b, (hd hs b).1 = 2 → ∃ n, WholeP hs b n
  cont : ∀ b, (hd hs b).1 = 3 → ∃ b0 n, WholeP hs b0 n ∧ b0 < b ∧ b < b0 + n
theorem Inv.fit {g : Nat} {hs : List Hd} {U : Nat → Bool} {L : Nat → List Int} (h : Inv g hs U L) : Fit hs := ⟨h.whole, h.cont⟩
theorem Fit.next {hs : List Hd} (h : Fit hs) {b : Nat} (h1 : (hd hs b).1 ≠ 2) (h3 : (hd hs b).1 ≠ 3) : (hd hs (b + 1)).1 ≠ 3 := by
  intro e
  obtain ⟨b0, n, hw, g1, g2⟩ := h.cont _ e
  rcases hw.kind (i := b) (by omega) (by omega) with ⟨_, h4⟩ | ⟨_, h4⟩
  · exact h1 h4
  · exact h3 h4
theorem Fit.behind {hs : List Hd} (h : Fit hs) {b n : Nat} (hw : WholeP hs b n) : (hd hs (b + n)).1 ≠ 3 := by
  intro e
  obtain ⟨b0, n0, hw0, g1, g2⟩ := h.cont _ e
  by_cases hne : b0 = b
  · subst hne
    have := hw.uniq hw0
    omega
  · have h1 := hw.1
    by_cases hlt : b0 ≤ b
    · exact hw0.disj hw (Ne.symm hne) (i := b) (by omega) (by omega) ⟨by omega, by omega⟩
    · exact hw.disj hw0 hne (i := b0) (by omega) (by omega) ⟨by omega, by have := hw0.1; omega⟩
section
variable {B : World} {P R : SL} {t : K}
theorem bman_Sound2_c {hs : List Hd} {x : Sl} (hl2 : hs.length ≤ 2 ^ 30) (hx : Rd P x 3 (hds hs)) (hf : Fit hs) (h1 : (hd hs 1).1 ≠ 3) {k : Int × Bool → K} (hk : T B P (k (0, true))) : T B P (c_bman_Sound x k) := by
  refine T_of (bman_Sound_ok x k) ?_
  refine T_rdlen hx fun hxn => ?_
  rw [hds_len] at hxn
  have hxl : x.n = hs.length := by omega
  refine T_lpX (fun _ _ => P) (fun m (z : Int × Unit) => ∃ i : Nat, z.1 = i ∧ 1 ≤ i ∧ i ≤ hs.length + 1 ∧ m = hs.length + 1 - i ∧ (hd hs i).1 ≠ 3) (hs.length + 1 - 1) rfl ⟨1, rfl, by omega, by omega, rfl, h1⟩ ?_
  rintro m ⟨z, u⟩ cc ⟨i, e1, e2, e3, e4, e5⟩ hc
  simp only at e1
  subst e1 e4
  (repeat' (with_reducible refine T_brD (fun _ => ?_) (fun _ => ?_)))
  · rename_i hlt
    have hlt : i < hs.length := by omega
    have hhd : hd hs i = hs[i] := getD_eq hlt _
    refine T_ixH (l := hs) hx (by omega) (by rw [Int.toNat_natCast]; exact hlt) fun a ha => ?_
    simp only [Int.toNat_natCast] at ha
    refine T_ldAt ha rfl ?_
    rw [← hhd]
    refine T_brE (fun h2 => ?_) (fun h2 => ?_)
    · obtain ⟨n, hw⟩ := hf.whole i h2
      have hw1 := hw.1
      have hw2 := hw.2.1
      refine bhead_Whole_c (hs := hs) (by omega) (by omega) hx (fun bb n' e hw' => ?_) (fun hno => absurd hw (hno i n rfl))
      have : bb = i := by omega
      subst this
      have := hw.uniq hw'
      subst this
      refine T_brF ?_
      (dsimp only [bman_Sound, Zec0, Zec1, Zec2, Zec3, Zec4, Zec5, Zec6, Zec7, Zec8, Zec9, Zec10, Zec11, Zec12, Zec13])
      have ew : IntKind.wrap .i64 (IntKind.wrap .i64 ((bb : Int) + IntKind.wrap .i64 ((n : Int) - 1)) + 1) = ((bb + n : Nat) : Int) := by
        rw [w64 (n := (n : Int) - 1) (by omega) (by omega), w64 (n := (bb : Int) + ((n : Int) - 1)) (by omega) (by omega), w64 (by omega) (by omega)]; omega
      rw [ew]
      exact hc (hs.length + 1 - (bb + n)) _ (by omega) ⟨bb + n, rfl, by omega, by omega, rfl, hf.behind hw⟩
    · refine T_brE (fun h3 => absurd h3 e5) (fun h3 => ?_)
      refine hc (hs.length + 1 - (i + 1)) _ (by omega) ⟨i + 1, w64 (by omega) (by omega), by omega, by omega, rfl, hf.next h2 h3⟩
  · exact hk
/-- a block's header is right, and lasts -/
def FineH (c la : List Int) (b : Nat) : Prop := (bdec b (getI c (256 + b))).2 = 0 ∧ getI la (256 + b) = getI c (256 + b)
theorem check_Headers_c {d n g : Nat} {c la : List Int} {hs : List Hd} (hn : n = 64 * g) (hg : 2 ≤ g) (hg2 : g ≤ 2 ^ 20) (hl : hs.length = g) (hz : hd hs 0 = (0, 0, 0)) (hf : Fit hs) (h1 : (hd hs 1).1 ≠ 3)
    (hh : ∀ b : Nat, 1 ≤ b → b < g → FineH c la b → (bdec b (getI c (256 + b))).1 = hd hs b) {k : Sl × (Int × Int) → K}
    (hk : (∀ b : Nat, 1 ≤ b → b < g → FineH c la b) → ∀ s, T B (R * LDev d n c la * vec 143 3 s (hds hs)) (k (s, (0, 0))))
    (hb : ∀ b : Nat, 1 ≤ b → b < g → ¬ FineH c la b → T B (R * LDev d n c la) (k (⟨none, 0, 0⟩, (b, 21)))) : T B (R * LDev d n c la) (c_check_Headers (da d) g k) := by
  refine T_of (check_Headers_ok _ g k) ?_
  (repeat (first | ((with_reducible apply T_ldI); (focus rfl); (focus exact hasA); (focus rfl)) | (with_reducible refine T_al ?_; intro _)))
  rename_i b4
  refine T_mkV kd_hd (by omega) (by omega) (by omega) fun bv => ?_
  rw [Int.toNat_natCast, repZ_hds]
  have e0 : List.replicate g ((0, 0, 0) : Hd) = hs.take 1 ++ List.replicate (g - 1) (0, 0, 0) := by
    have h0 : hs[0]'(by omega) = (0, 0, 0) := by rw [← getD_eq (by omega) (0, 0, 0)]; exact hz
    have : hs.take 1 = [(0, 0, 0)] := by
      rw [show (1 : Nat) = 0 + 1 from rfl, List.take_succ_eq_append_getElem (by omega), h0]; rfl
    rw [this, show g = (g - 1) + 1 by omega, List.replicate_succ]; simp
  rw [e0]
  refine T_lpX (fun _ s => R * LDev d n c la * pt b4 (.cells [.int .i64 g].toArray 43) * vec 143 3 ⟨some ⟨bv, 0, none⟩, g, g⟩ (hds (hs.take s.1.toNat ++ List.replicate (g - s.1.toNat) (0, 0, 0))))
    (fun m (s : Int × Unit) => ∃ i : Nat, 1 ≤ i ∧ i ≤ g ∧ s.1 = i ∧ m = g - i ∧ ∀ b : Nat, 1 ≤ b → b < i → FineH c la b) (g - 1) rfl ⟨1, by omega, by omega, rfl, rfl, fun b _ _ => by omega⟩ ?_
  rintro m ⟨s1, u⟩ cc ⟨i, q1, q2, q3, q4, q5⟩ hc
  simp only at q3
  subst q3 q4
  simp only [Int.toNat_natCast]
  (repeat' (first | ((with_reducible apply T_ldI); (focus rfl); (focus exact hasA); (focus rfl)) | with_reducible refine T_brD (fun _ => ?_) (fun _ => ?_)))
  · rename_i hlt
    have hlt' : i < hs.length := by omega
    have hhe : header g (i : Int) = 256 + (i : Int) := by unfold header; rw [if_neg (by omega)]
    refine geom_Header_c (by omega) ?_
    rw [hhe]
    refine T_bring (X := LDev d n c la) (by exact frmA) ?_
    refine LGet_c ?_
    refine bhead_Decode_c (by omega) (by omega) ?_
    have hhi := hh i q1 (by omega)
    have hbi := hb i q1 (by omega)
    have hfe : FineH c la i ↔ (bdec i (getI c (256 + i))).2 = 0 ∧ getI la (256 + i) = getI c (256 + i) := Iff.rfl
    generalize bdec (i : Int) (getI c (256 + i)) = r at hhi hfe ⊢
    obtain ⟨⟨r1, r2, r3⟩, e⟩ := r
    simp only at hfe hhi
    have bad : ¬ FineH c la i → ∀ (b1 : Nat) (ob : Obj), T B (R * pt b4 (.cells [.int .i64 g].toArray 43) * vec 143 3 ⟨some ⟨bv, 0, none⟩, g, g⟩ (hds (hs.take i ++ List.replicate (g - i) (0, 0, 0))) * LDev d n c la * pt b1 ob) (k (⟨none, 0, 0⟩, ((i : Int), 21))) := by
      intro hn b1 ob
      refine T_drop1 .last ?_
      refine T_drop1 (.init .last) ?_
      refine T_drop1 (.init .last) ?_
      exact hbi hn
    (repeat (first | with_reducible refine T_tick ?_ | (with_reducible refine T_al ?_; intro _) | ((with_reducible apply T_st); (focus rfl); (focus exact updA); (focus simp); simp only [List.set, Nat.zero_add, Nat.reduceAdd])))
    rename_i b1
    (dsimp only [check_Headers, Zfu0, Zfu1, Zfu2, Zfu3, Zfu4, Zfu5, Zfu6, Zfu7, Zfu8, Zfu9, Zfu10, Zfu11, Zfu12, Zfu13, Zfu14])
    refine T_brNE (fun hne => ?_) (fun he => ?_)
    · refine T_brT ?_
      exact bad (fun h => hne (hfe.1 h).1) _ _
    subst he
    (repeat (((with_reducible apply T_ldI); (focus rfl); (focus exact hasA); (focus rfl))))
    refine geom_Header_c (by omega) ?_
    rw [hhe]
    (repeat (first | with_reducible refine T_chk0 ?_ | ((with_reducible apply T_chk); (focus rfl); (focus exact hasA); (focus rfl))))
    refine T_bring (X := LDev d n c la) (by exact frmA) ?_
    refine LLasting_c ?_
    (repeat (first | with_reducible refine T_chk0 ?_ | ((with_reducible apply T_chk); (focus rfl); (focus exact hasA); (focus rfl))))
    refine geom_Header_c (by omega) ?_
    rw [hhe]
    refine LGet_c ?_
    refine T_brNE (fun hne => ?_) (fun heq => ?_)
    · exact T.perm (by ac_rfl) (bad (fun h => hne (hfe.1 h).2) b1 _)
    have hfine : FineH c la i := hfe.2 ⟨rfl, heq⟩
    have hr := hhi hfine
    have hhd : hd hs i = hs[i] := getD_eq hlt' _
    rw [hhd] at hr
    (repeat (((with_reducible apply T_ldI); (focus rfl); (focus exact hasA); (focus rfl))))
    refine T_bring (X := vec 143 3 ⟨some ⟨bv, 0, none⟩, g, g⟩ (hds (hs.take i ++ List.replicate (g - i) (0, 0, 0)))) (by exact frmA) ?_
    refine T_stH (i := i) (x := (r1, r2, r3)) (s := ⟨some ⟨bv, 0, none⟩, g, g⟩) (l := hs.take i ++ List.replicate (g - i) (0, 0, 0)) .last (by omega) (by simp; omega) ?_
    have hx := hc (g - (i + 1)) (IntKind.wrap .i64 ((i : Int) + 1), ()) (by omega) ⟨i + 1, by omega, by omega, w64 (by omega) (by omega), rfl, fun b p1 p2 => by
      by_cases e : b = i
      · subst e; exact hfine
      · exact q5 b p1 (by omega)⟩
    have e : (IntKind.wrap .i64 ((i : Int) + 1)).toNat = i + 1 := by rw [w64 (by omega) (by omega)]; omega
    simp only [e] at hx
    have e2 : (hs.take i ++ List.replicate (g - i) ((0, 0, 0) : Hd)).set (i : Int).toNat (r1, r2, r3) = hs.take (i + 1) ++ List.replicate (g - (i + 1)) (0, 0, 0) := by
      rw [hr, Int.toNat_natCast, List.set_append_right _ _ (by simp; omega), List.take_succ_eq_append_getElem hlt']
      have e5 : i - (hs.take i).length = 0 := by simp; omega
      rw [e5, show g - i = (g - (i + 1)) + 1 by omega, List.replicate_succ, List.set_cons_zero, List.append_assoc]; rfl
    rw [e2]
    refine T_drop1 (by exact frmA : Frm _ (pt b1 (.cells [.int .i64 r1, .int .i64 r2, .int .i64 r3].toArray 143)) _) ?_
    refine T.perm ?_ hx
    ac_rfl
  · rename_i hge
    have : i = g := by omega
    subst this
    simp only [Nat.sub_self, List.replicate_zero, List.append_nil]
    rw [List.take_of_length_le (by omega)]
    refine bman_Sound2_c (hs := hs) (by omega) (Rd.vec (E := 143) .last) hf h1 ?_
    (dsimp only [check_Headers, Zfu0, Zfu1, Zfu2, Zfu3, Zfu4, Zfu5, Zfu6, Zfu7, Zfu8, Zfu9, Zfu10, Zfu11, Zfu12, Zfu13, Zfu14])
    simp only [Bool.not_true]
    (repeat (with_reducible refine T_brF ?_))
    refine T_drop1 (.init .last) ?_
    exact hk q5 ⟨some ⟨bv, 0, none⟩, i, i⟩
end
end
section
set_option maxHeartbeats 1000000
theorem cellOf_cell {g b k i : Nat} (hk : k < 32) (hb : 1 ≤ b) (hb2 : b < g) (hi : i < cn k) : cellOf g k (cellN b k i : Nat) = (((b : Int), (i : Int)), true) := by
  have hr := cellN_rng (b := b) hk hi
  obtain ⟨t1, t2, t3, t4, t5, t6, t7, t8⟩ := cls_tab k hk
  have hb' := blockOf_of (g := g) (x := cellN b k i) (by omega)
  rw [cellN_blk hk hi] at hb'
  unfold cellOf
  rw [if_neg (by rw [hb']; omega), hb', t1]
  have e : ((cellN b k i : Nat) : Int) % 512 / (cw k : Int) = ((i : Nat) : Int) := by
    have e1 : cellN b k i % 512 = i * cw k := by
      have h5 := hr.2
      have h6 := hr.1
      unfold cellN at h5 h6 ⊢
      omega
    have e2 : ((cellN b k i : Nat) : Int) % 512 = ((i * cw k : Nat) : Int) := by omega
    rw [e2, ← Int.natCast_ediv, Nat.mul_div_cancel _ (by omega)]
  rw [e, cellAt_eq hk hb hb2 hi]
  simp
def fmOf (l : List Int) : FM := fun x => if x ∈ l then some true else none
def frL (s : St) (k : Nat) : List Int := sortI (accL s.L k 4)
def allL (s : St) (k : Nat) : List Int := (List.range k).flatMap (frL s)
theorem fmOf_snoc (l : List Int) (x : Int) : updF (fmOf l) x true = fmOf (l ++ [x]) := by
  funext y
  unfold updF fmOf
  by_cases e : y = x
  · subst e; simp
  · rw [if_neg e]; simp [e]
theorem frL_mem {g : Nat} {s : St} (inv : Inv g s.hs s.U s.L) {k : Nat} (hk : k < 32) (x : Int) : x ∈ frL s k ↔ ∃ n : Nat, x = n ∧ SmCell g s.hs k n ∧ s.U n = false := by
  unfold frL sortI
  rw [List.mem_mergeSort, inv.free.mem k hk]
theorem frL_nodup {g : Nat} {s : St} (inv : Inv g s.hs s.U s.L) {k : Nat} (hk : k < 32) : (frL s k).Nodup := by
  unfold frL sortI
  exact (List.mergeSort_perm _ _).nodup_iff.2 (inv.free.nd k hk)
theorem allL_mem {g : Nat} {s : St} (inv : Inv g s.hs s.U s.L) {k : Nat} (hk : k ≤ 32) (x : Int) : x ∈ allL s k ↔ ∃ j, j < k ∧ ∃ n : Nat, x = n ∧ SmCell g s.hs j n ∧ s.U n = false := by
  unfold allL
  rw [List.mem_flatMap]
  constructor
  · rintro ⟨j, hj, h⟩
    have hj := List.mem_range.1 hj
    exact ⟨j, hj, (frL_mem inv (by omega) x).1 h⟩
  · rintro ⟨j, hj, h⟩
    exact ⟨j, List.mem_range.2 hj, (frL_mem inv (by omega) x).2 h⟩
section
variable {B : World} {P R : SL} {t : K}
theorem check_free_c {a d g : Nat} {s : St} (inv : Inv g s.hs s.U s.L) {k : Option Nat × (Int × Int) → K} (hk : ∀ m fm, FreeM g s fm → T B (R * Al a d g s * MpF ei eb m fm) (k (some m, (0, 0)))) : T B (R * Al a d g s) (c_check_free (da a) k) := by
  refine T_of (check_free_ok _ k) ?_
  have hg := inv.big
  have hl := inv.len
  refine T_al fun m => ?_
  refine MpF_close (ek := ei) (ev := eb) (FOk_nil (α := Int) (β := Bool)) ?_
  have e0 : (fun _ => none : FM) = fmOf (allL s 0) := by funext x; rfl
  rw [e0]
  (dsimp only [check_free, Zfv0, Zfv1, Zfv2, Zfv3, Zfv4, Zfv5, Zfv6, Zfv7, Zfv8, Zfv9, Zfv10, Zfv11, Zfv12, Zfv13, Zfv14, Zfv15, Zfv16, Zfv17, Zfv18])
  refine T_lpX (fun _ z => R * Al a d g s * MpF ei eb m (fmOf (allL s z.1.toNat))) (fun n (z : Int × Unit) => ∃ i : Nat, z.1 = i ∧ i ≤ 32 ∧ n = 32 - i) 32 rfl ⟨0, rfl, by omega, rfl⟩ ?_
  rintro n ⟨z, u⟩ c ⟨i, e1, e2, e3⟩ hc
  simp only at e1
  subst e1 e3
  simp only [Int.toNat_natCast]
  (repeat' (with_reducible refine T_brD (fun _ => ?_) (fun _ => ?_)))
  · rename_i hlt
    have hi : i < 32 := by omega
    have hnx := hc (32 - (i + 1)) (IntKind.wrap .i64 ((i : Int) + 1), ()) (by omega) ⟨i + 1, w64 (by omega) (by omega), by omega, rfl⟩
    have e : (IntKind.wrap .i64 ((i : Int) + 1)).toNat = i + 1 := by rw [w64 (by omega) (by omega)]; omega
    simp only [e] at hnx
    clear hc
    refine T_bring (X := Al a d g s) (by exact frmA) ?_
    refine FreeCells_c inv hi fun sl => ?_
    have hfl : sortI (accL s.L i 4) = frL s i := rfl
    rw [hfl]
    refine T_vlen (E := 3) (sz := 1) (s := sl) (vs := ints (frL s i)) .last fun hsn => ?_
    rw [ints_len, Nat.mul_one] at hsn
    have hlen : (frL s i).length ≤ 2 ^ 30 := by
      have := inv.free.len hg hi
      unfold frL sortI; rw [List.length_mergeSort]; omega
    refine T_lpX (fun _ z => R * MpF ei eb m (fmOf (allL s i ++ (frL s i).take z.1.toNat)) * Al a d g s * vec 3 1 sl (ints (frL s i))) (fun n (z : Int × Unit) => ∃ j : Nat, z.1 = j ∧ j ≤ (frL s i).length ∧ n = (frL s i).length - j) (frL s i).length (by simp) ⟨0, rfl, by omega, rfl⟩ ?_
    rintro n ⟨z, u⟩ c2 ⟨j, f1, f2, f3⟩ hc
    simp only at f1
    subst f1 f3
    simp only [Int.toNat_natCast]
    (repeat' (with_reducible refine T_brD (fun _ => ?_) (fun _ => ?_)))
    · rename_i hlt2
      have hj : j < (frL s i).length := by omega
      have hnx2 := hc ((frL s i).length - (j + 1)) (IntKind.wrap .i64 ((j : Int) + 1), ()) (by omega) ⟨j + 1, w64 (by omega) (by omega), by omega, rfl⟩
      have e : (IntKind.wrap .i64 ((j : Int) + 1)).toNat = j + 1 := by rw [w64 (by omega) (by omega)]; omega
      simp only [e] at hnx2
      rw [List.take_succ_eq_append_getElem hj, ← List.append_assoc, ← fmOf_snoc] at hnx2
      clear hc hnx
      refine T_ixV (n := (frL s i)[j]) (Rd.vec (E := 3) (s := sl) .last) (by omega) (by rw [Int.toNat_natCast]; exact ints_at hj) ?_
      have hmem : (frL s i)[j] ∈ frL s i := List.getElem_mem hj
      have hnin : (frL s i)[j] ∉ allL s i ++ (frL s i).take j := by
        intro h
        rcases List.mem_append.1 h with h | h
        · obtain ⟨j', hj', n, e1, h1, h2⟩ := (allL_mem inv (by omega) _).1 h
          obtain ⟨n', e1', h1', h2'⟩ := (frL_mem inv hi _).1 hmem
          have : n = n' := by omega
          subst this
          have := SmCell.k (by omega) hi h1 h1'
          omega
        · have hnd := frL_nodup inv hi
          rw [List.mem_take_iff_getElem] at h
          obtain ⟨q, hq, e⟩ := h
          exact List.pairwise_iff_getElem.1 hnd q j (by omega) hj (by omega) e
      obtain ⟨x, hx, ⟨b, ci, hb1, hb2, hbh, hci, hxc⟩, hu⟩ := (frL_mem inv hi _).1 hmem
      generalize (frL s i)[j] = y at *
      subst hx hxc
      refine T_bring (X := Al a d g s) (by exact frmA) ?_
      refine Al_open fun mm u f => ?_
      unfold da
      (repeat (first | with_reducible refine T_nn ?_ | ((with_reducible apply T_ldP); (focus rfl); (focus exact hasA); (focus rfl))))
      refine T_bring (X := Mg mm d g s.hs s.F) (by exact frmA) ?_
      refine bman_Geometry_c ?_
      refine cells_At_c (by omega) (by omega) ?_
      rw [cellOf_cell hi hb1 hb2 hci]
      (repeat (first | with_reducible refine T_tick ?_ | (with_reducible refine T_al ?_; intro _) | ((with_reducible apply T_st); (focus rfl); (focus exact updA); (focus simp); simp only [List.set, Nat.zero_add, Nat.reduceAdd])))
      rename_i b1
      simp only [Bool.not_true]
      (repeat (first | with_reducible refine T_nn ?_ | with_reducible refine T_brF ?_ | ((with_reducible apply T_ldP); (focus rfl); (focus exact hasA); (focus rfl))))
      refine T_bring (X := Mg mm d g s.hs s.F) (by exact frmA) ?_
      refine Mg_open fun tt xx tie => ?_
      unfold da
      (repeat (first | ((with_reducible apply T_ldI); (focus rfl); (focus exact hasA); (focus rfl)) | ((with_reducible apply T_ldP); (focus rfl); (focus exact hasA); (focus rfl))))
      refine T_bring (X := Tab tt d g s.hs) (by exact frmA) ?_
      refine blocks_Get_c ?_
      rw [if_neg (by omega), Int.toNat_natCast, show s.hs.getD b (0, 0, 0) = hd s.hs b from rfl, hbh]
      simp only [BEq.rfl, Bool.and_true, Bool.not_true]
      (repeat (with_reducible refine T_brF ?_))
      refine T_lkF (ek := ei) (ev := eb) kd_ib (MHas.of (show Frm _ (MpF ei eb m (fmOf (allL s i ++ (frL s i).take j))) _ by exact frmA)) (key := (cellN b i ci : Nat)) (f := fmOf (allL s i ++ (frL s i).take j)) false (by unfold fmOf; rw [if_neg hnin]; rfl) fun ob => ?_
      (repeat (with_reducible refine T_brF ?_))
      refine T_bring (X := MpF ei eb m (fmOf (allL s i ++ (frL s i).take j))) (by exact frmA) ?_
      refine T_updM (ek := ei) (ev := eb) kd_ib (v := true) (key := ((cellN b i ci : Nat) : Int)) rfl rfl ?_
      refine T_drop1 (by exact frmA : Frm _ (pt b1 (.cells [.int .i64 b, .int .i64 ci].toArray 168)) _) ?_
      have h2 : T B (R * MpF ei eb m (updF (fmOf (allL s i ++ (frL s i).take j)) ((cellN b i ci : Nat) : Int) true) * vec 3 1 sl (ints (frL s i)) * Al a d g s) (c2 (IntKind.wrap .i64 ((j : Int) + 1), ())) := T.perm (by ac_rfl) hnx2
      have h3 := Al_close (m := mm) (u := u) (f := f) h2
      have h4 : T B (R * MpF ei eb m (updF (fmOf (allL s i ++ (frL s i).take j)) ((cellN b i ci : Nat) : Int) true) * vec 3 1 sl (ints (frL s i)) * LDx d (64 * g) s.c * Bm u (512 * g) s.U * Fl f s.L * pt a (.cells [.pointer (da mm), .pointer (da d), .int .i64 g, .pointer (da u), .pointer (da f)].toArray 47) * Mg mm d g s.hs s.F) (c2 (IntKind.wrap .i64 ((j : Int) + 1), ())) := T.perm (by ac_rfl) h3
      exact T.perm (by unfold da; ac_rfl) (Mg_close (a := tt) (x := xx) tie h4)
    · have : j = (frL s i).length := by omega
      subst this
      rw [List.take_length]
      have e4 : allL s i ++ frL s i = allL s (i + 1) := by unfold allL; rw [List.range_succ, List.flatMap_append]; simp
      rw [e4]
      refine T_drop1 .last ?_
      exact T.perm (by ac_rfl) hnx
  · have : i = 32 := by omega
    subst this
    refine hk m _ fun x => ?_
    unfold fmOf
    have hm := allL_mem inv (Nat.le_refl 32) (x : Int)
    by_cases h : (x : Int) ∈ allL s 32
    · rw [if_pos h]
      obtain ⟨j, hj, n, e, h1, h2⟩ := hm.1 h
      have : x = n := by omega
      subst this
      simp only [Option.getD_some, true_iff]
      exact ⟨j, hj, h1, h2⟩
    · rw [if_neg h]
      simp only [Option.getD_none, Bool.false_eq_true, false_iff]
      rintro ⟨j, hj, h1, h2⟩
      exact h (hm.2 ⟨j, hj, x, rfl, h1, h2⟩)
end
end
section
set_option maxHeartbeats 1000000
def oneR (g : Nat) (s : St) (b : Nat) (r : Rp) : Rp :=
  if (hd s.hs b).1 = 0 then { r with f := r.f + 1 }
  else if (hd s.hs b).1 = 1 then blkR g s b (hd s.hs b).2.1.toNat r
  else if (hd s.hs b).1 = 2 then { r.add (oHead s.c (64 * g) ((b * 512 : Nat) : Int)).1 ((hd s.hs b).2.2 * 512) with l := r.l + 1 }
  else r
def GoodB (g : Nat) (s : St) (b : Nat) : Prop := ∀ x, x / 512 = b → Good g s x
def BadX (g : Nat) (s : St) : Prop := ∃ x, Bad g s x
theorem GoodB.small {g : Nat} {s : St} (inv : Inv g s.hs s.U s.L) {b k : Nat} (hk : k < 32) (hh : hd s.hs b = (1, (k : Int), 0)) (h : ∀ i, i < cn k → Good g s (cellN b k i)) : GoodB g s b := by
  intro x hx hu
  rcases inv.used x hu with ⟨j, hj, b', i, _, _, h3, h4, rfl⟩ | ⟨b', n, _, hw, rfl⟩
  · rw [cellN_blk hj h4] at hx
    subst hx
    rw [hh] at h3
    simp only [Prod.mk.injEq] at h3
    have : j = k := by omega
    subst this
    exact h i h4 hu
  · rw [Nat.mul_div_cancel _ (by omega)] at hx
    subst hx
    have := hw.2.2.1
    unfold hd at hh
    rw [hh] at this; simp at this
theorem GoodB.large {g : Nat} {s : St} (inv : Inv g s.hs s.U s.L) {b : Nat} (hh : (hd s.hs b).1 = 2) (h : Good g s (b * 512)) : GoodB g s b := by
  intro x hx hu
  rcases inv.used x hu with ⟨j, hj, b', i, _, _, h3, h4, rfl⟩ | ⟨b', n, _, hw, rfl⟩
  · rw [cellN_blk hj h4] at hx
    subst hx
    rw [h3] at hh; simp at hh
  · rw [Nat.mul_div_cancel _ (by omega)] at hx
    subst hx
    exact h hu
theorem GoodB.none {g : Nat} {s : St} (inv : Inv g s.hs s.U s.L) {b : Nat} (hh : (hd s.hs b).1 = 0 ∨ (hd s.hs b).1 = 3) : GoodB g s b := by
  intro x hx hu
  rw [inv.free_unused hh hx] at hu; cases hu
section
variable {B : World} {P R : SL} {t : K}
theorem check_one_c {a d g b m br : Nat} {s : St} {fm : FM} {sl : Sl} (inv : Inv g s.hs s.U s.L) (hlg : ∀ b n, 1 ≤ b → WholeP s.hs b n → s.U (b * 512) = true) (hb : 1 ≤ b) (hb2 : b < g) (hfm : FreeM g s fm) {r : Rp} {kk : Int × Int → K}
    (h0 : GoodB g s b → T B (R * Al a d g s * MpF ei eb m fm * Rpt br (oneR g s b r) * vec 143 3 sl (hds s.hs)) (kk (0, 0)))
    (h1 : ∀ x r', BadX g s → T B (R * Al a d g s * MpF ei eb m fm * Rpt br r' * vec 143 3 sl (hds s.hs)) (kk (x, 22))) :
    T B (R * Al a d g s * MpF ei eb m fm * Rpt br r * vec 143 3 sl (hds s.hs)) (c_check_Report_one (da br) (da a) (some m) sl b kk) := by
  refine T_of (check_Report_one_ok _ _ _ sl b kk) ?_
  have hg := inv.big
  have hl := inv.len
  have hlt : b < s.hs.length := by omega
  have hhd : hd s.hs b = s.hs[b] := getD_eq hlt _
  refine T_ixH (l := s.hs) (Rd.vec (E := 143) (s := sl) .last) (by omega) (by rw [Int.toNat_natCast]; exact hlt) fun y hy => ?_
  simp only [Int.toNat_natCast] at hy
  rw [← hhd] at hy
  have hrt := hRight_mem inv.right b
  have hone : ∀ r, oneR g s b r = oneR g s b r := fun _ => rfl
  unfold oneR at h0
  obtain ⟨⟨q1, q2, q3⟩, hq⟩ : ∃ q, q = hd s.hs b := ⟨_, rfl⟩
  rw [← hq] at hy hrt h0
  simp only at h0
  unfold hRight at hrt
  simp only [Prod.mk.injEq] at hrt
  refine T_ldAt hy rfl ?_
  refine T_ldAt hy rfl ?_
  refine T_ldAt hy rfl ?_
  (repeat (first | ((with_reducible apply T_ldI); (focus rfl); (focus exact hasA); (focus rfl)) | (with_reducible refine T_al ?_; intro _) | ((with_reducible apply T_st); (focus rfl); (focus exact updA); (focus simp); simp only [List.set, Nat.zero_add, Nat.reduceAdd])))
  rename_i b1
  by_cases h00 : q1 = 0
  · subst h00
    simp only [if_true] at h0
    unfold da Rpt rpL at *
    refine T_brE (fun _ => ?_) (fun h => absurd rfl h)
    (repeat (first | with_reducible refine T_nn ?_ | ((with_reducible apply T_ldI); (focus rfl); (focus exact hasA); (focus rfl)) | ((with_reducible apply T_st); (focus rfl); (focus exact updA); (focus simp); simp only [List.set, Nat.zero_add, Nat.reduceAdd])))
    rw [wi_l]
    refine T_drop1 .last ?_
    exact h0 (.none inv (.inl (by rw [← hq])))
  refine T_brE (fun h => absurd h h00) (fun _ => ?_)
  rw [if_neg h00] at h0
  by_cases h01 : q1 = 1
  · subst h01
    simp only [if_true] at h0
    refine T_brE (fun _ => ?_) (fun h => absurd rfl h)
    obtain ⟨k, rfl⟩ := Int.eq_ofNat_of_zero_le (show 0 ≤ q2 by omega)
    have hk : k < 32 := by omega
    have h30 : q3 = 0 := by omega
    subst h30
    rw [Int.toNat_natCast] at h0
    (repeat (((with_reducible apply T_ldI); (focus rfl); (focus exact hasA); (focus rfl))))
    refine T.perm (Q := R * pt b1 (.cells [.int .i64 1, .int .i64 k, .int .i64 0].toArray 143) * vec 143 3 sl (hds s.hs) * Al a d g s * MpF ei eb m fm * Rpt br r) (by ac_rfl) ?_
    refine check_block_c inv hk hb hb2 hq.symm hfm (fun hgood => ?_) (fun x r' hbad => ?_)
    · skip
      refine T_drop1 (by exact frmA : Frm _ (pt b1 (.cells [.int .i64 1, .int .i64 k, .int .i64 0].toArray 143)) _) ?_
      exact T.perm (by ac_rfl) (h0 (.small inv hk hq.symm hgood))
    · skip
      refine T_drop1 (by exact frmA : Frm _ (pt b1 (.cells [.int .i64 1, .int .i64 k, .int .i64 0].toArray 143)) _) ?_
      obtain ⟨i, _, hbad⟩ := hbad
      exact T.perm (by ac_rfl) (h1 x r' ⟨_, hbad⟩)
  refine T_brE (fun h => absurd h h01) (fun _ => ?_)
  rw [if_neg h01] at h0
  by_cases h02 : q1 = 2
  · subst h02
    simp only [if_true] at h0
    refine T_brE (fun _ => ?_) (fun h => absurd rfl h)
    obtain ⟨n, hw⟩ := inv.whole b (by rw [← hq])
    have hw1 := hw.1
    have hw2 := hw.2.1
    have hu := hlg b n hb hw
    have hq3 : q3 = n := by
      have := hw.2.2.2.1
      rw [show s.hs.getD b (0, 0, 0) = hd s.hs b from rfl, ← hq] at this
      exact this
    subst hq3
    refine T_bring (X := Al a d g s) (by exact frmA) ?_
    refine Al_open fun mm u f => ?_
    unfold da
    (repeat (first | with_reducible refine T_nn ?_ | ((with_reducible apply T_ldP); (focus rfl); (focus exact hasA); (focus rfl))))
    refine T_bring (X := Mg mm d g s.hs s.F) (by exact frmA) ?_
    refine bman_Geometry_c ?_
    refine geom_First_c (by omega) ?_
    have hf : first g (b : Int) = ((b * 512 : Nat) : Int) := by unfold first; rw [if_neg (by omega)]; omega
    rw [hf]
    refine T.perm (Q := R * MpF ei eb m fm * Rpt br r * vec 143 3 sl (hds s.hs) * pt b1 (.cells [.int .i64 2, .int .i64 q2, .int .i64 n].toArray 143) * LDx d (64 * g) s.c * Mg mm d g s.hs s.F * Bm u (512 * g) s.U * Fl f s.L * pt a (.cells [.pointer (da mm), .pointer (da d), .int .i64 g, .pointer (da u), .pointer (da f)].toArray 47)) (by unfold da; ac_rfl) ?_
    refine Al_close (t := c_alloc_Allocator_Place (da a) ((b * 512 : Nat) : Int) _) ?_
    refine Place_c inv (fun o ho => ?_) (fun hno o => ?_)
    · have e1 : (oHead s.c (64 * g) ((b * 512 : Nat) : Int)).1 = o := by rw [ho.1]
      rw [e1] at h0
      (repeat (first | (with_reducible refine T_al ?_; intro _) | ((with_reducible apply T_st); (focus rfl); (focus exact updA); (focus simp); simp only [List.set, Nat.zero_add, Nat.reduceAdd])))
      rename_i b2
      (dsimp only [check_Report_one, Zfw0, Zfw1, Zfw2, Zfw3, Zfw4, Zfw5, Zfw6, Zfw7, Zfw8, Zfw9, Zfw10, Zfw11, Zfw12, Zfw13, Zfw14, Zfw15, Zfw16])
      simp only [Bool.not_true]
      (repeat (with_reducible refine T_brF ?_))
      refine T_bring (X := Al a d g s) (by exact frmA) ?_
      refine Used_c ?_
      rw [has_nat, hu]
      simp only [Bool.not_true]
      (repeat (first | with_reducible refine T_brF ?_ | ((with_reducible apply T_ldI); (focus rfl); (focus exact hasA); (focus rfl))))
      rw [w64 (n := (n : Int) * 512) (by omega) (by omega)]
      refine T_bring (X := Rpt br r) (by exact frmA) ?_
      refine check_add_c ?_
      unfold Rpt rpL Rp.add at *
      try unfold da
      (repeat (first | with_reducible refine T_nn ?_ | ((with_reducible apply T_ldI); (focus rfl); (focus exact hasA); (focus rfl)) | ((with_reducible apply T_st); (focus rfl); (focus exact updA); (focus simp); simp only [List.set, Nat.zero_add, Nat.reduceAdd])))
      rw [wi_l]
      refine T_drop1 (by exact frmA : Frm _ (pt b1 (.cells [.int .i64 2, .int .i64 q2, .int .i64 n].toArray 143)) _) ?_
      refine T_drop1 (by exact frmA : Frm _ (pt b2 (.cells [.int .i64 o.1, .int .i64 o.2].toArray 68)) _) ?_
      exact T.perm (by ac_rfl) (h0 (.large inv (by rw [← hq]) fun _ => ⟨o, ho⟩))
    · (repeat (first | (with_reducible refine T_al ?_; intro _) | ((with_reducible apply T_st); (focus rfl); (focus exact updA); (focus simp); simp only [List.set, Nat.zero_add, Nat.reduceAdd])))
      rename_i b2
      (dsimp only [check_Report_one, Zfw0, Zfw1, Zfw2, Zfw3, Zfw4, Zfw5, Zfw6, Zfw7, Zfw8, Zfw9, Zfw10, Zfw11, Zfw12, Zfw13, Zfw14, Zfw15, Zfw16])
      simp only [Bool.not_false]
      (repeat (with_reducible refine T_brT ?_))
      refine T_drop1 (by exact frmA : Frm _ (pt b1 (.cells [.int .i64 2, .int .i64 q2, .int .i64 n].toArray 143)) _) ?_
      refine T_drop1 (by exact frmA : Frm _ (pt b2 (.cells [.int .i64 o.1, .int .i64 o.2].toArray 68)) _) ?_
      exact T.perm (by ac_rfl) (h1 _ r ⟨b * 512, hu, hno⟩)
  refine T_brE (fun h => absurd h h02) (fun _ => ?_)
  rw [if_neg h02] at h0
  refine T_drop1 .last ?_
  exact h0 (.none inv (.inr (by rw [← hq]; simp only; omega)))
end
end
section
set_option maxHeartbeats 2000000
def rp0 : Rp := ⟨0, 0, 0, 0, 0, 0, 0⟩
abbrev Q7 := Int × (Int × (Int × (Int × (Int × (Int × Int)))))
def rpT (r : Rp) : Q7 := (IntKind.wrap .i64 r.f, (IntKind.wrap .i64 r.s, (IntKind.wrap .i64 r.l, (IntKind.wrap .i64 r.o, (IntKind.wrap .i64 r.u, (IntKind.wrap .i64 r.c, IntKind.wrap .i64 r.w))))))
/-- what is told of all blocks below one -/
def wholeR (g : Nat) (s : St) : Nat → Rp
  | 0 => rp0
  | 1 => rp0
  | b + 2 => oneR g s (b + 1) (wholeR g s (b + 1))
theorem wholeR_succ (g : Nat) (s : St) {b : Nat} (h : 1 ≤ b) : wholeR g s (b + 1) = oneR g s b (wholeR g s b) := by
  obtain ⟨c, rfl⟩ : ∃ c, b = c + 1 := ⟨b - 1, by omega⟩
  rfl
theorem sumI_snoc (l : List (Int × Int)) (x : Int × Int) : sumI (l ++ [x]) = sumI l + x.2 := by
  induction l with
  | nil => simp [sumI]
  | cons y l ih => simp only [List.cons_append, sumI, ih]; omega
section
variable {B : World} {P R : SL} {t : K}
theorem LDev_len {d n : Nat} {c la : List Int} (h : c.length = 8 * n → la.length = 8 * n → T B (R * LDev d n c la) t) : T B (R * LDev d n c la) t := by
  refine LDev_open fun v hv h1 h2 => ?_
  exact LDev_close hv h1 h2 (h (h1 ▸ hv.ok.l2) (h2 ▸ hv.ok.l1))
theorem HLs_of {g : Nat} {c la : List Int} (hc : c.length = 8 * (64 * g)) (hla : la.length = 8 * (64 * g)) (hg : 1 ≤ g) (h : ∀ b : Nat, 1 ≤ b → b < g → getI la (256 + b) = getI c (256 + b)) : HLs (64 * g) c la := by
  intro i h1 h2
  have := h (i - 256) (by omega) (by omega)
  rw [show (256 + ((i - 256 : Nat) : Int)) = ((i : Nat) : Int) by omega, getI_nat, getI_nat, getD_eq (by omega), getD_eq (by omega)] at this
  rw [List.getElem?_eq_getElem (by omega), List.getElem?_eq_getElem (by omega), this]
theorem check_runs_c {a d g b1 b2 : Nat} {s : St} {sl : Sl} (inv : Inv g s.hs s.U s.L) (tie : Tie g s.hs s.F) {r : Rp} (hF : r.f = nFree s.hs g) {kk : Q7 × (Int × Int) → K} (hk : T B (R * Al a d g s) (kk (rpT r, (0, 0)))) :
    T B (R * vec 143 3 sl (hds s.hs) * Rpt b1 r * Rpt b2 rp0 * Al a d g s) (Zft20 (da a) kk ⟨b2, 0, none⟩ sl ⟨b1, 0, none⟩ 0) := by
  have hg := inv.big
  have hl := inv.len
  refine Al_open fun mm u f => ?_
  unfold da
  (repeat (first | with_reducible refine T_nn ?_ | ((with_reducible apply T_ldP); (focus rfl); (focus exact hasA); (focus rfl))))
  refine T_bring (X := Mg mm d g s.hs s.F) (by exact frmA) ?_
  refine bman_Runs_c fun x77 l hcov _ => ?_
  have cl : ∀ t, T B (R * vec 143 3 sl (hds s.hs) * Rpt b1 r * Rpt b2 rp0 * vec 152 2 x77 (prs l) * Al a d g s) t → T B (R * vec 143 3 sl (hds s.hs) * Rpt b1 r * Rpt b2 rp0 * LDx d (64 * g) s.c * Bm u (512 * g) s.U * Fl f s.L * pt a (.cells [.pointer (some ⟨mm, 0, none⟩), .pointer (some ⟨d, 0, none⟩), .int .i64 g, .pointer (some ⟨u, 0, none⟩), .pointer (some ⟨f, 0, none⟩)].toArray 47) * Mg mm d g s.hs s.F * vec 152 2 x77 (prs l)) t := fun t h => T.perm (by unfold da; ac_rfl) (Al_close (m := mm) (u := u) (f := f) h)
  refine cl _ ?_
  clear cl
  refine T_vlen (E := 152) (sz := 2) (s := x77) (vs := prs l) (.init .last) fun hn => ?_
  rw [prs_len] at hn
  refine T_vlen (E := 143) (sz := 3) (s := sl) (vs := hds s.hs) (.init (.init (.init (.init .last)))) fun hsn => ?_
  rw [hds_len] at hsn
  have hspan : ∀ j (hj : j < l.length), ∃ p q : Nat, l[j] = ((p : Int), (q : Int)) ∧ 1 ≤ p ∧ p + q ≤ g ∧ ∀ i, i < q → (hd s.hs (p + i)).1 = 0 := by
    intro j hj
    have hm : (l[j].1, l[j].2) ∈ l := List.getElem_mem hj
    have hFj := (hcov.2 _ _).2 hm
    have hr := tie.ok.rng _ _ hFj
    refine ⟨l[j].1.toNat, l[j].2.toNat, Prod.ext (by simp only; omega) (by simp only; omega), by omega, by omega, fun i hi => ?_⟩
    have := (tie.fr ((l[j].1.toNat + i : Nat) : Int)).1 ⟨_, _, hFj, by omega, by omega⟩
    rw [Int.toNat_natCast] at this
    exact this.2.2
  have hsum : sumI l = nFree s.hs g := sumI_free tie hcov
  have hlen : l.length ≤ 2 ^ 30 := by
    have h1 : l.length ≤ g := by
      have h2 : (l.map fun p => p.1.toNat).Nodup := by
        have h3 := hcov.1
        rw [List.Nodup, List.pairwise_map] at h3 ⊢
        refine (List.Pairwise.and_mem.1 h3).imp fun {x y} ⟨hx, hy, hne⟩ e => hne ?_
        have hx1 := (tie.ok.rng _ _ ((hcov.2 x.1 x.2).2 hx)).1
        have hy1 := (tie.ok.rng _ _ ((hcov.2 y.1 y.2).2 hy)).1
        omega
      have := nodup_lt_len g _ h2 (fun x hx => by
        obtain ⟨p, hp, rfl⟩ := List.mem_map.1 hx
        have := tie.ok.rng _ _ ((hcov.2 p.1 p.2).2 hp)
        omega)
      simpa using this
    omega
  refine T_lpX (fun _ _ => R * vec 143 3 sl (hds s.hs) * Rpt b1 r * Rpt b2 rp0 * vec 152 2 x77 (prs l) * Al a d g s) (fun m (z : Int × Int × Unit) => ∃ j : Nat, z.1 = IntKind.wrap .i64 (sumI (l.take j)) ∧ z.2.1 = j ∧ j ≤ l.length ∧ m = l.length - j) l.length rfl ⟨0, rfl, rfl, by omega, by omega⟩ ?_
  rintro m ⟨z1, z2, uu⟩ c ⟨j, e1, e2, e3, e4⟩ hc
  simp only at e1 e2
  subst e1 e2 e4
  dsimp only
  (repeat' (with_reducible refine T_brD (fun _ => ?_) (fun _ => ?_)))
  · rename_i hlt
    have hj : j < l.length := by omega
    obtain ⟨p, q, hpq, h1, h2, hfr⟩ := hspan j hj
    have hnx := hc (l.length - (j + 1)) (IntKind.wrap .i64 (sumI (l.take j) + q), IntKind.wrap .i64 ((j : Int) + 1), ()) (by omega) ⟨j + 1, by
      rw [List.take_succ_eq_append_getElem hj, sumI_snoc, hpq], w64 (by omega) (by omega), by omega, rfl⟩
    clear hc
    refine T_ixP (l := l) (Rd.vec (E := 152) (s := x77) (.init .last)) (by omega) (by rw [Int.toNat_natCast]; exact hj) fun y hy => ?_
    simp only [Int.toNat_natCast, hpq] at hy
    refine T_ldAt hy rfl ?_
    refine T_ldAt hy rfl ?_
    (repeat (first | ((with_reducible apply T_ldI); (focus rfl); (focus exact hasA); (focus rfl)) | (with_reducible refine T_al ?_; intro _) | ((with_reducible apply T_st); (focus rfl); (focus exact updA); (focus simp); simp only [List.set, Nat.zero_add, Nat.reduceAdd])))
    rename_i b3
    (dsimp only [check_Whole, Zft0, Zft1, Zft2, Zft3, Zft4, Zft5, Zft6, Zft7, Zft8, Zft9, Zft10, Zft11, Zft12, Zft13, Zft14, Zft15, Zft16, Zft17, Zft18, Zft19, Zft20, Zft21, Zft22, Zft23, Zft24, Zft25, Zft26, Zft27, Zft28, Zft29, Zft30, Zft31, Zft32, Zft33, Zft34, Zft35, Zft36, Zft37, Zft38, Zft39, Zft40, Zft41, Zft42, Zft43, Zft44, Zft45])
    rw [wi_l]
    refine T_lpX (fun _ _ => R * vec 143 3 sl (hds s.hs) * Rpt b1 r * Rpt b2 rp0 * vec 152 2 x77 (prs l) * Al a d g s * pt b3 (.cells [.int .i64 p, .int .i64 q].toArray 152)) (fun m (z : Int × Unit) => ∃ i : Nat, z.1 = i ∧ i ≤ q ∧ m = q - i) q rfl ⟨0, rfl, by omega, rfl⟩ ?_
    rintro m ⟨z, uu⟩ c2 ⟨i, f1, f2, f3⟩ hc2
    simp only at f1
    subst f1 f3
    (repeat' (first | ((with_reducible apply T_ldI); (focus rfl); (focus exact hasA); (focus rfl)) | with_reducible refine T_brD (fun _ => ?_) (fun _ => ?_)))
    · have hi : i < q := by omega
      have hlt2 : p + i < s.hs.length := by omega
      have ew : IntKind.wrap .i64 ((p : Int) + i) = ((p + i : Nat) : Int) := by rw [w64 (by omega) (by omega)]; omega
      rw [ew]
      have hhd : hd s.hs (p + i) = s.hs[p + i] := getD_eq hlt2 _
      refine T_ixH (l := s.hs) (Rd.vec (E := 143) (s := sl) (by exact frmA)) (by omega) (by rw [Int.toNat_natCast]; exact hlt2) fun y2 hy2 => ?_
      simp only [Int.toNat_natCast] at hy2
      refine T_ldAt hy2 rfl ?_
      rw [← hhd, hfr i hi]
      refine T_brNE (fun h => absurd rfl h) (fun _ => ?_)
      exact hc2 (q - (i + 1)) _ (by omega) ⟨i + 1, w64 (by omega) (by omega), by omega, rfl⟩
    · refine T_drop1 .last ?_
      exact hnx
  · have : j = l.length := by omega
    subst this
    clear hc
    rw [List.take_length, hsum]
    unfold Rpt rpL rp0
    (repeat (((with_reducible apply T_ldI); (focus rfl); (focus exact hasA); (focus rfl))))
    (dsimp only [check_Whole, Zft0, Zft1, Zft2, Zft3, Zft4, Zft5, Zft6, Zft7, Zft8, Zft9, Zft10, Zft11, Zft12, Zft13, Zft14, Zft15, Zft16, Zft17, Zft18, Zft19, Zft20, Zft21, Zft22, Zft23, Zft24, Zft25, Zft26, Zft27, Zft28, Zft29, Zft30, Zft31, Zft32, Zft33, Zft34, Zft35, Zft36, Zft37, Zft38, Zft39, Zft40, Zft41, Zft42, Zft43, Zft44, Zft45])
    rw [hF]
    refine T_brNE (fun h => absurd rfl h) (fun _ => ?_)
    (repeat (first | ((with_reducible apply T_ldI); (focus rfl); (focus exact hasA); (focus rfl)) | ((with_reducible apply T_st); (focus rfl); (focus exact updA); (focus simp); simp only [List.set, Nat.zero_add, Nat.reduceAdd])))
    unfold rpT at hk
    rw [hF] at hk
    refine T_drop1 (by exact frmA : Frm _ (vec 143 3 sl (hds s.hs)) _) ?_
    refine T_drop1 (by exact frmA : Frm _ (vec 152 2 x77 (prs l)) _) ?_
    refine T_bring (X := Al a d g s) (by exact frmA) ?_
    refine T_drop1 (.init .last) ?_
    refine T_drop1 (.init .last) ?_
    exact hk
end
end
section
set_option maxHeartbeats 2000000
def z7 : Q7 := (0, (0, (0, (0, (0, (0, 0))))))
def openAl (a d g : Nat) (s : St) (la : List Int) (mm u f : Nat) : SL := LDev d (64 * g) s.c la * Mg mm d g s.hs s.F * Bm u (512 * g) s.U * Fl f s.L * pt a (.cells [.pointer (da mm), .pointer (da d), .int .i64 g, .pointer (da u), .pointer (da f)].toArray 47)
section
variable {B : World} {P R : SL} {t : K}
theorem check_Whole_c {a d g mm u f : Nat} {s : St} {la : List Int} (inv : Inv g s.hs s.U s.L) (tie : Tie g s.hs s.F) (hlg : ∀ b n, 1 ≤ b → WholeP s.hs b n → s.U (b * 512) = true)
    (hh : ∀ b : Nat, 1 ≤ b → b < g → FineH s.c la b → (bdec b (getI s.c (256 + b))).1 = hd s.hs b) (hF : (wholeR g s g).f = nFree s.hs g) (hO : (wholeR g s g).o = (uBel s.U (512 * g)).length) {kk : Q7 × (Int × Int) → K}
    (h0 : (∀ b : Nat, 1 ≤ b → b < g → FineH s.c la b) → (∀ b, 1 ≤ b → b < g → GoodB g s b) → T B (R * Al a d g s) (kk (rpT (wholeR g s g), (0, 0))))
    (h1 : ∀ (x e : Int), e ≠ 0 → ((∃ b : Nat, 1 ≤ b ∧ b < g ∧ ¬ FineH s.c la b) ∨ BadX g s) → T B R (kk (z7, (x, e)))) :
    T B (R * openAl a d g s la mm u f) (c_check_Whole (da a) kk) := by
  refine T_of (check_Whole_ok _ kk) ?_
  have hg := inv.big
  have hg2 := inv.two
  have hl := inv.len
  have hfit := inv.fit
  have hd1 : (hd s.hs 1).1 ≠ 3 := by
    intro e
    obtain ⟨b0, n, hw, p1, p2⟩ := inv.cont 1 e
    have : b0 = 0 := by omega
    subst this
    have := hw.2.2.1
    have h0 := inv.zero
    unfold hd at h0
    rw [h0] at this; simp at this
  unfold openAl
  simp only [← sep_assoc]
  refine T_al fun b2 => ?_
  refine T.perm (Q := R * LDev d (64 * g) s.c la * Bm u (512 * g) s.U * Fl f s.L * pt a (.cells [.pointer (da mm), .pointer (da d), .int .i64 g, .pointer (da u), .pointer (da f)].toArray 47) * Rpt b2 rp0 * Mg mm d g s.hs s.F) (by unfold Rpt rpL rp0; ac_rfl) ?_
  unfold da
  (repeat (first | with_reducible refine T_nn ?_ | ((with_reducible apply T_ldP); (focus rfl); (focus exact hasA); (focus rfl))))
  refine bman_Geometry_c ?_
  (repeat (first | with_reducible refine T_tick ?_ | ((with_reducible apply T_ldI); (focus rfl); (focus exact hasA); (focus rfl)) | (with_reducible refine T_al ?_; intro _) | ((with_reducible apply T_st); (focus rfl); (focus exact updA); (focus simp); simp only [List.set, Nat.zero_add, Nat.reduceAdd])))
  rename_i b3
  refine T_of (alloc_Allocator_Device_ok _ _) ?_
  (repeat (first | with_reducible refine T_nn ?_ | with_reducible refine T_chk0 ?_ | ((with_reducible apply T_ldP); (focus rfl); (focus exact hasA); (focus rfl)) | ((with_reducible apply T_chk); (focus rfl); (focus exact hasA); (focus rfl))))
  refine T_bring (X := LDev d (64 * g) s.c la) (by exact frmA) ?_
  refine LDev_len fun hc hla => ?_
  -- failing at once
  have fail : ∀ (P0 : SL) (x e : Int), (∀ t, T B (R * Rpt b2 rp0) t → T B P0 t) → e ≠ 0 → ((∃ b : Nat, 1 ≤ b ∧ b < g ∧ ¬ FineH s.c la b) ∨ BadX g s) → T B P0 (Zft41 kk ⟨b2, 0, none⟩ x e) := by
    intro P0 x e hP he hbad
    refine hP _ ?_
    have := h1 x e he hbad
    unfold Rpt rpL
    (repeat (first | ((with_reducible apply T_ldI); (focus rfl); (focus exact hasA); (focus rfl)) | ((with_reducible apply T_st); (focus rfl); (focus exact updA); (focus simp); simp only [List.set, Nat.zero_add, Nat.reduceAdd])))
    exact this.weak
  refine check_Headers_c rfl hg2 hg hl inv.zero hfit hd1 hh (fun hfine sl => ?_) (fun b p1 p2 hbad => ?_)
  · refine T_brNE (fun h => absurd rfl h) (fun _ => ?_)
    refine T_bring (X := LDev d (64 * g) s.c la) (by exact frmA) ?_
    refine LDx_close (HLs_of hc hla (by omega) fun b p1 p2 => (hfine b p1 p2).2) ?_
    refine T.perm (Q := R * Rpt b2 rp0 * pt b3 (.cells [.int .i64 g].toArray 43) * vec 143 3 sl (hds s.hs) * LDx d (64 * g) s.c * Mg mm d g s.hs s.F * Bm u (512 * g) s.U * Fl f s.L * pt a (.cells [.pointer (da mm), .pointer (da d), .int .i64 g, .pointer (da u), .pointer (da f)].toArray 47)) (by unfold da; ac_rfl) ?_
    refine Al_close (t := Zft39 (da a) kk ⟨b2, 0, none⟩ sl) ?_
    clear fail
    refine T_drop1 (by exact frmA : Frm _ (pt b3 (.cells [.int .i64 g].toArray 43)) _) ?_
    refine check_free_c inv fun m fm hfm => ?_
    refine T_brNE (fun h => absurd rfl h) (fun _ => ?_)
    refine T_al fun b1 => ?_
    refine T.perm (Q := R * Rpt b2 rp0 * Al a d g s * MpF ei eb m fm * Rpt b1 (wholeR g s 1) * vec 143 3 sl (hds s.hs)) (by unfold Rpt; show _ = R * _ * _ * _ * pt b1 (.cells (rpL rp0).toArray _) * _; unfold rpL rp0; ac_rfl) ?_
    refine T_vlen (E := 143) (sz := 3) (s := sl) (vs := hds s.hs) .last fun hsn => ?_
    rw [hds_len] at hsn
    refine T_lpX (fun _ z => R * Rpt b2 rp0 * Al a d g s * MpF ei eb m fm * Rpt b1 (wholeR g s z.1.toNat) * vec 143 3 sl (hds s.hs)) (fun n (z : Int × Unit) => ∃ i : Nat, z.1 = i ∧ 1 ≤ i ∧ i ≤ g ∧ n = g - i ∧ ∀ b, 1 ≤ b → b < i → GoodB g s b) (g - 1) rfl ⟨1, rfl, by omega, by omega, rfl, fun b _ _ => by omega⟩ ?_
    rintro n ⟨z, uu⟩ c ⟨i, e1, e2, e3, e4, e5⟩ hcn
    simp only at e1
    subst e1 e4
    simp only [Int.toNat_natCast]
    (repeat' (first | with_reducible refine T_tick ?_ | with_reducible refine T_brD (fun _ => ?_) (fun _ => ?_)))
    · rename_i hlt
      have hi : i < g := by omega
      have hnx := hcn (g - (i + 1)) (IntKind.wrap .i64 ((i : Int) + 1), ()) (by omega)
      have e : (IntKind.wrap .i64 ((i : Int) + 1)).toNat = i + 1 := by rw [w64 (by omega) (by omega)]; omega
      simp only [e] at hnx
      rw [wholeR_succ g s e2] at hnx
      clear hcn
      refine check_one_c inv hlg e2 hi hfm (fun hgood => ?_) (fun x r' hbad => ?_)
      · refine T_brNE (fun h => absurd rfl h) (fun _ => ?_)
        exact hnx ⟨i + 1, w64 (by omega) (by omega), by omega, by omega, rfl, fun b p1 p2 => by
          by_cases e : b = i
          · subst e; exact hgood
          · exact e5 b p1 (by omega)⟩
      · refine T_brNE (fun _ => ?_) (fun h => absurd h (by simp))
        have := h1 x 22 (by decide) (.inr hbad)
        refine T_drop1 .last ?_
        refine T_drop1 .last ?_
        refine T_drop1 .last ?_
        refine T_drop1 .last ?_
        unfold Rpt rpL
        (repeat (first | ((with_reducible apply T_ldI); (focus rfl); (focus exact hasA); (focus rfl)) | ((with_reducible apply T_st); (focus rfl); (focus exact updA); (focus simp); simp only [List.set, Nat.zero_add, Nat.reduceAdd])))
        exact this.weak
    · have : i = g := by omega
      subst this
      unfold Rpt rpL
      (repeat (((with_reducible apply T_ldI); (focus rfl); (focus exact hasA); (focus rfl))))
      refine T_bring (X := Al a d i s) (by exact frmA) ?_
      refine Objects_c fun sl2 => ?_
      refine T_vlen (E := 3) (sz := 1) (s := sl2) (vs := ints (uBel s.U (512 * i))) .last fun hn2 => ?_
      rw [ints_len, Nat.mul_one] at hn2
      (repeat (first | with_reducible refine T_chk0 ?_ | ((with_reducible apply T_chk); (focus rfl); (focus exact hasA); (focus rfl))))
      (dsimp only [check_Whole, Zft0, Zft1, Zft2, Zft3, Zft4, Zft5, Zft6, Zft7, Zft8, Zft9, Zft10, Zft11, Zft12, Zft13, Zft14, Zft15, Zft16, Zft17, Zft18, Zft19, Zft20, Zft21, Zft22, Zft23, Zft24, Zft25, Zft26, Zft27, Zft28, Zft29, Zft30, Zft31, Zft32, Zft33, Zft34, Zft35, Zft36, Zft37, Zft38, Zft39, Zft40, Zft41, Zft42, Zft43, Zft44, Zft45])
      have hub := @uBel_len s.U (512 * i)
      rw [hO, hn2, w64 (n := (((uBel s.U (512 * i)).length : Nat) : Int)) (by omega) (by omega)]
      refine T_brNE (fun h => absurd rfl h) (fun _ => ?_)
      refine T.perm (Q := R * vec 143 3 sl (hds s.hs) * Rpt b1 (wholeR i s i) * Rpt b2 rp0 * Al a d i s * (MpF ei eb m fm * vec 3 1 sl2 (ints (uBel s.U (512 * i))))) (by unfold Rpt rpL; rw [hO, w64 (n := (((uBel s.U (512 * i)).length : Nat) : Int)) (by omega) (by omega)]; ac_rfl) ?_
      refine T.weak ?_
      exact check_runs_c inv tie hF (h0 hfine e5)
  · refine T_brNE (fun _ => ?_) (fun h => absurd h (by simp))
    refine fail _ _ _ (fun t h => ?_) (by simp) (.inl ⟨b, p1, p2, hbad⟩)
    refine T.perm (Q := R * Rpt b2 rp0 * (Bm u (512 * g) s.U * Fl f s.L * pt a (.cells [.pointer (da mm), .pointer (da d), .int .i64 g, .pointer (da u), .pointer (da f)].toArray 47) * Mg mm d g s.hs s.F * pt b3 (.cells [.int .i64 g].toArray 43) * LDev d (64 * g) s.c la)) (by unfold da; ac_rfl) h.weak
end
end
section
variable {B : World} {P R : SL} {t : K}
end
/-- the cells of a block that are not in use, up to one -/
def frC (u : List Int) (b k : Int) : Nat → List Int
  | 0 => []
  | i + 1 => frC u b k i ++ (if 512 * b + i * clsW k ∈ u then [] else [512 * b + i * clsW k])
/-- the cells of a class that are not in use, of the blocks up to one -/
def frS (hs : List Hd) (u : List Int) (k : Int) : Nat → List Int
  | 0 => []
  | 1 => []
  | b + 2 => frS hs u k (b + 1) ++ (if (hd hs (b + 1)).1 = 1 ∧ (hd hs (b + 1)).2.1 = k then frC u ((b + 1 : Nat) : Int) k (cls k).toNat else [])
theorem frS_succ (hs : List Hd) (u : List Int) (k : Int) {b : Nat} (h : 1 ≤ b) : frS hs u k (b + 1) = frS hs u k b ++ (if (hd hs b).1 = 1 ∧ (hd hs b).2.1 = k then frC u (b : Int) k (cls k).toNat else []) := by
  obtain ⟨c, rfl⟩ : ∃ c, b = c + 1 := ⟨b - 1, by omega⟩
  rfl
theorem frC_len (u : List Int) (b k : Int) : ∀ n, (frC u b k n).length ≤ n
  | 0 => Nat.le_refl _
  | i + 1 => by
    have := frC_len u b k i
    unfold frC
    rw [List.length_append]
    split
    · simp; omega
    · simp; omega
theorem cls_le (k : Int) : 0 ≤ cls k ∧ cls k ≤ 512 := by
  unfold cls
  split
  · rename_i h
    have hp := clsW_pos h
    exact ⟨Int.ediv_nonneg (by omega) (by omega), Int.ediv_le_self _ (by omega)⟩
  · omega
theorem frS_len (hs : List Hd) (u : List Int) (k : Int) : ∀ n, 1 ≤ n → (frS hs u k n).length ≤ 512 * n := by
  intro n hn
  induction n with
  | zero => omega
  | succ n ih =>
    by_cases h : n = 0
    · subst h; simp [frS]
    · rw [frS_succ _ _ _ (by omega), List.length_append]
      have := ih (by omega)
      have hc := cls_le k
      split
      · have := frC_len u n k (cls k).toNat
        omega
      · simp; omega
section
variable {B : World} {P R : SL} {t : K}
theorem ref16_Free_c {hs : List Hd} {x u : Sl} {us : List Int} {k : Int} (hk0 : 0 ≤ k ∧ k < 32) (hl : 1 ≤ hs.length) (hl2 : hs.length ≤ 2 ^ 20) (hul : us.length ≤ 2 ^ 40) (hx : Rd R x 3 (hds hs)) (hu : Rd R u 1 (ints us)) {kk : Sl → K}
    (hk : ∀ s, T B (R * vec 3 1 s (ints (frS hs us k hs.length))) (kk s)) : T B R (c_ref16_Free x k u kk) := by
  refine T_of (ref16_Free_ok x k u kk) ?_
  refine T_rdlen hx fun hxn => ?_
  rw [hds_len] at hxn
  refine T_rdlen hu fun hun => ?_
  rw [ints_len, Nat.mul_one] at hun
  have hp := clsW_pos hk0
  have hc := cls_le k
  refine T_vecN (E := 3) (sz := 1) (s := ⟨none, 0, 0⟩) rfl rfl ?_
  refine T_lpX (fun _ s => R * vec 3 1 s.1 (ints (frS hs us k s.2.1.toNat))) (fun m (s : Sl × Int × Unit) => ∃ i : Nat, 1 ≤ i ∧ i ≤ hs.length ∧ s.2.1 = i ∧ m = hs.length - i) (hs.length - 1) rfl ⟨1, by omega, by omega, rfl, rfl⟩ ?_
  rintro m ⟨out, s1, uu⟩ cc ⟨i, h0, h1, h2, h3⟩ hcc
  simp only at h2
  subst h2 h3
  simp only [Int.toNat_natCast]
  skip
  refine T_brD (fun hlt => ?_) (fun hge => ?_)
  · have hlt' : i < hs.length := by omega
    have hd_i : hd hs i = hs[i] := by unfold hd; rw [List.getD_eq_getElem?_getD, List.getElem?_eq_getElem hlt']; rfl
    have hlen := frS_len hs us k i h0
    have hnext : ∀ s', T B (R * vec 3 1 s' (ints (frS hs us k (i + 1)))) (cc (s', IntKind.wrap .i64 ((i : Int) + 1), ())) := by
      intro s'
      have := hcc (hs.length - (i + 1)) (s', IntKind.wrap .i64 ((i : Int) + 1), ()) (by omega) ⟨i + 1, by omega, by omega, w64 (by omega) (by omega), rfl⟩
      have e : (IntKind.wrap .i64 ((i : Int) + 1)).toNat = i + 1 := by rw [w64 (by omega) (by omega)]; omega
      simp only [e] at this
      exact this
    clear hcc
    rw [frS_succ _ _ _ h0, hd_i] at hnext
    by_cases hof : hs[i].1 = 1 ∧ hs[i].2.1 = k
    · rw [if_pos hof] at hnext
      refine T_lpX (fun _ s => R * vec 3 1 s.1 (ints (frS hs us k i ++ frC us i k s.2.1.toNat))) (fun m (s : Sl × Int × Unit) => ∃ j : Nat, (j : Int) ≤ cls k ∧ s.2.1 = j ∧ m = (cls k).toNat - j) (cls k).toNat (by simp [frC]) ⟨0, by omega, rfl, rfl⟩ ?_
      rintro m ⟨o2, s2, u2⟩ c2 ⟨j, g1, g2, g3⟩ hc2
      simp only at g2
      subst g2 g3
      simp only [Int.toNat_natCast]
      refine T_ixH (l := hs) hx.init (by omega) (by rw [Int.toNat_natCast]; exact hlt') fun y hy => ?_
      simp only [Int.toNat_natCast] at hy
      refine T_ldAt hy rfl ?_
      refine T_brE (fun _ => ?_) (fun h => absurd hof.1 h)
      refine T_ixH (l := hs) hx.init (by omega) (by rw [Int.toNat_natCast]; exact hlt') fun y2 hy2 => ?_
      simp only [Int.toNat_natCast] at hy2
      refine T_ldAt hy2 rfl ?_
      refine T_brE (fun _ => ?_) (fun h => absurd hof.2 h)
      refine ref06_Cells_c ?_
      (dsimp only [ref16_Free, Zbq0, Zbq1, Zbq2, Zbq3, Zbq4, Zbq5, Zbq6, Zbq7, Zbq8, Zbq9, Zbq10, Zbq11, Zbq12, Zbq13, Zbq14, Zbq15, Zbq16, Zbq17, Zbq18, Zbq19, Zbq20, Zbq21])
      refine T_brD (fun hj => ?_) (fun hj => ?_)
      · refine ref06_Words_c ?_
        have hm0 : 0 ≤ (j : Int) * clsW k := Int.mul_nonneg (by omega) (by omega)
        have hm1 : (j : Int) * clsW k ≤ 512 * 256 := Int.mul_le_mul (by omega) (by omega) (by omega) (by omega)
        rw [w64 (n := (j : Int) * clsW k) (by omega) (by omega), w64 (n := 512 * (i : Int)) (by omega) (by omega), w64 (n := 512 * (i : Int) + j * clsW k) (by omega) (by omega)]
        have hcl := frC_len us i k j
        have hnx2 : ∀ s', T B (R * vec 3 1 s' (ints (frS hs us k i ++ frC us i k (j + 1)))) (c2 (s', IntKind.wrap .i64 ((j : Int) + 1), ())) := by
          intro s'
          have := hc2 ((cls k).toNat - (j + 1)) (s', IntKind.wrap .i64 ((j : Int) + 1), ()) (by omega) ⟨j + 1, by omega, w64 (by omega) (by omega), rfl⟩
          have e : (IntKind.wrap .i64 ((j : Int) + 1)).toNat = j + 1 := by rw [w64 (by omega) (by omega)]; omega
          simp only [e] at this
          exact this
        clear hc2
        generalize hat : 512 * (i : Int) + j * clsW k = at_ at *
        have hfr : frC us i k (j + 1) = frC us i k j ++ (if at_ ∈ us then [] else [at_]) := by rw [← hat]; rfl
        rw [hfr] at hnx2
        refine T_lpX (fun _ _ => R * vec 3 1 o2 (ints (frS hs us k i ++ frC us i k j))) (fun m (s : Bool × Int × Unit) => ∃ q : Nat, q ≤ us.length ∧ s.2.1 = q ∧ m = us.length - q ∧ s.1 = decide (at_ ∈ us.take q)) us.length rfl ⟨0, by omega, rfl, rfl, by simp⟩ ?_
        rintro m ⟨is, s3, u3⟩ c3 ⟨q, f1, f2, f3, f4⟩ hc3
        simp only at f2 f4
        subst f2 f3
        dsimp only
        refine T_brD (fun hq => ?_) (fun hq => ?_)
        · have hq' : q < us.length := by omega
          have htk := List.take_succ_eq_append_getElem hq'
          have hnx3 : ∀ b, b = decide (at_ ∈ us.take (q + 1)) → T B (R * vec 3 1 o2 (ints (frS hs us k i ++ frC us i k j))) (c3 (b, IntKind.wrap .i64 ((q : Int) + 1), ())) := fun b hb =>
            hc3 (us.length - (q + 1)) (b, IntKind.wrap .i64 ((q : Int) + 1), ()) (by omega) ⟨q + 1, by omega, w64 (by omega) (by omega), rfl, hb⟩
          refine T_br (fun hb => ?_) (fun hb => ?_)
          · refine hnx3 true ?_
            rw [hb] at f4
            have := of_decide_eq_true f4.symm
            refine (decide_eq_true ?_).symm
            rw [htk]
            exact List.mem_append_left _ this
          · refine T_ixV hu.init (by omega) (n := us[q]) (by rw [Int.toNat_natCast]; exact ints_at hq') ?_
            refine hnx3 _ ?_
            rw [hb] at f4
            have := of_decide_eq_false f4.symm
            have ht : at_ ∈ us.take (q + 1) ↔ us[q] = at_ := by
              rw [htk, List.mem_append, List.mem_singleton]
              exact ⟨fun h => h.elim (fun h => absurd h this) Eq.symm, fun h => Or.inr h.symm⟩
            by_cases he : us[q] = at_
            · rw [decide_eq_true (ht.2 he)]; simpa using he
            · rw [decide_eq_false (fun h => he (ht.1 h))]; simpa using he
        · have hqe : q = us.length := by omega
          subst hqe
          rw [List.take_length] at f4
          subst f4
          by_cases hin : at_ ∈ us
          · rw [if_pos hin, List.append_nil] at hnx2
            rw [decide_eq_true hin]
            exact hnx2 o2
          · rw [if_neg hin] at hnx2
            rw [decide_eq_false hin]
            refine T_app1 (vs := ints (frS hs us k i ++ frC us i k j)) (new := [.int .i64 at_]) kd_int rfl rfl (by rw [ints_len, List.length_append]; omega) fun s' => ?_
            have := hnx2 s'
            rw [← List.append_assoc] at this
            have e : ints ((frS hs us k i ++ frC us i k j) ++ [at_]) = ints (frS hs us k i ++ frC us i k j) ++ [.int .i64 at_] := by simp [ints]
            rw [e] at this
            exact this
      · have : j = (cls k).toNat := by omega
        subst this
        exact hnext o2
    · rw [if_neg hof, List.append_nil] at hnext
      refine T_lpX (fun _ s => R * vec 3 1 s.1 (ints (frS hs us k i))) (fun m (s : Sl × Int × Unit) => s.2.1 = 0) 0 rfl rfl ?_
      rintro m ⟨o2, s2, u2⟩ c2 g2 hc2
      simp only at g2
      subst g2
      refine T_ixH (l := hs) hx.init (by omega) (by rw [Int.toNat_natCast]; exact hlt') fun y hy => ?_
      simp only [Int.toNat_natCast] at hy
      refine T_ldAt hy rfl ?_
      refine T_brE (fun e1 => ?_) (fun e1 => ?_)
      · refine T_ixH (l := hs) hx.init (by omega) (by rw [Int.toNat_natCast]; exact hlt') fun y2 hy2 => ?_
        simp only [Int.toNat_natCast] at hy2
        refine T_ldAt hy2 rfl ?_
        refine T_brE (fun e2 => absurd ⟨e1, e2⟩ hof) (fun e2 => ?_)
        exact hnext o2
      · exact hnext o2
  · have hi : i = hs.length := by omega
    subst hi
    exact hk out
end
section
set_option maxHeartbeats 1000000
section
variable {B : World} {P R : SL} {t : K}
end
end
section
set_option maxHeartbeats 1000000
/-- the most, and the least that has it, among some -/
def Bst (w : Nat → Int) (lo hi : Nat) (n r : Int) : Prop := (∀ j, lo ≤ j → j < hi → w j ≤ n) ∧ ((n = 0 ∧ r = 0) ∨ ∃ x : Nat, r = x ∧ lo ≤ x ∧ x < hi ∧ w x = n ∧ 0 < n ∧ ∀ j, lo ≤ j → j < x → w j < n)
theorem Bst.nn {w : Nat → Int} {lo hi : Nat} {n r : Int} (h : Bst w lo hi n r) : 0 ≤ n := by
  rcases h.2 with h | ⟨x, _, _, _, _, h, _⟩ <;> omega
theorem Bst.uniq {w : Nat → Int} {lo hi : Nat} {n r n' r' : Int} (h : Bst w lo hi n r) (h' : Bst w lo hi n' r') : n = n' ∧ r = r' := by
  obtain ⟨a, b⟩ := h
  obtain ⟨a', b'⟩ := h'
  rcases b with ⟨b1, b2⟩ | ⟨x, b1, b2, b3, b4, b5, b6⟩ <;> rcases b' with ⟨c1, c2⟩ | ⟨y, c1, c2, c3, c4, c5, c6⟩
  · omega
  · have := a y c2 c3; omega
  · have := a' x b2 b3; omega
  · have h1 := a y c2 c3
    have h2 := a' x b2 b3
    have hn : n = n' := by omega
    refine ⟨hn, ?_⟩
    have h3 : ¬ x < y := fun h => by have := c6 x b2 h; omega
    have h4 : ¬ y < x := fun h => by have := b6 y c2 h; omega
    omega
theorem Bst.nil {w : Nat → Int} {lo : Nat} : Bst w lo lo 0 0 := ⟨fun j h1 h2 => by omega, Or.inl ⟨rfl, rfl⟩⟩
theorem Bst.up {w : Nat → Int} {k : Nat} {n r : Int} (h : Bst w 0 k n r) : (w k > n → Bst w 0 (k + 1) (w k) k) ∧ (¬ w k > n → Bst w 0 (k + 1) n r) := by
  have hn := h.nn
  obtain ⟨a, b⟩ := h
  refine ⟨fun hg => ⟨fun j h1 h2 => ?_, Or.inr ⟨k, rfl, by omega, by omega, rfl, by omega, fun j h1 h2 => ?_⟩⟩, fun hg => ⟨fun j h1 h2 => ?_, ?_⟩⟩
  · by_cases hj : j < k
    · have := a j h1 hj; omega
    · have : j = k := by omega
      subst this; omega
  · have := a j h1 h2; omega
  · by_cases hj : j < k
    · exact a j h1 hj
    · have : j = k := by omega
      subst this; omega
  · rcases b with b | ⟨x, b1, b2, b3, b4⟩
    · exact Or.inl b
    · exact Or.inr ⟨x, b1, b2, by omega, b4⟩
/-- the greatest class that has a cell -/
def GW (e : Nat → Bool) (r : Int) : Prop := ((∀ j, j < 32 → e j = false) ∧ r = 0) ∨ ∃ x : Nat, x < 32 ∧ e x = true ∧ (∀ j, x < j → j < 32 → e j = false) ∧ r = clsW x
theorem GW.uniq {e : Nat → Bool} {r r' : Int} (h : GW e r) (h' : GW e r') : r = r' := by
  rcases h with ⟨a, b⟩ | ⟨x, a, b, c, d⟩ <;> rcases h' with ⟨a', b'⟩ | ⟨y, a', b', c', d'⟩
  · omega
  · have := a y a'; rw [this] at b'; cases b'
  · have := a' x a; rw [this] at b; cases b
  · have h1 : ¬ x < y := fun h => by rw [c y h a'] at b'; cases b'
    have h2 : ¬ y < x := fun h => by rw [c' x h a] at b; cases b
    have : x = y := by omega
    subst this; omega
section
variable {B : World} {P R : SL} {t : K}
end
end
section
set_option maxHeartbeats 1000000
section
variable {B : World} {P R : SL} {t : K}
end
end
section
set_option maxHeartbeats 1000000
structure SpI (hs : List Hd) (n : Nat) (o : List (Int × Int)) : Prop where
  pw : o.Pairwise fun p q => p.1 + p.2 < q.1
  el : ∀ p ∈ o, 1 ≤ p.1 ∧ 1 ≤ p.2 ∧ p.1 + p.2 ≤ n ∧ (∀ x : Nat, p.1 ≤ x → (x : Int) < p.1 + p.2 → (hd hs x).1 = 0) ∧ ∀ x : Nat, (x : Int) = p.1 + p.2 → x < n → (hd hs x).1 ≠ 0
  cov : ∀ x : Nat, 1 ≤ x → x < n → (hd hs x).1 = 0 → ∃ p ∈ o, p.1 ≤ x ∧ (x : Int) < p.1 + p.2
theorem SpI.step {hs : List Hd} {n : Nat} {o : List (Int × Int)} (hn : 1 ≤ n) (h : SpI hs n o) : SpI hs (n + 1) (spStep o n (hd hs n)) := by
  obtain ⟨pw, el, cov⟩ := h
  unfold spStep
  by_cases hz : (hd hs n).1 = 0
  · rw [if_neg (by omega)]
    rcases List.eq_nil_or_concat o with rfl | ⟨o0, p, rfl⟩
    · rw [if_neg (by simp)]
      refine ⟨by simp, fun q hq => ?_, fun x h1 h2 h3 => ?_⟩
      · simp only [List.nil_append, List.mem_singleton] at hq
        subst hq
        refine ⟨by simp only; omega, by simp, by simp only; omega, fun x h1 h2 => ?_, fun x h1 h2 => ?_⟩
        · simp only at h1 h2
          have : x = n := by omega
          subst this; exact hz
        · simp only at h1; omega
      · by_cases hx : x < n
        · obtain ⟨p, hp, _⟩ := cov x h1 hx h3
          cases hp
        · exact ⟨((n : Int), 1), by simp, by simp only; omega, by simp only; omega⟩
    · rw [List.concat_eq_append] at *
      have hl : (o0 ++ [p]).length - 1 = o0.length := by simp
      have hg : (o0 ++ [p]).getD o0.length (0, 0) = p := by simp
      rw [hl, hg]
      obtain ⟨pw1, _, pw2⟩ := List.pairwise_append.1 pw
      have hpw : ∀ q ∈ o0, q.1 + q.2 < p.1 := fun q hq => pw2 q hq p (by simp)
      obtain ⟨p1, p2, p3, p4, p5⟩ := el p (by simp)
      by_cases hc : 0 < (o0 ++ [p]).length ∧ p.1 + p.2 = n
      · rw [if_pos hc]
        have hs' : (o0 ++ [p]).set o0.length (p.1, p.2 + 1) = o0 ++ [(p.1, p.2 + 1)] := by
          rw [List.set_append_right _ _ (Nat.le_refl _)]; simp
        rw [hs']
        have hc2 := hc.2
        refine ⟨List.pairwise_append.2 ⟨pw1, by simp, fun q hq r hr => ?_⟩, fun q hq => ?_, fun x h1 h2 h3 => ?_⟩
        · simp only [List.mem_singleton] at hr
          subst hr
          exact hpw q hq
        · rcases List.mem_append.1 hq with hq | hq
          · obtain ⟨e1, e2, e3, e4, e5⟩ := el q (by simp [hq])
            have := hpw q hq
            exact ⟨e1, e2, by omega, e4, fun x h1 h2 => e5 x h1 (by omega)⟩
          · simp only [List.mem_singleton] at hq
            subst hq
            refine ⟨p1, by simp only; omega, by simp only; omega, fun x h1 h2 => ?_, fun x h1 h2 => ?_⟩
            · simp only at h1 h2
              by_cases hx : x = n
              · subst hx; exact hz
              · exact p4 x h1 (by omega)
            · simp only at h1; omega
        · by_cases hx : x < n
          · obtain ⟨q, hq, q1, q2⟩ := cov x h1 hx h3
            rcases List.mem_append.1 hq with hq | hq
            · exact ⟨q, by simp [hq], q1, q2⟩
            · simp only [List.mem_singleton] at hq
              subst hq
              exact ⟨(q.1, q.2 + 1), by simp, q1, by simp only; omega⟩
          · exact ⟨(p.1, p.2 + 1), by simp, by simp only; omega, by simp only; omega⟩
      · rw [if_neg hc]
        have hlt : ∀ q ∈ o0 ++ [p], q.1 + q.2 < n := by
          intro q hq
          rcases List.mem_append.1 hq with hq | hq
          · have := hpw q hq; omega
          · simp only [List.mem_singleton] at hq
            subst hq
            have : ¬ q.1 + q.2 = n := fun h => hc ⟨by simp, h⟩
            omega
        refine ⟨List.pairwise_append.2 ⟨pw, by simp, fun q hq r hr => ?_⟩, fun q hq => ?_, fun x h1 h2 h3 => ?_⟩
        · simp only [List.mem_singleton] at hr
          subst hr
          exact hlt q hq
        · rcases List.mem_append.1 hq with hq | hq
          · obtain ⟨e1, e2, e3, e4, e5⟩ := el q hq
            have := hlt q hq
            exact ⟨e1, e2, by omega, e4, fun x h1 h2 => e5 x h1 (by omega)⟩
          · simp only [List.mem_singleton] at hq
            subst hq
            refine ⟨by simp only; omega, by simp, by simp only; omega, fun x h1 h2 => ?_, fun x h1 h2 => ?_⟩
            · simp only at h1 h2
              have : x = n := by omega
              subst this; exact hz
            · simp only at h1; omega
        · by_cases hx : x < n
          · obtain ⟨q, hq, q1, q2⟩ := cov x h1 hx h3
            exact ⟨q, List.mem_append_left _ hq, q1, q2⟩
          · exact ⟨((n : Int), 1), by simp, by simp only; omega, by simp only; omega⟩
  · rw [if_pos hz]
    refine ⟨pw, fun q hq => ?_, fun x h1 h2 h3 => ?_⟩
    · obtain ⟨e1, e2, e3, e4, e5⟩ := el q hq
      refine ⟨e1, e2, by omega, e4, fun x h1 h2 => ?_⟩
      by_cases hx : x = n
      · subst hx; exact hz
      · exact e5 x h1 (by omega)
    · by_cases hx : x = n
      · subst hx; exact absurd h3 hz
      · exact cov x h1 (by omega) h3
theorem uBel_mem {U : Nat → Bool} {n : Nat} {y : Int} : y ∈ uBel U n ↔ ∃ x : Nat, x < n ∧ U x = true ∧ y = x := by
  unfold uBel
  simp only [List.mem_map, List.mem_filter, List.mem_range]
  constructor
  · rintro ⟨x, ⟨h1, h2⟩, h3⟩; exact ⟨x, h1, h2, h3.symm⟩
  · rintro ⟨x, h1, h2, h3⟩; exact ⟨x, ⟨h1, h2⟩, h3.symm⟩
end
section
set_option maxHeartbeats 1000000
def sumL (f : Int → Int) : List Int → Int
  | [] => 0
  | x :: l => f x + sumL f l
theorem sumL_append (f : Int → Int) (l m : List Int) : sumL f (l ++ m) = sumL f l + sumL f m := by
  induction l with
  | nil => simp [sumL]
  | cons x l ih => simp only [List.cons_append, sumL, ih]; omega
theorem sumL_perm (f : Int → Int) {l m : List Int} (h : l.Perm m) : sumL f l = sumL f m := by
  induction h with
  | nil => rfl
  | cons x _ ih => simp only [sumL, ih]
  | swap x y l => simp only [sumL]; omega
  | trans _ _ h1 h2 => exact h1.trans h2
theorem sumL_congr {f f' : Int → Int} {l : List Int} (h : ∀ x ∈ l, f x = f' x) : sumL f l = sumL f' l := by
  induction l with
  | nil => rfl
  | cons x l ih => simp only [sumL]; rw [h x (by simp), ih fun y hy => h y (by simp [hy])]
theorem sumL_sub (f f' : Int → Int) (l : List Int) : sumL (fun x => f x - f' x) l = sumL f l - sumL f' l := by
  induction l with
  | nil => rfl
  | cons x l ih => simp only [sumL, ih]; omega
theorem sumL_const (c : Int) (l : List Int) : sumL (fun _ => c) l = l.length * c := by
  induction l with
  | nil => simp [sumL]
  | cons x l ih => simp only [sumL, ih, List.length_cons]; rw [Int.natCast_add, Int.add_mul]; simp; omega
def sumK (f : Nat → Int) : Nat → Int
  | 0 => 0
  | k + 1 => sumK f k + f k
theorem sumK_congr {f f' : Nat → Int} : ∀ n, (∀ k, k < n → f k = f' k) → sumK f n = sumK f' n
  | 0, _ => rfl
  | n + 1, h => by simp only [sumK]; rw [sumK_congr n fun k hk => h k (by omega), h n (by omega)]
theorem sumK_add (f f' : Nat → Int) : ∀ n, sumK (fun k => f k + f' k) n = sumK f n + sumK f' n
  | 0 => rfl
  | n + 1 => by simp only [sumK, sumK_add f f' n]; omega
theorem sumK_zero : ∀ n, sumK (fun _ => 0) n = 0
  | 0 => rfl
  | n + 1 => by simp only [sumK, sumK_zero n]; rfl
theorem sumK_ind (v : Int) (c : Nat) : ∀ n, sumK (fun k => if k = c then v else 0) n = if c < n then v else 0
  | 0 => rfl
  | n + 1 => by
    simp only [sumK, sumK_ind v c n]
    by_cases h : n = c
    · subst h; rw [if_neg (by omega), if_pos rfl, if_pos (by omega)]; omega
    · rw [if_neg h]
      by_cases h2 : c < n
      · rw [if_pos h2, if_pos (by omega)]; omega
      · rw [if_neg h2, if_neg (by omega)]; rfl
/-- the addresses in use of a block -/
def ubl (U : Nat → Bool) (b : Nat) : List Int := ((List.range 512).filter fun j => U (512 * b + j)).map fun (j : Nat) => ((512 * b + j : Nat) : Int)
theorem uBel_block (U : Nat → Bool) (b : Nat) : uBel U (512 * (b + 1)) = uBel U (512 * b) ++ ubl U b := by
  unfold uBel ubl
  rw [Nat.mul_add, Nat.mul_one, List.range_add, List.filter_append, List.map_append, List.filter_map, List.map_map]
  rfl
theorem ubl_mem {U : Nat → Bool} {b : Nat} {x : Int} : x ∈ ubl U b ↔ ∃ y : Nat, x = y ∧ y / 512 = b ∧ U y = true := by
  unfold ubl
  simp only [List.mem_map, List.mem_filter, List.mem_range]
  constructor
  · rintro ⟨j, ⟨h1, h2⟩, rfl⟩
    exact ⟨512 * b + j, rfl, by omega, h2⟩
  · rintro ⟨y, rfl, h1, h2⟩
    exact ⟨y % 512, ⟨by omega, by rw [show 512 * b + y % 512 = y by omega]; exact h2⟩, by omega⟩
theorem map_nodup {f : Nat → Int} (hf : ∀ a b, f a = f b → a = b) {l : List Nat} (h : l.Nodup) : (l.map f).Nodup := by
  refine List.Pairwise.map _ (fun a b hab e => hab (hf a b e)) h
theorem ubl_nodup (U : Nat → Bool) (b : Nat) : (ubl U b).Nodup := map_nodup (fun a b h => by omega) (List.nodup_range.filter _)
def usedC (s : St) (b k i : Nat) : List Int := ((List.range i).filter fun j => s.U (cellN b k j)).map fun (j : Nat) => ((cellN b k j : Nat) : Int)
theorem usedC_succ (s : St) (b k i : Nat) : usedC s b k (i + 1) = usedC s b k i ++ (if s.U (cellN b k i) then [((cellN b k i : Nat) : Int)] else []) := by
  unfold usedC
  rw [List.range_succ, List.filter_append, List.map_append]
  congr 1
  cases hu : s.U (cellN b k i) <;> simp [List.filter, hu]
theorem ubl_small {g : Nat} {s : St} (inv : Inv g s.hs s.U s.L) {b k : Nat} (hk : k < 32) (hb : 1 ≤ b) (hh : hd s.hs b = (1, (k : Int), 0)) : (ubl s.U b).Perm (usedC s b k (cn k)) := by
  refine (List.perm_ext_iff_of_nodup (ubl_nodup _ _) ?_).2 fun x => ?_
  · unfold usedC
    refine List.Pairwise.map _ (fun a c hac e => hac.2.2 (cellN_inj (b := b) (b' := b) hk hac.1 hac.2.1 (by omega)).2) (R := fun a c => a < cn k ∧ c < cn k ∧ a ≠ c) ?_
    refine (List.Pairwise.and_mem.1 (List.nodup_range.filter _)).imp fun {a c} ⟨h1, h2, h3⟩ => ?_
    simp only [List.mem_filter, List.mem_range] at h1 h2
    exact ⟨h1.1, h2.1, h3⟩
  · rw [ubl_mem]
    unfold usedC
    simp only [List.mem_map, List.mem_filter, List.mem_range]
    constructor
    · rintro ⟨y, rfl, h1, h2⟩
      rcases inv.used y h2 with ⟨j, hj, b', i, _, _, h3, h4, rfl⟩ | ⟨b', n, _, hw, rfl⟩
      · rw [cellN_blk hj h4] at h1
        subst h1
        rw [hh] at h3
        simp only [Prod.mk.injEq] at h3
        have : j = k := by omega
        subst this
        exact ⟨i, ⟨h4, h2⟩, rfl⟩
      · rw [Nat.mul_div_cancel _ (by omega)] at h1
        subst h1
        have := hw.2.2.1
        unfold hd at hh
        rw [hh] at this; simp at this
    · rintro ⟨i, ⟨h1, h2⟩, rfl⟩
      exact ⟨_, rfl, cellN_blk hk h1, h2⟩
theorem ubl_large {g : Nat} {s : St} (inv : Inv g s.hs s.U s.L) {b : Nat} (hh : (hd s.hs b).1 = 2) (hu : s.U (b * 512) = true) : (ubl s.U b).Perm [((b * 512 : Nat) : Int)] := by
  refine (List.perm_ext_iff_of_nodup (ubl_nodup _ _) (by simp)).2 fun x => ?_
  rw [ubl_mem, List.mem_singleton]
  constructor
  · rintro ⟨y, rfl, h1, h2⟩
    rcases inv.used y h2 with ⟨j, hj, b', i, _, _, h3, h4, rfl⟩ | ⟨b', n, _, hw, rfl⟩
    · rw [cellN_blk hj h4] at h1
      subst h1
      rw [h3] at hh; simp at hh
    · rw [Nat.mul_div_cancel _ (by omega)] at h1
      subst h1; rfl
  · rintro rfl
    exact ⟨_, rfl, Nat.mul_div_cancel _ (by omega), hu⟩
theorem ubl_none {g : Nat} {s : St} (inv : Inv g s.hs s.U s.L) {b : Nat} (hh : (hd s.hs b).1 = 0 ∨ (hd s.hs b).1 = 3) : ubl s.U b = [] := by
  refine List.eq_nil_iff_forall_not_mem.2 fun x hx => ?_
  obtain ⟨y, _, h1, h2⟩ := ubl_mem.1 hx
  rw [inv.free_unused hh h1] at h2; cases h2
def szX (g : Nat) (s : St) (x : Int) : Int := oSize (oHead s.c (64 * g) x).1
/-- the words that an address has for itself -/
def rmX (s : St) (x : Int) : Int := if (hd s.hs (x.toNat / 512)).1 = 1 then clsW (hd s.hs (x.toNat / 512)).2.1 else (hd s.hs (x.toNat / 512)).2.2 * 512
theorem cellsR_eq (g : Nat) (s : St) (b k : Nat) (r : Rp) : ∀ i, cellsR g s b k i r = ⟨r.f, r.s, r.l, r.o + (usedC s b k i).length, r.u + sumL (szX g s) (usedC s b k i), r.c + ((i : Int) - (usedC s b k i).length), r.w + sumL (fun x => (cw k : Int) - szX g s x) (usedC s b k i)⟩ := by
  intro i
  induction i with
  | zero => simp [cellsR, usedC, sumL]
  | succ i ih =>
    show cellR g s b k i (cellsR g s b k i r) = _
    rw [ih, usedC_succ]
    unfold cellR
    cases s.U (cellN b k i)
    · simp only [Bool.false_eq_true, if_false, List.append_nil, Rp.mk.injEq, true_and, and_true]
      omega
    · simp only [if_true, Rp.add, Rp.mk.injEq, true_and, List.length_append, List.length_singleton, sumL_append, sumL, szX]
      refine ⟨?_, ?_, ?_, ?_⟩ <;> omega
theorem Rp.eq {a b : Rp} (h1 : a.f = b.f) (h2 : a.s = b.s) (h3 : a.l = b.l) (h4 : a.o = b.o) (h5 : a.u = b.u) (h6 : a.c = b.c) (h7 : a.w = b.w) : a = b := by
  cases a; cases b; simp only at *; subst h1 h2 h3 h4 h5 h6 h7; rfl
def nK (hs : List Hd) (j : Int) : Nat → Int
  | 0 => 0
  | b + 1 => nK hs j b + (if 1 ≤ b ∧ (hd hs b).1 = j then 1 else 0)
def wst (hs : List Hd) : Nat → Int
  | 0 => 0
  | b + 1 => wst hs b + (if 1 ≤ b ∧ (hd hs b).1 = 1 then 512 - cls (hd hs b).2.1 * clsW (hd hs b).2.1 else 0)
def frN (g : Nat) (s : St) (b k : Nat) : Int := (frS s.hs (uBel s.U (512 * g)) k b).length
def totR (g : Nat) (s : St) (b : Nat) : Rp := ⟨nK s.hs 0 b, nK s.hs 1 b, nK s.hs 2 b, (uBel s.U (512 * b)).length, sumL (szX g s) (uBel s.U (512 * b)), sumK (frN g s b) 32, wst s.hs b + sumL (fun x => rmX s x - szX g s x) (uBel s.U (512 * b))⟩
theorem frC_cnt {g : Nat} {s : St} {b k : Nat} (hk : k < 32) (hb2 : b < g) : ∀ i, i ≤ cn k → ((frC (uBel s.U (512 * g)) (b : Int) (k : Int) i).length : Int) = (i : Int) - (usedC s b k i).length := by
  obtain ⟨t1, t2, t3, t4, t5, t6, t7, t8⟩ := cls_tab k hk
  intro i
  induction i with
  | zero => intro _; rfl
  | succ i ih =>
    intro hi
    have ih := ih (by omega)
    rw [usedC_succ]
    unfold frC
    have e : 512 * (b : Int) + (i : Int) * clsW (k : Int) = ((cellN b k i : Nat) : Int) := by unfold cellN; rw [t1]; simp; omega
    have hr := cellN_rng (b := b) hk (show i < cn k by omega)
    have hm : ((cellN b k i : Nat) : Int) ∈ uBel s.U (512 * g) ↔ s.U (cellN b k i) = true := by
      rw [uBel_mem]
      constructor
      · rintro ⟨y, h1, h2, h3⟩
        have : y = cellN b k i := by omega
        subst this; exact h2
      · exact fun h => ⟨_, by omega, h, rfl⟩
    rw [e, List.length_append, List.length_append]
    cases hu : s.U (cellN b k i)
    · rw [if_neg (by rw [hm, hu]; simp)]
      simp; omega
    · rw [if_pos (hm.2 hu)]
      simp; omega
theorem frN_succ {g : Nat} {s : St} (inv : Inv g s.hs s.U s.L) {b : Nat} (hb : 1 ≤ b) (k : Nat) : frN g s (b + 1) k = frN g s b k + (if (hd s.hs b).1 = 1 ∧ (hd s.hs b).2.1 = k then ((frC (uBel s.U (512 * g)) (b : Int) (k : Int) (cls (k : Int)).toNat).length : Int) else 0) := by
  unfold frN
  rw [frS_succ _ _ _ hb, List.length_append]
  split <;> simp
theorem wholeR_tot {g : Nat} {s : St} (inv : Inv g s.hs s.U s.L) (hlg : ∀ b n, 1 ≤ b → WholeP s.hs b n → s.U (b * 512) = true) : ∀ b, 1 ≤ b → b ≤ g → wholeR g s b = totR g s b := by
  intro b hb
  induction b with
  | zero => omega
  | succ b ih =>
    intro hg
    by_cases h0 : b = 0
    · subst h0
      have hu : uBel s.U (512 * (0 + 1)) = [] := by
        rw [uBel_block, ubl_none inv (.inl (by rw [inv.zero]))]; rfl
      show rp0 = totR g s 1
      unfold totR
      rw [hu]
      have e1 : sumK (frN g s 1) 32 = 0 := by rw [← sumK_zero 32]; exact sumK_congr 32 fun k _ => rfl
      rw [e1]
      rfl
    · have ih := ih (by omega) (by omega)
      rw [wholeR_succ g s (by omega), ih]
      have hb1 : 1 ≤ b := by omega
      have hrt := hRight_mem inv.right b
      have hfr : ∀ k, k < 32 → frN g s (b + 1) k = frN g s b k + _ := fun k _ => frN_succ inv hb1 k
      unfold oneR totR
      rw [uBel_block]
      obtain ⟨⟨q1, q2, q3⟩, hq⟩ : ∃ q, q = hd s.hs b := ⟨_, rfl⟩
      simp only [nK, wst]
      rw [← hq] at hrt ⊢
      unfold hRight at hrt
      simp only [Prod.mk.injEq] at hrt
      simp only [hb1, true_and]
      by_cases h00 : q1 = 0
      · subst h00
        rw [ubl_none inv (.inl (by rw [← hq]))]
        have e1 : sumK (frN g s (b + 1)) 32 = sumK (frN g s b) 32 := sumK_congr 32 fun k hk => by rw [frN_succ inv hb1 k, ← hq]; simp
        rw [e1]
        simp
      · by_cases h01 : q1 = 1
        · subst h01
          obtain ⟨k, rfl⟩ := Int.eq_ofNat_of_zero_le (show 0 ≤ q2 by omega)
          have hk : k < 32 := by omega
          have h30 : q3 = 0 := by omega
          subst h30
          obtain ⟨t1, t2, t3, t4, t5, t6, t7, t8⟩ := cls_tab k hk
          have hp := ubl_small inv hk hb1 hq.symm
          have e1 : sumK (frN g s (b + 1)) 32 = sumK (frN g s b) 32 + ((cn k : Int) - (usedC s b k (cn k)).length) := by
            have e2 : ∀ k', k' < 32 → frN g s (b + 1) k' = frN g s b k' + (if k' = k then ((cn k : Int) - (usedC s b k (cn k)).length) else 0) := by
              intro k' hk'
              rw [frN_succ inv hb1 k', ← hq]
              simp only [true_and]
              by_cases e : k' = k
              · subst e
                rw [if_pos rfl, if_pos rfl, t2, Int.toNat_natCast, frC_cnt hk (by omega) (cn k') (Nat.le_refl _)]
              · rw [if_neg (by omega), if_neg e]
            rw [sumK_congr 32 e2, sumK_add, sumK_ind, if_pos hk]
          have e3 : sumL (fun x => rmX s x - szX g s x) (ubl s.U b) = sumL (fun x => (cw k : Int) - szX g s x) (usedC s b k (cn k)) := by
            rw [← sumL_perm _ hp]
            refine sumL_congr fun x hx => ?_
            obtain ⟨y, rfl, h1, _⟩ := ubl_mem.1 hx
            unfold rmX
            rw [Int.toNat_natCast, h1, ← hq]
            simp only [if_true, t1]
          rw [e1, sumL_append, sumL_append, e3, sumL_perm _ hp, List.length_append, hp.length_eq]
          simp only [Int.toNat_natCast]
          unfold blkR
          rw [cellsR_eq, t1, t2]
          refine Rp.eq ?_ ?_ ?_ ?_ ?_ ?_ ?_ <;> first | rfl | (simp; done) | (simp; omega) | omega
        · by_cases h02 : q1 = 2
          · subst h02
            obtain ⟨n, hw⟩ := inv.whole b (by rw [← hq])
            have hp := ubl_large inv (b := b) (by rw [← hq]) (hlg b n hb1 hw)
            have e1 : sumK (frN g s (b + 1)) 32 = sumK (frN g s b) 32 := sumK_congr 32 fun k hk => by rw [frN_succ inv hb1 k, ← hq]; simp
            have e3 : rmX s ((b * 512 : Nat) : Int) = q3 * 512 := by
              unfold rmX
              rw [Int.toNat_natCast, Nat.mul_div_cancel _ (by omega), ← hq]
              simp
            rw [e1, sumL_append, sumL_append, sumL_perm _ hp, sumL_perm _ hp, List.length_append, hp.length_eq]
            simp only [sumL, e3, Rp.add, szX]
            refine Rp.eq ?_ ?_ ?_ ?_ ?_ ?_ ?_ <;> first | rfl | (simp; done) | (simp; omega) | omega
          · have h03 : q1 = 3 := by omega
            subst h03
            rw [ubl_none inv (.inr (by rw [← hq]))]
            have e1 : sumK (frN g s (b + 1)) 32 = sumK (frN g s b) 32 := sumK_congr 32 fun k hk => by rw [frN_succ inv hb1 k, ← hq]; simp
            rw [e1]
            simp
end
section
set_option maxHeartbeats 1000000
theorem nK_free (hs : List Hd) : ∀ g, nK hs 0 g = nFree hs g := by
  intro g
  induction g with
  | zero => rfl
  | succ g ih =>
    unfold nFree at ih ⊢
    rw [List.range_succ, List.countP_append]
    simp only [nK]
    rw [ih]
    by_cases h : 1 ≤ g ∧ (hd hs g).1 = 0
    · rw [if_pos h]
      simp only [List.countP_cons, List.countP_nil]
      rw [if_pos (by simpa using h)]; simp
    · rw [if_neg h]
      simp only [List.countP_cons, List.countP_nil]
      rw [if_neg (by simpa using h)]; simp
theorem whole_f {g : Nat} {s : St} (inv : Inv g s.hs s.U s.L) (hlg : ∀ b n, 1 ≤ b → WholeP s.hs b n → s.U (b * 512) = true) : (wholeR g s g).f = nFree s.hs g := by
  rw [wholeR_tot inv hlg g (by have := inv.two; omega) (Nat.le_refl _)]
  exact nK_free s.hs g
theorem whole_o {g : Nat} {s : St} (inv : Inv g s.hs s.U s.L) (hlg : ∀ b n, 1 ≤ b → WholeP s.hs b n → s.U (b * 512) = true) : (wholeR g s g).o = (uBel s.U (512 * g)).length := by
  rw [wholeR_tot inv hlg g (by have := inv.two; omega) (Nat.le_refl _)]
  rfl
def tw (g : Nat) (s : St) (b : Nat) : Int := 512 * nK s.hs 0 b + sumL (rmX s) (uBel s.U (512 * b)) + wst s.hs b + sumK (fun k => frN g s b k * clsW (k : Int)) 32
theorem tw_step {g : Nat} {s : St} (inv : Inv g s.hs s.U s.L) (hlg : ∀ b n, 1 ≤ b → WholeP s.hs b n → s.U (b * 512) = true) {b : Nat} (hb : 1 ≤ b) (hg : b < g) :
    tw g s (b + 1) = tw g s b + (if (hd s.hs b).1 = 0 ∨ (hd s.hs b).1 = 1 then 512 else if (hd s.hs b).1 = 2 then (hd s.hs b).2.2 * 512 else 0) := by
  have hrt := hRight_mem inv.right b
  unfold tw
  rw [uBel_block, sumL_append]
  obtain ⟨⟨q1, q2, q3⟩, hq⟩ : ∃ q, q = hd s.hs b := ⟨_, rfl⟩
  simp only [nK, wst]
  rw [← hq] at hrt ⊢
  unfold hRight at hrt
  simp only [Prod.mk.injEq] at hrt
  simp only [hb, true_and]
  have hno : q1 ≠ 1 → sumK (fun k => frN g s (b + 1) k * clsW (k : Int)) 32 = sumK (fun k => frN g s b k * clsW (k : Int)) 32 := fun h => sumK_congr 32 fun k hk => by rw [frN_succ inv hb k, ← hq, if_neg (fun h2 => h h2.1), Int.add_zero]
  by_cases h00 : q1 = 0
  · subst h00
    rw [ubl_none inv (.inl (by rw [← hq])), hno (by decide)]
    simp [sumL]; omega
  · by_cases h01 : q1 = 1
    · subst h01
      obtain ⟨k, rfl⟩ := Int.eq_ofNat_of_zero_le (show 0 ≤ q2 by omega)
      have hk : k < 32 := by omega
      have h30 : q3 = 0 := by omega
      subst h30
      obtain ⟨t1, t2, t3, t4, t5, t6, t7, t8⟩ := cls_tab k hk
      have hp := ubl_small inv hk hb hq.symm
      have e1 : sumK (fun k => frN g s (b + 1) k * clsW (k : Int)) 32 = sumK (fun k => frN g s b k * clsW (k : Int)) 32 + ((cn k : Int) - (usedC s b k (cn k)).length) * cw k := by
        have e2 : ∀ k', k' < 32 → frN g s (b + 1) k' * clsW (k' : Int) = frN g s b k' * clsW (k' : Int) + (if k' = k then ((cn k : Int) - (usedC s b k (cn k)).length) * cw k else 0) := by
          intro k' hk'
          rw [frN_succ inv hb k', ← hq, Int.add_mul]
          simp only [true_and]
          by_cases e : k' = k
          · subst e
            rw [if_pos rfl, if_pos rfl, t2, Int.toNat_natCast, frC_cnt hk (by omega) (cn k') (Nat.le_refl _), t1]
          · rw [if_neg (by omega), if_neg e, Int.zero_mul]
        rw [sumK_congr 32 e2, sumK_add, sumK_ind, if_pos hk]
      have e3 : sumL (rmX s) (ubl s.U b) = ((usedC s b k (cn k)).length : Int) * cw k := by
        rw [← hp.length_eq, ← sumL_const]
        refine sumL_congr fun x hx => ?_
        obtain ⟨y, rfl, h1, _⟩ := ubl_mem.1 hx
        unfold rmX
        rw [Int.toNat_natCast, h1, ← hq]
        simp only [if_true, t1]
      rw [e1, e3, Int.sub_mul, t1, t2]
      simp
      omega
    · by_cases h02 : q1 = 2
      · subst h02
        obtain ⟨n, hw⟩ := inv.whole b (by rw [← hq])
        have hp := ubl_large inv (b := b) (by rw [← hq]) (hlg b n hb hw)
        have e3 : rmX s ((b * 512 : Nat) : Int) = q3 * 512 := by
          unfold rmX
          rw [Int.toNat_natCast, Nat.mul_div_cancel _ (by omega), ← hq]
          simp
        rw [hno (by decide), sumL_perm _ hp]
        simp only [sumL, e3]
        simp
        omega
      · have h03 : q1 = 3 := by omega
        subst h03
        rw [ubl_none inv (.inr (by rw [← hq])), hno (by decide)]
        simp [sumL]
theorem tw_all {g : Nat} {s : St} (inv : Inv g s.hs s.U s.L) (hlg : ∀ b n, 1 ≤ b → WholeP s.hs b n → s.U (b * 512) = true) : tw g s g = 512 * ((g : Int) - 1) := by
  have hfit := inv.fit
  have hl := inv.len
  have key : ∀ m b, g - b ≤ m → 1 ≤ b → b ≤ g → ((hd s.hs b).1 ≠ 3 ∨ b = g) → tw g s b = 512 * ((b : Int) - 1) → tw g s g = 512 * ((g : Int) - 1) := by
    intro m
    induction m with
    | zero =>
      intro b h1 h2 h3 _ h5
      have : b = g := by omega
      subst this; exact h5
    | succ m ih =>
      intro b h1 h2 h3 h4 h5
      by_cases he : b = g
      · subst he; exact h5
      · have hlt : b < g := by omega
        have h4 : (hd s.hs b).1 ≠ 3 := by
          rcases h4 with h | h
          · exact h
          · exact absurd h he
        have hst := tw_step inv hlg h2 hlt
        by_cases h2' : (hd s.hs b).1 = 2
        · obtain ⟨n, hw⟩ := hfit.whole b h2'
          have hw1 := hw.1
          have hw2 := hw.2.1
          have hq3 : (hd s.hs b).2.2 = n := hw.2.2.2.1
          rw [if_neg (by omega), if_pos h2', hq3] at hst
          have hcont : ∀ i, 1 ≤ i → i ≤ n → tw g s (b + i) = tw g s b + n * 512 := by
            intro i
            induction i with
            | zero => intro h; omega
            | succ i ihi =>
              intro _ hi
              by_cases h0 : i = 0
              · subst h0; exact hst
              · rw [← ihi (by omega) (by omega), ← Nat.add_assoc, tw_step inv hlg (b := b + i) (by omega) (by omega)]
                have : (hd s.hs (b + i)).1 = 3 := by
                  have := hw.2.2.2.2 i (by omega) (by omega)
                  unfold hd; rw [this]
                rw [this]; simp
          refine ih (b + n) (by omega) (by omega) (by omega) (.inl (hfit.behind hw)) ?_
          rw [hcont n hw1 (Nat.le_refl _), h5]
          simp; omega
        · have hrt := hRight_mem inv.right b
          unfold hRight at hrt
          have h01 : (hd s.hs b).1 = 0 ∨ (hd s.hs b).1 = 1 := by
            rcases hrt with h | h | h
            · left; rw [h]
            · exact .inr h.1
            · omega
          rw [if_pos h01] at hst
          refine ih (b + 1) (by omega) (by omega) (by omega) (.inl (hfit.next h2' h4)) ?_
          rw [hst, h5]; simp; omega
  have h2 := inv.two
  refine key g 1 (by omega) (by omega) (by omega) (.inl ?_) ?_
  · intro e
    obtain ⟨b0, n, hw, p1, p2⟩ := inv.cont 1 e
    have : b0 = 0 := by omega
    subst this
    have := hw.2.2.1
    have h0 := inv.zero
    unfold hd at h0
    rw [h0] at this; simp at this
  · unfold tw
    have hu : uBel s.U (512 * (0 + 1)) = [] := by
      rw [uBel_block, ubl_none inv (.inl (by rw [inv.zero]))]; rfl
    rw [hu]
    have e1 : sumK (fun k => frN g s 1 k * clsW (k : Int)) 32 = 0 := by rw [← sumK_zero 32]; exact sumK_congr 32 fun k _ => by unfold frN; show (0 : Int) * _ = 0; simp
    rw [e1]
    rfl
theorem words_all {g : Nat} {s : St} (inv : Inv g s.hs s.U s.L) (hlg : ∀ b n, 1 ≤ b → WholeP s.hs b n → s.U (b * 512) = true) :
    512 * (wholeR g s g).f + (wholeR g s g).u + (wholeR g s g).w + sumK (fun k => frN g s g k * clsW (k : Int)) 32 = 512 * ((g : Int) - 1) := by
  rw [← tw_all inv hlg, wholeR_tot inv hlg g (by have := inv.two; omega) (Nat.le_refl _)]
  unfold totR tw
  simp only
  rw [sumL_sub]
  omega
end
section
set_option maxHeartbeats 1000000
def roomO (o : Ob) : Int := if (kOf (oSize o)).2 = true then clsW (kOf (oSize o)).1 else 512 * ((oSize o + 511) / 512)
section
variable {B : World} {P R : SL} {t : K}
theorem Now_c {d n : Nat} {c la : List Int} {a : Option Addr} {u : Sl} (h8 : 8 * n ≤ 8192) {k : Sl × Sl × Sl × Sl × Sl × Int × Int × Bool → K}
    (hk : ∀ s r, T B (R * LDev d n c la * vec 219 8 s (wds c)) (k (s, r))) : T B (R * LDev d n c la) (c_law20_World_Now (a, da d, u) k) := by
  refine T_of (law20_World_Now_ok _ k) ?_
  refine LDev_len fun hc hla => ?_
  rw [law20_World_Now]
  refine T_al fun b1 => ?_
  refine T_al fun b2 => ?_
  try (dsimp only [law20_World_Now, Zfa0, Zfa1, Zfa2, Zfa3, Zfa4, Zfa5, Zfa6, Zfa7, Zfa8])
  refine T_vecN (E := 109) (sz := 1) (s := ⟨none, 0, 0⟩) rfl rfl ?_
  refine T_lpW (fun _ (s : Sl × Int × Unit) => R * pt b1 (.cells [.pointer a, .pointer (da d), u.v].toArray 29) * pt b2 (.cells #[.slice none 0 0, .slice none 0 0, .slice none 0 0, .slice none 0 0, .slice none 0 0, .int .i64 0, .int .i64 0, .bool false] 103) * vec 109 1 s.1 (wds (c.take s.2.1.toNat)) * LDev d n c la)
    (fun m (s : Sl × Int × Unit) => ∃ i : Nat, i ≤ c.length ∧ s.2.1 = i ∧ m = c.length - i) c.length (fun t ht => T.perm ?_ ht) ⟨0, by omega, rfl, by omega⟩ ?_
  · show R * _ * _ * _ * vec _ _ _ [] = R * _ * _ * vec _ _ _ [] * _
    ac_rfl
  rintro m ⟨s0, s1, uu⟩ cc ⟨i, hi, h1, h2⟩ hcc
  simp only at h1
  subst h1 h2
  simp only [Int.toNat_natCast]
  unfold da at *
  refine T_ldP (n := some ⟨d, 0, none⟩) rfl (by exact hasA) rfl ?_
  refine LLen_c fun _ _ => ?_
  try (dsimp only [law20_World_Now, Zfa0, Zfa1, Zfa2, Zfa3, Zfa4, Zfa5, Zfa6, Zfa7, Zfa8])
  obtain ⟨L, hL⟩ : ∃ L : Int, L = 8192 := ⟨_, rfl⟩
  rw [← hL]
  refine T_brD (fun h1 => T_brD (fun h2 => ?_) (fun h2 => ?_)) (fun h1 => T_brF ?_)
  · have hlt : i < c.length := by omega
    refine T_ldP (n := some ⟨d, 0, none⟩) rfl (by exact hasA) rfl ?_
    refine LGet_c ?_
    have hg : getI c (i : Int) = c[i] := by rw [getI_nat, List.getD_eq_getElem?_getD, List.getElem?_eq_getElem hlt]; rfl
    rw [hg]
    refine T_al fun b3 => ?_
    refine T_bring (X := vec 109 1 s0 (wds (c.take i))) (.init (.init .last)) ?_
    refine T_append (x := ⟨some ⟨b3, 0, none⟩, 1, 1⟩) (new := wds [c[i]]) kd_u64 (Rd.one Has.last rfl (Nat.le_refl _)) (wds_scal _) (by simp [wds_len]; omega) fun s' => ?_
    refine T_drop1 (.init .last) ?_
    have e : (IntKind.wrap .i64 ((i : Int) + 1)).toNat = i + 1 := by rw [w64 (by omega) (by omega)]; omega
    refine T.perm ?_ (hcc (c.length - (i + 1)) (s', IntKind.wrap .i64 ((i : Int) + 1), ()) (by omega) ⟨i + 1, by omega, w64 (by omega) (by omega), rfl⟩)
    simp only [e]
    rw [List.take_succ_eq_append_getElem hlt]
    unfold wds
    rw [List.map_append]
    ac_rfl
  all_goals
    have : i = c.length := by omega
    subst this
    rw [List.take_length]
    try (dsimp only [law20_World_Now, Zfa0, Zfa1, Zfa2, Zfa3, Zfa4, Zfa5, Zfa6, Zfa7, Zfa8])
    refine ref03_Load_c (l := c) (by omega) (by omega) (Rd.vec (.init .last)) fun s r => ?_
    (repeat (first | ((with_reducible apply T_ldI); (focus rfl); (focus exact hasA); (focus rfl)) | ((with_reducible apply T_ldS); (focus rfl); (focus exact hasA); (focus rfl)) | ((with_reducible apply T_ldB); (focus rfl); (focus exact hasA); (focus rfl)) | ((with_reducible apply T_st); (focus rfl); (focus exact updA); (focus simp); simp only [List.set, Nat.zero_add, Nat.reduceAdd])))
    refine T_drop1 (.init (.init .last)) ?_
    refine T_drop1 (.init (.init .last)) ?_
    refine T_drop1 (.init (.init .last)) ?_
    exact hk s _
theorem ref15_Head_c {dd : Sl × Sl × Sl × Sl × Sl × Int × Int × Bool} {ws : List Int} {a : Int} {n : Nat} {o : Ob} (hx : Rd R dd.1 8 (wds ws)) (hl : ws.length = 8 * n) (hn : n ≤ 2 ^ 30) (ho : oHead ws n a = (o, 0)) {k : Ob × Bool → K} (hk : T B R (k (o, true))) : T B R (c_ref15_Head dd a k) := by
  refine T_of (ref15_Head_ok dd a k) ?_
  refine T_rdlen hx fun hxn => ?_
  rw [wds_len] at hxn
  unfold oHead at ho
  split at ho
  · simp only [Prod.mk.injEq] at ho; omega
  · rename_i hcd
    simp only [not_or, Int.not_lt, ne_eq, Classical.not_not] at hcd
    obtain ⟨c1, c2, c3, c4⟩ := hcd
    simp only [Prod.mk.injEq, and_true] at ho
    have hod : odec a (getI ws a) = (o, 0) := Prod.ext ho c3
    rw [ho] at c4
    have hw : 0 ≤ getI ws a ∧ getI ws a < 18446744073709551616 := by
      unfold odec at hod
      split at hod
      · rename_i h
        have := @sealI_rng (getI ws a % 4294967296) a (by omega) (by omega)
        rw [h] at this; omega
      · simp at hod
    have hsz := oSize_rng o
    rw [ref15_Head]
    refine T_al fun b1 => ?_
    refine T_al fun b2 => ?_
    try (dsimp only [ref15_Head, Zbv0, Zbv1, Zbv2, Zbv3, Zbv4, Zbv5, Zbv6, Zbv7, Zbv8, Zbv9, Zbv10])
    refine T_brD (fun h => by omega) (fun _ => ?_)
    (repeat (((with_reducible apply T_ldS); (focus rfl); (focus exact hasA); (focus rfl))))
    rw [w64 (n := 8 * ((dd.1.n : Nat) : Int)) (by omega) (by omega)]
    refine T_brD (fun h => by omega) (fun _ => ?_)
    (repeat (((with_reducible apply T_ldS); (focus rfl); (focus exact hasA); (focus rfl))))
    refine ref03_Get_c hx.init.init (by omega) (by omega) (by omega) (by omega) ?_
    refine ref08_Decode_c hw ?_
    rw [hod]
    (repeat (first | with_reducible refine T_tick ?_ | (with_reducible refine T_al ?_; intro _) | ((with_reducible apply T_st); (focus rfl); (focus exact updA); (focus simp); simp only [List.set, Nat.zero_add, Nat.reduceAdd])))
    refine T_brNE (fun h => absurd rfl h) (fun _ => ?_)
    (repeat (first | ((with_reducible apply T_ldI); (focus rfl); (focus exact hasA); (focus rfl)) | ((with_reducible apply T_ldS); (focus rfl); (focus exact hasA); (focus rfl))))
    refine ref08_Size_c ?_
    (repeat (first | with_reducible refine T_chk0 ?_ | ((with_reducible apply T_chk); (focus rfl); (focus exact hasA); (focus rfl))))
    rw [w64 (n := 8 * ((dd.1.n : Nat) : Int)) (by omega) (by omega), w64 (by omega) (by omega)]
    refine T_brD (fun h => ?_) (fun _ => ?_)
    · have : oSize (o.1, o.2) = oSize o := rfl
      omega
    (repeat (first | ((with_reducible apply T_ldI); (focus rfl); (focus exact hasA); (focus rfl)) | ((with_reducible apply T_st); (focus rfl); (focus exact updA); (focus simp); simp only [List.set, Nat.zero_add, Nat.reduceAdd])))
    exact hk.weak.weak.weak
theorem ref16_Room_c {o : Ob} (h0 : oSize o ≠ 0) {k : Int → K} (hk : T B R (k (roomO o))) : T B R (c_ref16_Room o k) := by
  refine T_of (ref16_Room_ok o k) ?_
  have hr := oSize_rng o
  have h2 : (kOf (oSize o)).2 = true → 0 ≤ (kOf (oSize o)).1 := by
    unfold kOf ofC
    intro h
    split at h
    · rw [if_pos (by assumption)]; exact Int.natCast_nonneg _
    · cases h
  unfold roomO at hk
  (repeat (first | ((with_reducible apply T_ldI); (focus rfl); (focus exact hasA); (focus rfl)) | (with_reducible refine T_al ?_; intro _)))
  refine ref08_Class_c ?_
  rw [show ((o.1, o.2) : Ob) = o from rfl]
  unfold kC
  try (dsimp only [ref16_Room, Zbw0, Zbw1, Zbw2, Zbw3, Zbw4, Zbw5, Zbw6])
  by_cases h : (kOf (oSize o)).2 = true
  · rw [if_pos h] at hk ⊢
    refine T_brD (fun _ => ?_) (fun h' => absurd (h2 h) h')
    refine ref06_Words_c ?_
    exact T.weak hk
  · rw [if_neg h] at hk ⊢
    refine T_brD (fun h' => absurd h' (by omega)) (fun _ => ?_)
    (repeat (((with_reducible apply T_ldI); (focus rfl); (focus exact hasA); (focus rfl))))
    refine ref08_Blocks_c ?_ h0
    rw [show ((o.1, o.2) : Ob) = o from rfl, if_neg h, w64 (by omega) (by omega)]
    exact T.weak hk
def repL (r : Q7) : List Value := [.int .i64 r.1, .int .i64 r.2.1, .int .i64 r.2.2.1, .int .i64 r.2.2.2.1, .int .i64 r.2.2.2.2.1, .int .i64 r.2.2.2.2.2.1, .int .i64 r.2.2.2.2.2.2]
theorem law28_report_c {r : Q7} {k : List Value → K} (hk : T B R (k (repL r))) : T B R (c_law28_report r k) := by
  refine T_of (law28_report_ok r k) ?_
  (repeat (first | ((with_reducible apply T_ldI); (focus rfl); (focus exact hasA); (focus rfl)) | (with_reducible refine T_al ?_; intro _)))
  rename_i b1 b2
  refine T_stArr (cs := repL r) rfl (by decide +kernel) (by show szP _ _ = 7; decide +kernel) rfl rfl ?_
  (repeat (((with_reducible apply T_blob); (focus rfl); (focus exact hasA); (focus rfl))))
  exact hk.weak.weak
end
end
section
set_option maxHeartbeats 2000000
theorem wi_s (a b : Int) : IntKind.wrap .i64 (IntKind.wrap .i64 a - IntKind.wrap .i64 b) = IntKind.wrap .i64 (a - b) := by
  rw [wdef a, wdef b, wdef (a - b), wdef]; split <;> split <;> split <;> split <;> omega
theorem wi_sl (a b : Int) : IntKind.wrap .i64 (IntKind.wrap .i64 a - b) = IntKind.wrap .i64 (a - b) := by
  rw [wdef a, wdef (a - b), wdef]; split <;> split <;> split <;> omega
theorem roomX {g : Nat} {s : St} {x : Nat} {o : Ob} (h : PlOk s.c (64 * g) s.hs g (x : Int) o) : oSize o ≠ 0 ∧ roomO o = rmX s x := by
  obtain ⟨_, _, _, h4⟩ := h.place
  have hr := oSize_rng o
  rcases h4 with ⟨k, hk, hko, b, i, _, _, hh, hi, rfl⟩ | ⟨b, m, rfl, hb, hko, hw, hm⟩
  · constructor
    · intro h0
      rw [h0] at hko
      exact absurd hko (by unfold kOf; rw [if_neg (by omega)]; simp)
    · unfold roomO rmX
      rw [hko, Int.toNat_natCast, cellN_blk hk hi, hh]
      simp
  · have hw2 := hw.2.2.1
    have hn : ¬ (1 ≤ oSize o ∧ oSize o ≤ 256) := by
      intro h
      unfold kOf at hko
      rw [if_pos h] at hko
      simp at hko
    unfold oBlocks at hm
    rw [if_neg hn] at hm
    have hw1 := hw.1
    have hw3 := hw.2.1
    constructor
    · intro h0; rw [h0] at hm; omega
    · unfold roomO rmX
      rw [hko, Int.toNat_natCast, Nat.mul_div_cancel _ (by omega)]
      unfold hd
      rw [hw2, hw.2.2.2.1, ← hm, if_neg (by decide), if_neg (by decide)]
      omega
def r1 (s : St) (b : Nat) : Rp := ⟨nK s.hs 0 b, nK s.hs 1 b, nK s.hs 2 b, 0, 0, 0, wst s.hs b⟩
def r2 (g : Nat) (s : St) (k : Nat) : Rp := { r1 s g with c := sumK (frN g s g) k }
def r3 (g : Nat) (s : St) (l : List Int) : Rp := { r1 s g with o := l.length, u := sumL (szX g s) l, c := sumK (frN g s g) 32, w := wst s.hs g + sumL (fun x => rmX s x - szX g s x) l }
theorem r3_tot (g : Nat) (s : St) : r3 g s (uBel s.U (512 * g)) = totR g s g := rfl
theorem repL_rpT (r : Rp) : repL (rpT r) = rpL r := rfl
section
variable {B : World} {P R : SL} {t : K}
theorem T_chkAt {a : Addr} {vs : List Value} {j : Nat} {v : Value} {fs : List Ft} {k : Unit → K} (h : At P a vs) (hj : vs[j]? = some v) (ht : T B P (chk fs k)) : T B P (chk (.cell (a.add j) v :: fs) k) :=
  fun w s => ⟨h B w s j v hj, ht w s⟩
theorem count1 {x1 : Sl} {g b6 : Nat} {s : St} (inv : Inv g s.hs s.U s.L) (h1 : Rd R x1 3 (hds s.hs)) {k : K} {body : Int × Unit → (Int × Unit → K) → K}
    (hbody : ∀ i u c, body (i, u) c = brK (decide (i < ((x1.n : Nat) : Int))) (Zda18 x1 ⟨b6, 0, none⟩ i c) k)
    (hk : T B (R * pt b6 (.cells (rpL (r1 s g)).toArray 97)) k) :
    T B (R * pt b6 (.cells (rpL rp0).toArray 97)) (lp body (1, ())) := by
  refine T_rdlen h1.init fun hn => ?_
  rw [hds_len, inv.len] at hn
  have hg := inv.big
  have hg2 := inv.two
  have hlen := inv.len
  refine T_lpX (fun _ (s1 : Int × Unit) => R * pt b6 (.cells (rpL (r1 s s1.1.toNat)).toArray 97)) (fun m (s1 : Int × Unit) => ∃ i : Nat, 1 ≤ i ∧ i ≤ g ∧ s1.1 = i ∧ m = g - i) (g - 1) rfl ⟨1, by omega, by omega, rfl, rfl⟩ ?_
  rintro m ⟨s1, u⟩ c ⟨i, p1, p2, e1, e2⟩ hc
  simp only at e1
  subst e1 e2
  simp only [Int.toNat_natCast]
  rw [hbody]
  refine T_brD (fun hlt => ?_) (fun hge => ?_)
  · have hi : i < g := by omega
    have hnx := hc (g - (i + 1)) (IntKind.wrap .i64 ((i : Int) + 1), ()) (by omega) ⟨i + 1, by omega, by omega, w64 (by omega) (by omega), rfl⟩
    have e : (IntKind.wrap .i64 ((i : Int) + 1)).toNat = i + 1 := by rw [w64 (by omega) (by omega)]; omega
    simp only [e] at hnx
    have hge : s.hs[((i : Nat) : Int).toNat]'(by rw [Int.toNat_natCast]; omega) = hd s.hs i := by
      unfold hd; simp only [Int.toNat_natCast]; rw [List.getD_eq_getElem?_getD, List.getElem?_eq_getElem (by omega)]; rfl
    have hr := inv.right (hd s.hs i) (by rw [← hge]; exact List.getElem_mem _)
    have ix : ∀ {k : Addr → K} {l : List Value}, (∀ a, At (R * pt b6 (.cells l.toArray 97)) a [.int .i64 (hd s.hs i).1, .int .i64 (hd s.hs i).2.1, .int .i64 (hd s.hs i).2.2] → T B (R * pt b6 (.cells l.toArray 97)) (k a)) → T B (R * pt b6 (.cells l.toArray 97)) (ixS x1.p x1.n (i : Int) 3 k) := by
      intro k l hk
      refine T_ixH h1.init (by omega) (by rw [Int.toNat_natCast]; omega) ?_
      rw [hge]
      exact hk
    -- the second half: a small block's waste
    have half : ∀ {l : List Value} {w : Int}, l.length = 7 → l[6]? = some (.int .i64 (IntKind.wrap .i64 w)) → l.set 6 (.int .i64 (IntKind.wrap .i64 (if (hd s.hs i).1 = 1 then w + (512 - cls (hd s.hs i).2.1 * clsW (hd s.hs i).2.1) else w))) = rpL (r1 s (i + 1)) →
        T B (R * pt b6 (.cells l.toArray 97)) (Zda15 x1 ⟨b6, 0, none⟩ i c) := by
      intro l w hl hw he
      rw [Zda15]
      refine ix fun a ha => ?_
      refine T_ldAt (j := 0) ha rfl ?_
      refine T_brE (fun h => ?_) (fun h => ?_)
      · rw [if_pos h] at he
        rw [Zda13]
        refine T_tick ?_
        refine T_ixA (by omega) (by omega) ?_
        refine T_ldI (i := 6) rfl Has.last hw ?_
        refine ix fun a1 h1 => ?_
        refine T_ldAt (j := 1) h1 rfl ?_
        refine ix fun a2 h2 => ?_
        refine T_ldAt (j := 1) h2 rfl ?_
        refine ref06_Cells_c ?_
        refine T_chkAt (j := 1) h2 rfl ?_
        refine T_chk (i := 6) rfl Has.last hw ?_
        refine T_chk0 ?_
        refine ref06_Words_c ?_
        refine T_chk (i := 6) rfl Has.last hw ?_
        refine T_chk0 ?_
        refine T_ixA (by omega) (by omega) ?_
        refine T_st (i := 6) rfl Upd.last (by omega) ?_
        rw [wi_l, wi_s, show w + 512 - cls (hd s.hs i).2.1 * clsW (hd s.hs i).2.1 = w + (512 - cls (hd s.hs i).2.1 * clsW (hd s.hs i).2.1) by omega, he]
        exact hnx
      · rw [if_neg h, show l.set 6 (.int .i64 (IntKind.wrap .i64 w)) = l from ?_] at he
        rotate_left
        · obtain ⟨h6, e6⟩ := List.getElem?_eq_some_iff.1 hw
          rw [← e6]; exact List.set_getElem_self h6
        rw [he]
        exact hnx
    rw [Zda18]
    refine ix fun a ha => ?_
    refine T_ldAt (j := 0) ha rfl ?_
    have e6 : ∀ x y z : Int, (if (hd s.hs i).1 = 1 then wst s.hs i + (512 - cls (hd s.hs i).2.1 * clsW (hd s.hs i).2.1) else wst s.hs i) = wst s.hs (i + 1) := by
      intro _ _ _
      show _ = wst s.hs i + _
      by_cases h : (hd s.hs i).1 = 1
      · rw [if_pos h, if_pos ⟨p1, h⟩]
      · rw [if_neg h, if_neg (fun q => h q.2), Int.add_zero]
    have en : ∀ j : Int, nK s.hs j (i + 1) = nK s.hs j i + (if (hd s.hs i).1 = j then 1 else 0) := by
      intro j
      show nK s.hs j i + _ = _
      by_cases h : (hd s.hs i).1 = j
      · rw [if_pos h, if_pos ⟨p1, h⟩]
      · rw [if_neg h, if_neg (fun q => h q.2)]
    have hk4 : (hd s.hs i).1 = 0 ∨ (hd s.hs i).1 = 1 ∨ (hd s.hs i).1 = 2 ∨ (hd s.hs i).1 = 3 := by
      rcases hr with h | h | h
      · rw [h]; exact .inl rfl
      · exact .inr (.inl h.1)
      · rcases h.1 with h | h
        · exact .inr (.inr (.inl h))
        · exact .inr (.inr (.inr h))
    refine T_brD (fun h3 => ?_) (fun h3 => ?_)
    · rw [Zda16]
      refine ix fun a ha => ?_
      refine T_ldAt (j := 0) ha rfl ?_
      rcases hk4 with h | h | h | h
      rotate_right
      · omega
      all_goals
        rw [h]
        refine T_ixA (by omega) (by omega) ?_
        first
        | refine T_ldI (i := 0) rfl Has.last rfl ?_
          refine T_ixA (by omega) (by omega) ?_
          refine T_st (i := 0) rfl Upd.last (by show _ < 7; omega) ?_
        | refine T_ldI (i := 1) rfl Has.last rfl ?_
          refine T_ixA (by omega) (by omega) ?_
          refine T_st (i := 1) rfl Upd.last (by show _ < 7; omega) ?_
        | refine T_ldI (i := 2) rfl Has.last rfl ?_
          refine T_ixA (by omega) (by omega) ?_
          refine T_st (i := 2) rfl Upd.last (by show _ < 7; omega) ?_
        refine half (w := wst s.hs i) rfl rfl ?_
        rw [e6 0 0 0, wi_l]
        unfold rpL r1
        rw [en, en, en, h]
        simp
    · have h : (hd s.hs i).1 = 3 := by omega
      refine half (w := wst s.hs i) rfl rfl ?_
      rw [e6 0 0 0]
      unfold rpL r1
      rw [en, en, en, h]
      simp
  · have : i = g := by omega
    subst this
    exact hk
theorem count2 {x1 x2 : Sl} {g b6 : Nat} {s : St} (inv : Inv g s.hs s.U s.L) (h1 : Rd R x1 3 (hds s.hs)) (h2 : Rd R x2 1 (ints (uBel s.U (512 * g)))) {k : K} {body : Int × Unit → (Int × Unit → K) → K}
    (hbody : ∀ i u c, body (i, u) c = brK (decide (i < 32)) (Zda9 x1 x2 ⟨b6, 0, none⟩ i c) k)
    (hk : T B (R * pt b6 (.cells (rpL (r2 g s 32)).toArray 97)) k) :
    T B (R * pt b6 (.cells (rpL (r1 s g)).toArray 97)) (lp body (0, ())) := by
  have hg := inv.big
  have hg2 := inv.two
  have hlen := inv.len
  refine T_lpX (fun _ (s1 : Int × Unit) => R * pt b6 (.cells (rpL (r2 g s s1.1.toNat)).toArray 97)) (fun m (s1 : Int × Unit) => ∃ i : Nat, i ≤ 32 ∧ s1.1 = i ∧ m = 32 - i) 32 rfl ⟨0, by omega, rfl, rfl⟩ ?_
  rintro m ⟨s1, u⟩ c ⟨i, p2, e1, e2⟩ hc
  simp only at e1
  subst e1 e2
  simp only [Int.toNat_natCast]
  rw [hbody]
  refine T_brD (fun hlt => ?_) (fun hge => ?_)
  · have hi : i < 32 := by omega
    have hnx := hc (32 - (i + 1)) (IntKind.wrap .i64 ((i : Int) + 1), ()) (by omega) ⟨i + 1, by omega, w64 (by omega) (by omega), rfl⟩
    have e : (IntKind.wrap .i64 ((i : Int) + 1)).toNat = i + 1 := by rw [w64 (by omega) (by omega)]; omega
    simp only [e] at hnx
    rw [Zda9]
    refine T_tick ?_
    refine T_ixA (by omega) (by omega) ?_
    refine T_ldI (i := 5) rfl Has.last rfl ?_
    have ub := @uBel_len s.U (512 * g)
    refine ref16_Free_c (hs := s.hs) (us := uBel s.U (512 * g)) ⟨by omega, by omega⟩ (by omega) (by omega) (by omega) h1.init h2.init fun sl => ?_
    refine T_vlen .last fun hn => ?_
    rw [ints_len, Nat.mul_one, hlen] at hn
    refine T_chk (i := 5) rfl (Has.init Has.last) rfl ?_
    refine T_chk0 ?_
    refine T_ixA (by omega) (by omega) ?_
    refine T_st (i := 5) rfl (Upd.init Upd.last) (by show _ < 7; omega) ?_
    rw [wi_l, hn]
    exact T.weak hnx
  · have : i = 32 := by omega
    subst this
    exact hk
theorem count3 {x2 : Sl} {g b3 b6 : Nat} {s : St} {dd : Sl × Sl × Sl × Sl × Sl × Int × Int × Bool} (inv : Inv g s.hs s.U s.L) (pl : Pl g s) (hx : Rd R dd.1 8 (wds s.c)) (h2 : Rd R x2 1 (ints (uBel s.U (512 * g)))) {k : K} {body : Int × Unit → (Int × Unit → K) → K}
    (hbody : ∀ i u c, body (i, u) c = brK (decide (i < ((x2.n : Nat) : Int))) (Zda5 x2 ⟨b3, 0, none⟩ ⟨b6, 0, none⟩ i c) k)
    (hk : T B (R * pt b3 (.cells #[dd.1.v, dd.2.1.v, dd.2.2.1.v, dd.2.2.2.1.v, dd.2.2.2.2.1.v, .int .i64 dd.2.2.2.2.2.1, .int .i64 dd.2.2.2.2.2.2.1, .bool dd.2.2.2.2.2.2.2] 103) * pt b6 (.cells (rpL (totR g s g)).toArray 97)) k) :
    T B (R * pt b3 (.cells #[dd.1.v, dd.2.1.v, dd.2.2.1.v, dd.2.2.2.1.v, dd.2.2.2.2.1.v, .int .i64 dd.2.2.2.2.2.1, .int .i64 dd.2.2.2.2.2.2.1, .bool dd.2.2.2.2.2.2.2] 103) * pt b6 (.cells (rpL (r2 g s 32)).toArray 97)) (lp body (0, ())) := by
  have hg := inv.big
  have hg2 := inv.two
  have hlen := inv.len
  have ub := @uBel_len s.U (512 * g)
  refine T_rdlen h2.init.init fun hn => ?_
  rw [ints_len, Nat.mul_one] at hn
  generalize hus : uBel s.U (512 * g) = us at *
  refine T_lpX (fun _ (s1 : Int × Unit) => R * pt b3 (.cells #[dd.1.v, dd.2.1.v, dd.2.2.1.v, dd.2.2.2.1.v, dd.2.2.2.2.1.v, .int .i64 dd.2.2.2.2.2.1, .int .i64 dd.2.2.2.2.2.2.1, .bool dd.2.2.2.2.2.2.2] 103) * pt b6 (.cells (rpL (r3 g s (us.take s1.1.toNat))).toArray 97)) (fun m (s1 : Int × Unit) => ∃ i : Nat, i ≤ us.length ∧ s1.1 = i ∧ m = us.length - i) us.length ?_ ⟨0, by omega, rfl, rfl⟩ ?_
  · unfold r3 r2 r1 sumL
    simp
  rintro m ⟨s1, u⟩ c ⟨i, p2, e1, e2⟩ hc
  simp only at e1
  subst e1 e2
  simp only [Int.toNat_natCast]
  rw [hbody]
  refine T_brD (fun hlt => ?_) (fun hge => ?_)
  · have hi : i < us.length := by omega
    have hnx := hc (us.length - (i + 1)) (IntKind.wrap .i64 ((i : Int) + 1), ()) (by omega) ⟨i + 1, by omega, w64 (by omega) (by omega), rfl⟩
    have e : (IntKind.wrap .i64 ((i : Int) + 1)).toNat = i + 1 := by rw [w64 (by omega) (by omega)]; omega
    simp only [e] at hnx
    have hm : us[i] ∈ uBel s.U (512 * g) := hus ▸ List.getElem_mem hi
    obtain ⟨x, hx1, hx2, hx3⟩ := uBel_mem.1 hm
    obtain ⟨o, ho⟩ := pl.obj x hx2
    have hh := ho.1
    obtain ⟨r0, r1e⟩ := roomX ho
    have hsz : szX g s x = oSize o := by unfold szX; rw [hh]
    have e3 : us.take (i + 1) = us.take i ++ [(x : Int)] := by rw [List.take_succ_eq_append_getElem hi, hx3]
    rw [e3] at hnx
    have hnx : T B (R * pt b3 (.cells #[dd.1.v, dd.2.1.v, dd.2.2.1.v, dd.2.2.2.1.v, dd.2.2.2.2.1.v, .int .i64 dd.2.2.2.2.2.1, .int .i64 dd.2.2.2.2.2.2.1, .bool dd.2.2.2.2.2.2.2] 103) * pt b6 (.cells (rpL { r3 g s (us.take i) with o := (r3 g s (us.take i)).o + 1, u := (r3 g s (us.take i)).u + oSize o, w := (r3 g s (us.take i)).w + roomO o - oSize o }).toArray 97)) (c (IntKind.wrap .i64 ((i : Int) + 1), ())) := by
      have er : r3 g s (us.take i ++ [(x : Int)]) = { r3 g s (us.take i) with o := (r3 g s (us.take i)).o + 1, u := (r3 g s (us.take i)).u + oSize o, w := (r3 g s (us.take i)).w + roomO o - oSize o } := by
        unfold r3
        simp only [sumL_append, sumL, List.length_append, List.length_singleton, hsz, r1e, Rp.mk.injEq, true_and]
        refine ⟨by omega, by omega, by omega⟩
      rw [er] at hnx
      exact hnx
    clear hc
    generalize r3 g s (us.take i) = r at *
    -- behind the reading of the head
    have go : ∀ P b, (∀ t, T B (R * pt b3 (.cells #[dd.1.v, dd.2.1.v, dd.2.2.1.v, dd.2.2.2.1.v, dd.2.2.2.2.1.v, .int .i64 dd.2.2.2.2.2.1, .int .i64 dd.2.2.2.2.2.2.1, .bool dd.2.2.2.2.2.2.2] 103) * pt b6 (.cells (rpL r).toArray 97) * pt b (.cells [.int .i64 o.1, .int .i64 o.2].toArray 74) ) t → T B P t) → T B P (Zda4 ⟨b6, 0, none⟩ i c ⟨b, 0, none⟩) := by
      intro P b hP
      refine hP _ ?_
      rw [Zda4]
      refine T_ixA (by omega) (by omega) ?_
      refine T_ldI (i := 3) rfl (Has.init Has.last) rfl ?_
      refine T_ixA (by omega) (by omega) ?_
      refine T_st (i := 3) rfl (Upd.init Upd.last) (by show _ < 7; omega) ?_
      rw [Zda3]
      refine T_tick ?_
      refine T_ixA (by omega) (by omega) ?_
      refine T_ldI (i := 4) rfl (Has.init Has.last) rfl ?_
      refine T_ldI (i := 0) rfl Has.last rfl ?_
      refine T_ldI (i := 1) rfl Has.last rfl ?_
      refine ref08_Size_c ?_
      refine T_chk (i := 4) rfl (Has.init Has.last) rfl ?_
      refine T_chk0 ?_
      refine T_ixA (by omega) (by omega) ?_
      refine T_st (i := 4) rfl (Upd.init Upd.last) (by show _ < 7; omega) ?_
      rw [Zda2]
      refine T_tick ?_
      refine T_ixA (by omega) (by omega) ?_
      refine T_ldI (i := 6) rfl (Has.init Has.last) rfl ?_
      refine T_ldI (i := 0) rfl Has.last rfl ?_
      refine T_ldI (i := 1) rfl Has.last rfl ?_
      refine T_ldI (i := 0) rfl Has.last rfl ?_
      refine T_ldI (i := 1) rfl Has.last rfl ?_
      refine ref16_Room_c (o := o) r0 ?_
      refine T_chk (i := 0) rfl Has.last rfl ?_
      refine T_chk (i := 1) rfl Has.last rfl ?_
      refine T_chk (i := 6) rfl (Has.init Has.last) rfl ?_
      refine T_chk0 ?_
      refine ref08_Size_c (o := o) ?_
      refine T_chk (i := 6) rfl (Has.init Has.last) rfl ?_
      refine T_chk0 ?_
      refine T_ixA (by omega) (by omega) ?_
      refine T_st (i := 6) rfl (Upd.init Upd.last) (by show _ < 7; omega) ?_
      rw [wi_l, wi_l, wi_l, wi_sl]
      exact T.weak hnx
    rw [Zda5]
    refine T_tick ?_
    refine T_ldS (i := 0) rfl (Has.init Has.last) rfl ?_
    refine T_ldS (i := 1) rfl (Has.init Has.last) rfl ?_
    refine T_ldS (i := 2) rfl (Has.init Has.last) rfl ?_
    refine T_ldS (i := 3) rfl (Has.init Has.last) rfl ?_
    refine T_ldS (i := 4) rfl (Has.init Has.last) rfl ?_
    refine T_ldI (i := 5) rfl (Has.init Has.last) rfl ?_
    refine T_ldI (i := 6) rfl (Has.init Has.last) rfl ?_
    refine T_ldB (i := 7) rfl (Has.init Has.last) rfl ?_
    refine T_ixV h2.init.init (by omega) (n := x) (by rw [Int.toNat_natCast, ints_at hi, hx3]) ?_
    refine T_andK ?_ (T_andK ?_ fun _ _ => trivial)
    · refine ref15_Head_c (n := 64 * g) (o := o) hx.init.init (by have := pl.len; omega) (by omega) hh ?_
      (repeat (first | (with_reducible refine T_al ?_; intro _) | ((with_reducible apply T_st); (focus rfl); (focus exact updA); (focus simp); simp only [List.set, Nat.zero_add, Nat.reduceAdd])))
      exact go _ _ fun t h => h
    · (repeat ((with_reducible refine T_al ?_; intro _)))
      refine ref15_Head_c (n := 64 * g) (o := o) hx.init.init.init (by have := pl.len; omega) (by omega) hh ?_
      (repeat (((with_reducible apply T_st); (focus rfl); (focus exact updA); (focus simp); simp only [List.set, Nat.zero_add, Nat.reduceAdd])))
      exact go _ _ fun t h => h
  · have : i = us.length := by omega
    subst this
    rw [List.take_length, ← hus, r3_tot] at *
    exact hk
theorem ref28_Count_c {dd : Sl × Sl × Sl × Sl × Sl × Int × Int × Bool} {x1 x2 : Sl} {g : Nat} {s : St} (inv : Inv g s.hs s.U s.L) (pl : Pl g s) (hx : Rd R dd.1 8 (wds s.c)) (h1 : Rd R x1 3 (hds s.hs)) (h2 : Rd R x2 1 (ints (uBel s.U (512 * g)))) {k : List Value → K}
    (hk : T B R (k (repL (rpT (totR g s g))))) : T B R (c_ref28_Count dd x1 x2 k) := by
  refine T_of (ref28_Count_ok dd x1 x2 k) ?_
  rw [ref28_Count]
  refine T_al fun b3 => ?_
  refine T_al fun b4 => ?_
  refine T_al fun b6 => ?_
  refine count1 (s := s) (R := R * _ * _) inv h1.init.init (fun i u c => rfl) ?_
  refine count2 (R := R * _ * _) inv h1.init.init h2.init.init (fun i u c => rfl) ?_
  refine T.perm (Q := R * pt b4 _ * pt b3 _ * pt b6 _) (by ac_rfl) ?_
  refine count3 (R := R * _) inv pl hx.init h2.init (fun i u c => rfl) ?_
  rw [Zda1]
  (repeat (((with_reducible apply T_blob); (focus rfl); (focus exact hasA); (focus rfl))))
  refine T_bring (X := pt b4 _) (by exact frmA) ?_
  refine T_stArr (cs := rpL (totR g s g)) rfl (by decide +kernel) (by show szP _ _ = 7; decide +kernel) rfl rfl ?_
  (repeat (((with_reducible apply T_blob); (focus rfl); (focus exact hasA); (focus rfl))))
  rw [repL_rpT] at hk
  exact hk.weak.weak.weak
end
end
section
set_option maxHeartbeats 2000000
theorem PlOk.of_good {g : Nat} {s : St} (pl : Pl g s) : ¬ BadX g s := by
  rintro ⟨x, hu, h⟩
  obtain ⟨o, ho⟩ := pl.obj x hu
  exact h o ho
theorem FineH.of_pl {g : Nat} {s : St} {la : List Int} (pl : Pl g s) (inv : Inv g s.hs s.U s.L) (hl : HLs (64 * g) s.c la) {b : Nat} (h1 : 1 ≤ b) (h2 : b < g) : FineH s.c la b := by
  have hr := inv.right (hd s.hs b) (by unfold hd; rw [getD_eq (by rw [inv.len]; exact h2)]; exact List.getElem_mem _)
  refine ⟨by rw [pl.hdr b h1 h2, bdec_benc hr], ?_⟩
  have := hl (256 + b) (by omega) (by omega)
  exact getI_eq this
theorem bdec_pl {g : Nat} {s : St} (pl : Pl g s) (inv : Inv g s.hs s.U s.L) {b : Nat} (h1 : 1 ≤ b) (h2 : b < g) : (bdec b (getI s.c (256 + b))).1 = hd s.hs b := by
  have hr := inv.right (hd s.hs b) (by unfold hd; rw [getD_eq (by rw [inv.len]; exact h2)]; exact List.getElem_mem _)
  rw [pl.hdr b h1 h2, bdec_benc hr]
theorem Pl.begun {g : Nat} {F : RF} (h : 2 ≤ g) (h2 : g ≤ 255) : Pl g (st0 g F) := by
  have e : ∀ b : Nat, 1 ≤ b → b < g → getI (c0 g) (256 + b) = benc b (0, 0, 0) := by
    intro b hb hlt
    unfold getI
    rw [if_neg (by omega)]
    have e2 : (256 + (b : Int)).toNat = 256 + b := by omega
    rw [e2, List.getD_eq_getElem?_getD]
    unfold c0
    rw [wrH_get, if_neg (by simp; omega), List.getElem?_replicate, if_pos (by omega)]
    simp only [Option.map_some, Option.getD_some]
    congr 1; omega
  refine ⟨?_, fun b h1 h2 => ?_, fun x hx => (by cases hx), fun b n hb hw => ?_⟩
  · show (c0 g).length = _
    unfold c0
    rw [wrH_length, List.length_replicate]; omega
  · show getI (c0 g) _ = benc b (hd (hs0 g) b)
    rw [hd_hs0]; exact e b h1 h2
  · have := hw.2.2.1
    have h3 := hd_hs0 g b
    unfold hd at h3
    have h4 : (hs0 g).getD b (0, 0, 0) = (0, 0, 0) := h3
    change ((hs0 g).getD b (0, 0, 0)).1 = 2 at this
    rw [h4] at this
    cases this
section
variable {B : World} {P R : SL} {t : K}
theorem Whole_good_c {a d g : Nat} {s : St} (inv : Inv g s.hs s.U s.L) (pl : Pl g s) {kk : Q7 × (Int × Int) → K} (hk : T B (R * Al a d g s) (kk (rpT (totR g s g), (0, 0)))) : T B (R * Al a d g s) (c_check_Whole (da a) kk) := by
  refine Al_tie fun tie => ?_
  refine Al_open fun m u f => ?_
  refine T_bring (X := LDx d (64 * g) s.c) (by exact frmA) ?_
  refine LDx_open fun la hla => ?_
  refine T.perm (Q := R * openAl a d g s la m u f) (by unfold openAl; ac_rfl) ?_
  refine check_Whole_c inv tie pl.large (fun b h1 h2 _ => bdec_pl pl inv h1 h2) (whole_f inv pl.large) (whole_o inv pl.large) (fun _ _ => ?_) (fun x e he hb => ?_)
  · rw [wholeR_tot inv pl.large g (by have := inv.two; omega) (Nat.le_refl _)]
    exact hk
  · exfalso
    rcases hb with ⟨b, h1, h2, h3⟩ | hb
    · exact h3 (FineH.of_pl pl inv hla h1 h2)
    · exact PlOk.of_good pl hb
theorem law28_awake_c {kk : Bool → K} (hk : T B R (kk true)) : T B R (c_law28_awake kk) := by
  refine T_of (law28_awake_ok kk) ?_
  refine Begun_c (n := 4) (by omega) (by omega) fun a d F => ?_
  (repeat' (first | with_reducible refine T_brT ?_ | ((with_reducible apply T_ldP); (focus rfl); (focus exact hasA); (focus rfl)) | (with_reducible refine T_al ?_; intro _) | ((with_reducible apply T_st); (focus rfl); (focus exact updA); (focus simp); simp only [List.set, Nat.zero_add, Nat.reduceAdd]) | with_reducible refine T_brN ?_))
  have inv : Inv 4 (st0 4 F).hs (st0 4 F).U (st0 4 F).L := Inv.begun (by omega) (by omega)
  have pl : Pl 4 (st0 4 F) := Pl.begun (by omega) (by omega)
  refine T_bring (X := Al a d 4 (st0 4 F)) (by exact frmA) ?_
  refine Whole_good_c inv pl ?_
  have e : totR 4 (st0 4 F) 4 = ⟨3, 0, 0, 0, 0, 0, 0⟩ := by
    have h1 : ∀ k j, frS (hs0 4) (uBel (fun _ => false) (512 * 4)) k j = [] := by
      intro k j
      induction j with
      | zero => rfl
      | succ j ih =>
        cases j with
        | zero => rfl
        | succ j =>
          rw [frS_succ _ _ _ (by omega), ih, hd_hs0]; rfl
    have h2 : ∀ k, frN 4 (st0 4 F) 4 k = 0 := by
      intro k
      unfold frN
      show (((frS (hs0 4) (uBel (fun _ => false) (512 * 4)) k 4).length : Nat) : Int) = 0
      rw [h1]; rfl
    have h3 : sumK (frN 4 (st0 4 F) 4) 32 = 0 := by
      rw [sumK_congr (f' := fun _ => 0) 32 fun k _ => h2 k, sumK_zero]
    have h4 : uBel (st0 4 F).U (512 * 4) = [] := by
      refine List.eq_nil_iff_forall_not_mem.2 fun x hx => ?_
      obtain ⟨y, _, hy, _⟩ := uBel_mem.1 hx
      cases hy
    unfold totR
    rw [h3, h4]
    rfl
  rw [e]
  have e2 : rpT ⟨3, 0, 0, 0, 0, 0, 0⟩ = (3, (0, (0, (0, (0, (0, 0)))))) := by decide +kernel
  rw [e2]
  (repeat' (first | ((with_reducible apply T_ldI); (focus rfl); (focus exact hasA); (focus rfl)) | (with_reducible refine T_al ?_; intro _) | ((with_reducible apply T_st); (focus rfl); (focus exact updA); (focus simp); simp only [List.set, Nat.zero_add, Nat.reduceAdd]) | with_reducible refine T_brE (fun _ => ?_) (fun _ => ?_)))
  · exact hk.weak.weak.weak
  all_goals exact absurd rfl (by assumption)
theorem law28_played_c {x0 : Int} {x1 : Sl} (h0 : 0 ≤ x0) (h1 : x0 ≤ 255) (hs : Scr B x1) {kk : (Option Addr × Option Addr × Sl) × Bool → K}
    (hk : ∀ a d s, Inv (2 + x0.toNat % 7) s.hs s.U s.L → Pl (2 + x0.toNat % 7) s → T B (R * Al a d (2 + x0.toNat % 7) s) (kk ((da a, da d, nilS), true))) : T B R (c_law28_played x0 x1 kk) := by
  refine T_of (law28_played_ok x0 x1 kk) ?_
  have e0 : IntKind.wrap .i64 (2 + IntKind.wrap .i64 (Int.tmod x0 7)) = ((2 + x0.toNat % 7 : Nat) : Int) := by
    rw [Int.tmod_eq_emod_of_nonneg h0, w64 (n := x0 % 7) (by omega) (by omega), w64 (by omega) (by omega)]; omega
  (dsimp only [law28_played, Zey0, Zey1, Zey2, Zey3, Zey4, Zey5, Zey6, Zey7, Zey8, Zey9, Zey10, Zey11, Zey12, Zey13, Zey14, Zey15, Zey16, Zey17, Zey18])
  rw [e0]
  generalize hg : 2 + x0.toNat % 7 = g at *
  have hg1 : 2 ≤ g := by omega
  have hg2 : g ≤ 8 := by omega
  refine T_al fun b4 => ?_
  refine Begun_c (n := g) hg1 (by omega) fun a d F => ?_
  (repeat (first | (with_reducible refine T_al ?_; intro _) | ((with_reducible apply T_st); (focus rfl); (focus exact updA); (focus simp); simp only [List.set, Nat.zero_add, Nat.reduceAdd])))
  rename_i b
  have inv0 : Inv g (st0 g F).hs (st0 g F).U (st0 g F).L := Inv.begun hg1 (by omega)
  have pl0 : Pl g (st0 g F) := Pl.begun hg1 (by omega)
  refine T_lpW (fun _ _ => ex fun s : St => R * pt b4 (.cells [.pointer none, .pointer none, .slice none 0 0].toArray 29) * pt b (.cells [.pointer (da a), .pointer (da d), nilS.v].toArray 29) * Al a d g s * pu (Inv g s.hs s.U s.L ∧ Pl g s)) (fun n (z : Int × Unit) => ∃ i : Nat, z.1 = i ∧ i ≤ 50 ∧ n = 50 - i) 50 (fun t ht => ?_) ⟨0, rfl, by omega, rfl⟩ ?_
  · intro w hw
    refine ht w (ex_sat (st0 g F) (Sat.puI ⟨inv0, pl0⟩ ?_))
    exact hw.perm (by ac_rfl)
  rintro n ⟨z, uu⟩ c ⟨i, e1, e2, e3⟩ hc
  simp only at e1
  subst e1 e3
  dsimp only
  have next : ∀ s, Inv g s.hs s.U s.L → Pl g s → i < 50 → T B (R * pt b4 (.cells [.pointer none, .pointer none, .slice none 0 0].toArray 29) * pt b (.cells [.pointer (da a), .pointer (da d), nilS.v].toArray 29) * Al a d g s) (c (IntKind.wrap .i64 ((i : Int) + 1), ())) := by
    intro s inv pl hi w hw
    exact hc (50 - (i + 1)) (IntKind.wrap .i64 ((i : Int) + 1), ()) (by omega) ⟨i + 1, w64 (by omega) (by omega), by omega, rfl⟩ w (ex_sat s (Sat.puI ⟨inv, pl⟩ hw))
  clear hc
  have nexts := next
  refine T_exP fun s hinv => ?_
  obtain ⟨inv, pl⟩ := hinv
  have next := next s inv pl
  have done : ∀ X Y : SL, T B (R * X * Y * Al a d g s) (kk ((da a, da d, nilS), true)) := by
    intro X Y
    refine T_drop1 (.init (.init .last)) ?_
    refine T_drop1 (.init .last) ?_
    exact hk a d s inv pl
  unfold da at *
  (repeat' (first | with_reducible refine T_brT ?_ | with_reducible refine T_brF ?_ | ((with_reducible apply T_ldP); (focus rfl); (focus exact hasA); (focus rfl)) | ((with_reducible apply T_ldS); (focus rfl); (focus exact hasA); (focus rfl)) | ((with_reducible apply T_st); (focus rfl); (focus exact updA); (focus simp); simp only [List.set, Nat.zero_add, Nat.reduceAdd]) | with_reducible refine T_brD (fun _ => ?_) (fun _ => ?_)))
  · rename_i h1 h2
    refine T_ixScr hs (by omega) h1 fun y kd m p dd q0 q1 q2 q3 => ?_
    refine T_ldBase q0 ?_
    refine T_ldBase q1 ?_
    refine T_ldBase q2 ?_
    refine T_ldBase q3 ?_
    (repeat (first | ((with_reducible apply T_ldP); (focus rfl); (focus exact hasA); (focus rfl)) | (with_reducible refine T_al ?_; intro _) | ((with_reducible apply T_st); (focus rfl); (focus exact updA); (focus simp); simp only [List.set, Nat.zero_add, Nat.reduceAdd])))
    rename_i b2
    refine T_bring (X := Al a d g s) (by exact frmA) ?_
    refine Objects_c fun sl => ?_
    have ub := @uBel_len s.U (512 * g)
    refine T_vlen .last fun hn => ?_
    rw [ints_len, Nat.mul_one] at hn
    -- back to the head
    have nx : ∀ s', Inv g s'.hs s'.U s'.L → Pl g s' → T B (R * pt b4 (.cells [.pointer none, .pointer none, .slice none 0 0].toArray 29) * pt b (.cells [.pointer (some ⟨a, 0, none⟩), .pointer (some ⟨d, 0, none⟩), nilS.v].toArray 29) * pt b2 (.cells [.int .i64 kd, .int .i64 m, .int .i64 p, .int .i64 dd].toArray 137) * vec 3 1 sl (ints (uBel s.U (512 * g))) * Al a d g s') (c (IntKind.wrap .i64 ((i : Int) + 1), ())) := by
      intro s' inv' pl'
      refine T_drop1 (.init .last) ?_
      refine T_drop1 (.init .last) ?_
      exact nexts s' inv' pl' (by omega)
    have same : T B (R * pt b4 (.cells [.pointer none, .pointer none, .slice none 0 0].toArray 29) * pt b (.cells [.pointer (some ⟨a, 0, none⟩), .pointer (some ⟨d, 0, none⟩), nilS.v].toArray 29) * pt b2 (.cells [.int .i64 kd, .int .i64 m, .int .i64 p, .int .i64 dd].toArray 137) * Al a d g s * vec 3 1 sl (ints (uBel s.U (512 * g)))) (c (IntKind.wrap .i64 ((i : Int) + 1), ())) := T.perm (by ac_rfl) (nx s inv pl)
    (repeat' (first | with_reducible refine T_tick ?_ | with_reducible refine T_brF ?_ | ((with_reducible apply T_ldI); (focus rfl); (focus exact hasA); (focus rfl)) | ((with_reducible apply T_ldP); (focus rfl); (focus exact hasA); (focus rfl)) | with_reducible refine T_brD (fun _ => ?_) (fun _ => ?_) | with_reducible refine T_brE (fun _ => ?_) (fun _ => ?_)))
    · refine T_bring (X := Al a d g s) (by exact frmA) ?_
      refine Al_tie fun tie => ?_
      refine Alloc_c inv (by omega) (fun _ => nx s inv pl) (fun _ _ _ => nx s inv pl) (fun _ _ _ _ _ => nx s inv pl) (fun _ _ hz _ x s1 hr => nx _ ?_ (pl.made inv tie (by omega) hz hr))
      obtain ⟨i1, i2, i3⟩ := hr.inv
      show Inv g s1.hs (uAdd s1.U x) s1.L
      rw [i3]; exact i1
    · rename_i h3 h4 h5 h6
      refine T_nz (by omega) ?_
      have e4 : Int.tmod p (sl.n : Int) = p % (sl.n : Int) := Int.tmod_eq_emod_of_nonneg (by omega)
      rw [e4]
      have hm1 := Int.emod_nonneg p (show (sl.n : Int) ≠ 0 by omega)
      have hm2 := Int.emod_lt_of_pos p (show (0 : Int) < sl.n by omega)
      have hlt : (p % (sl.n : Int)).toNat < (uBel s.U (512 * g)).length := by omega
      refine T_ixV (Rd.vec .last) hm1 (ints_at hlt) ?_
      refine T_bring (X := Al a d g s) (by exact frmA) ?_
      refine Free_c inv (fun _ => nx s inv pl) (fun n s' o _ _ hf => nx s' hf.inv (pl.freed inv (by omega) hf))
    all_goals first
      | exact same
      | refine T_bring (X := Al a d g s) (by exact frmA) ?_
        refine Trim_c inv (nx s inv pl) (fun n k F' e hn hk hh hu => nx _ (inv.trim hk hn hh hu) (pl.trimmed inv (by omega) hk hn hh hu))
  · exact done _ _
  · exact done _ _
end
end
section
set_option maxHeartbeats 2000000
theorem eqItems_same {Pg : Program} (d : Nat) {e : TypeId} {kk : IntKind} (hu : Pg.underlying e = some (.int kk)) (ha : aggP Pg e = false) (xs : Array Value) (w : World) : ∀ is : List Nat, (∀ i ∈ is, ∃ n, xs[i]? = some (.int kk n)) → (Op.eqItems (d + 1) e 1 xs xs is).run Pg w = .ok true w
  | [], _ => by simp [Op.eqItems]
  | i :: is, h => by
    obtain ⟨n, hn⟩ := h i (List.mem_cons_self ..)
    have hn : xs[i * 1]? = some (.int kk n) := by rw [Nat.mul_one]; exact hn
    simp only [Op.eqItems, Sem.run_bind, part_cell hu ha hn, Result.andThen_ok, run_equalIn_int w d e kk kk n n hu, beq_self_eq_true, Bool.not_true, Bool.false_eq_true, if_false]
    exact eqItems_same d hu ha xs w is fun j hj => h j (List.mem_cons_of_mem _ hj)
theorem eqRep (r : Q7) (w : World) : (Op.equal 97 (.agg (repL r).toArray) (.agg (repL r).toArray)).run Tryz.prog w = .ok true w := by
  have hu : Tryz.prog.underlying 97 = some (.array 7 3) := by kernel_rfl
  have he : Tryz.prog.underlying 3 = some (.int .i64) := by kernel_rfl
  have hc : Tryz.prog.cellsOf 3 = 1 := by kernel_rfl
  obtain ⟨ti, hi⟩ := info_of_und he
  rw [equal_unf, run_equalIn_array w 9999 _ _ hu hi, hc]
  refine eqItems_same 9998 he (by kernel_rfl) _ w _ fun i hi => ?_
  rw [List.mem_range] at hi
  have : i = 0 ∨ i = 1 ∨ i = 2 ∨ i = 3 ∨ i = 4 ∨ i = 5 ∨ i = 6 := by omega
  rcases this with rfl | rfl | rfl | rfl | rfl | rfl | rfl <;> exact ⟨_, rfl⟩
section
variable {B : World} {P R : SL} {t : K}
theorem T_eqRep {r : Q7} {k : Bool → K} (ht : T B P (k true)) : T B P (eqA Tryz.prog 97 (.agg (repL r).toArray) (.agg (repL r).toArray) k) := fun w hw => ⟨true, eqRep r, ht w hw⟩
theorem AllTab_c {a d g : Nat} {s : St} (inv : Inv g s.hs s.U s.L) {k : Sl → K} (hk : ∀ sl, T B (R * Al a d g s * vec 143 3 sl (hds s.hs)) (k sl)) :
    T B (R * Al a d g s) (ldP (Addr.add ⟨a, 0, none⟩ 0) fun x34 => nn x34 fun x35 => ldP (Addr.add x35 0) fun x37 => c_blocks_Table_All x37 k) := by
  have hl := inv.len
  have hb := inv.big
  refine Al_open fun mm u f => ?_
  unfold da
  (repeat (first | with_reducible refine T_nn ?_ | ((with_reducible apply T_ldP); (focus rfl); (focus exact hasA); (focus rfl))))
  refine T_bring (X := Mg mm d g s.hs s.F) (by exact frmA) ?_
  refine Mg_open fun tt xx tie2 => ?_
  unfold da
  (repeat (((with_reducible apply T_ldP); (focus rfl); (focus exact hasA); (focus rfl))))
  refine T_bring (X := Tab tt d g s.hs) (by exact frmA) ?_
  refine blocks_All_c (by omega) fun s9 => ?_
  have h4 := hk s9
  have h5 : T B (R * vec 143 3 s9 (hds s.hs) * Al a d g s) (k s9) := T.perm (by ac_rfl) h4
  have h5 := Al_close (m := mm) (u := u) (f := f) h5
  have h6 : T B (R * vec 143 3 s9 (hds s.hs) * LDx d (64 * g) s.c * Bm u (512 * g) s.U * Fl f s.L * pt a (.cells [.pointer (da mm), .pointer (da d), .int .i64 g, .pointer (da u), .pointer (da f)].toArray 47) * Mg mm d g s.hs s.F) (k s9) := T.perm (by ac_rfl) h5
  have h7 := Mg_close (a := tt) (x := xx) tie2 h6
  exact T.perm (by unfold da; ac_rfl) h7
theorem LenTab_c {a d g : Nat} {s : St} (inv : Inv g s.hs s.U s.L) {k : Int → K} (hk : T B (R * Al a d g s) (k g)) :
    T B (R * Al a d g s) (ldP (Addr.add ⟨a, 0, none⟩ 0) fun x34 => nn x34 fun x35 => ldP (Addr.add x35 0) fun x37 => c_blocks_Table_Len x37 k) := by
  have hl := inv.len
  have hb := inv.big
  refine Al_open fun mm u f => ?_
  unfold da
  (repeat (first | with_reducible refine T_nn ?_ | ((with_reducible apply T_ldP); (focus rfl); (focus exact hasA); (focus rfl))))
  refine T_bring (X := Mg mm d g s.hs s.F) (by exact frmA) ?_
  refine Mg_open fun tt xx tie2 => ?_
  unfold da
  (repeat (((with_reducible apply T_ldP); (focus rfl); (focus exact hasA); (focus rfl))))
  refine T_bring (X := Tab tt d g s.hs) (by exact frmA) ?_
  refine blocks_Len_c ?_
  rw [hl]
  have h5 := Al_close (m := mm) (u := u) (f := f) hk
  have h6 : T B (R * LDx d (64 * g) s.c * Bm u (512 * g) s.U * Fl f s.L * pt a (.cells [.pointer (da mm), .pointer (da d), .int .i64 g, .pointer (da u), .pointer (da f)].toArray 47) * Mg mm d g s.hs s.F) (k g) := T.perm (by ac_rfl) h5
  have h7 := Mg_close (a := tt) (x := xx) tie2 h6
  exact T.perm (by unfold da; ac_rfl) h7
theorem NowAl_c {a d g : Nat} {s : St} (hg : g ≤ 16) {a' : Option Addr} {u' : Sl} {k : Sl × Sl × Sl × Sl × Sl × Int × Int × Bool → K}
    (hk : ∀ sl r, T B (R * Al a d g s * vec 219 8 sl (wds s.c)) (k (sl, r))) : T B (R * Al a d g s) (c_law20_World_Now (a', da d, u') k) := by
  refine Al_open fun m u f => ?_
  refine T_bring (X := LDx d (64 * g) s.c) (by exact frmA) ?_
  refine LDx_open fun la hla => ?_
  refine Now_c (by omega) fun sl r => ?_
  refine T_bring (X := LDev d (64 * g) s.c la) (by exact frmA) ?_
  refine LDx_close hla ?_
  have h4 : T B (R * vec 219 8 sl (wds s.c) * Al a d g s) (k (sl, r)) := T.perm (by ac_rfl) (hk sl r)
  have h5 := Al_close (m := m) (u := u) (f := f) h4
  exact T.perm (by ac_rfl) h5
theorem CheckWhole_c {x0 : Int} {x1 : Sl} (h0 : 0 ≤ x0) (h1 : x0 ≤ 255) (hs : Scr B x1) {kk : Bool → K} (hk : T B R (kk true)) : T B R (c_law28_CheckWhole x0 x1 kk) := by
  refine T_of (law28_CheckWhole_ok x0 x1 kk) ?_
  rw [law28_CheckWhole, Zev20]
  refine law28_awake_c ?_
  refine T_brN ?_
  refine T_brT ?_
  rw [Zev17]
  refine law28_played_c h0 h1 hs fun a d s inv pl => ?_
  generalize hg : 2 + x0.toNat % 7 = g at *
  have hg1 : 2 ≤ g := by omega
  have hg2 : g ≤ 8 := by omega
  have hl2 : s.hs.length ≤ 2 ^ 20 := by rw [inv.len]; omega
  have hl1 : 1 ≤ s.hs.length := by rw [inv.len]; omega
  (repeat (first | (with_reducible refine T_al ?_; intro _) | ((with_reducible apply T_st); (focus rfl); (focus exact updA); (focus simp); simp only [List.set, Nat.zero_add, Nat.reduceAdd])))
  rename_i b5
  refine T_brN ?_
  (repeat (first | with_reducible refine T_brT ?_ | ((with_reducible apply T_ldP); (focus rfl); (focus exact hasA); (focus rfl))))
  refine T_bring (X := Al a d g s) (.init .last) ?_
  refine Whole_good_c inv pl ?_
  (repeat (first | ((with_reducible apply T_ldP); (focus rfl); (focus exact hasA); (focus rfl)) | (with_reducible refine T_al ?_; intro _) | ((with_reducible apply T_st); (focus rfl); (focus exact updA); (focus simp); simp only [List.set, Nat.zero_add, Nat.reduceAdd])))
  rename_i b7
  refine T_bring (X := Al a d g s) (by exact frmA) ?_
  try rw [Zev12]
  refine AllTab_c inv fun s9 => ?_
  refine law07_Refs_c hl2 (Rd.vec .last) fun x10 => ?_
  refine T_drop1 (.init .last) ?_
  try rw [Zev11]
  refine T_tick ?_
  refine T_brNE (fun h => absurd rfl h) (fun _ => ?_)
  refine T_brNE (fun h => absurd rfl h) (fun _ => ?_)
  (repeat (first | ((with_reducible apply T_ldI); (focus rfl); (focus exact hasA); (focus rfl)) | ((with_reducible apply T_ldP); (focus rfl); (focus exact hasA); (focus rfl)) | ((with_reducible apply T_ldS); (focus rfl); (focus exact hasA); (focus rfl))))
  refine law28_report_c (r := rpT (totR g s g)) ?_
  (repeat (first | with_reducible refine T_chk0 ?_ | ((with_reducible apply T_chk); (focus rfl); (focus exact hasA); (focus rfl))))
  refine T_bring (X := Al a d g s) (by exact frmA) ?_
  refine NowAl_c (by omega) fun sl r => ?_
  (repeat (first | with_reducible refine T_chk0 ?_ | ((with_reducible apply T_chk); (focus rfl); (focus exact hasA); (focus rfl))))
  refine T_bring (X := Al a d g s) (by exact frmA) ?_
  refine Objects_c fun s54 => ?_
  refine ref28_Count_c inv pl (Rd.vec (by exact frmA)) (Rd.vec (by exact frmA)) (Rd.vec .last) ?_
  refine T_eqRep ?_
  refine T_brN ?_
  refine T_brT ?_
  (repeat (((with_reducible apply T_ldI); (focus rfl); (focus exact hasA); (focus rfl))))
  have hw0 : IntKind.wrap .i64 (IntKind.wrap .i64 (IntKind.wrap .i64 (512 * (rpT (totR g s g)).1) + (rpT (totR g s g)).2.2.2.2.1) + (rpT (totR g s g)).2.2.2.2.2.2) = IntKind.wrap .i64 (512 * (totR g s g).f + (totR g s g).u + (totR g s g).w + sumK (fun k => frN g s g k * clsW (k : Int)) 0) := by
    unfold rpT
    simp only [sumK, Int.add_zero]
    have wm : ∀ f : Int, IntKind.wrap .i64 (512 * IntKind.wrap .i64 f) = IntKind.wrap .i64 (512 * f) := by
      intro f
      rw [wdef f, wdef (512 * f), wdef]; split <;> split <;> split <;> omega
    rw [wm, wi_l, wi_r, Int.add_assoc, wi_l, ← Int.add_assoc, Int.add_right_comm, wi_r, Int.add_right_comm]
  rw [Zev7, Zev6]
  have hW := words_all inv pl.large
  rw [wholeR_tot inv pl.large g (by omega) (Nat.le_refl _)] at hW
  refine T_drop1 (by exact frmA : Frm _ (vec 219 8 sl (wds s.c)) _) ?_
  refine T_drop1 (by exact frmA : Frm _ (vec 3 1 s54 _) _) ?_
  refine T_drop1 (by exact frmA : Frm _ (pt b7 _) _) ?_
  rw [hw0]
  refine T_lpX (fun _ _ => R * pt b5 (.cells [.pointer (da a), .pointer (da d), nilS.v].toArray 29) * vec 141 3 x10 (hds s.hs) * Al a d g s) (fun m (z : Int × Int × Unit) => ∃ i : Nat, i ≤ 32 ∧ z.2.1 = i ∧ z.1 = IntKind.wrap .i64 (512 * (totR g s g).f + (totR g s g).u + (totR g s g).w + sumK (fun k => frN g s g k * clsW (k : Int)) i) ∧ m = 32 - i) 32 rfl ⟨0, by omega, rfl, rfl, rfl⟩ ?_
  rintro m ⟨z1, z2, u⟩ c ⟨i, p1, e1, e2, e3⟩ hc
  simp only at e1 e2
  subst e1 e2 e3
  dsimp only
  rw [Zev5, Zev4]
  have ub := @uBel_len s.U (512 * g)
  refine T_brD (fun hlt => ?_) (fun hge => ?_)
  · have hi : i < 32 := by omega
    unfold da at hc ⊢
    (repeat (((with_reducible apply T_ldP); (focus rfl); (focus exact hasA); (focus rfl))))
    refine Objects_c fun s76 => ?_
    refine ref16_Free_c (hs := s.hs) (us := uBel s.U (512 * g)) ⟨by omega, by omega⟩ hl1 hl2 (by omega) (Rd.vec (by exact frmA)) (Rd.vec .last) fun s77 => ?_
    refine T_vlen .last fun hn => ?_
    rw [ints_len, Nat.mul_one, inv.len] at hn
    refine ref06_Words_c ?_
    refine T.weak ?_
    refine T.weak ?_
    have e4 : IntKind.wrap .i64 (IntKind.wrap .i64 (512 * (totR g s g).f + (totR g s g).u + (totR g s g).w + sumK (fun k => frN g s g k * clsW (k : Int)) i) + IntKind.wrap .i64 (((s77.n : Nat) : Int) * clsW (i : Int))) = IntKind.wrap .i64 (512 * (totR g s g).f + (totR g s g).u + (totR g s g).w + sumK (fun k => frN g s g k * clsW (k : Int)) (i + 1)) := by
      rw [wi_l, wi_r, Int.add_assoc]
      congr 2
      show _ = sumK _ i + frN g s g i * clsW (i : Int)
      unfold frN
      rw [hn]
    exact hc (32 - (i + 1)) _ (by omega) ⟨i + 1, by omega, w64 (by omega) (by omega), e4, rfl⟩
  · have : i = 32 := by omega
    subst this
    unfold da at *
    (repeat (first | with_reducible refine T_nn ?_ | ((with_reducible apply T_ldP); (focus rfl); (focus exact hasA); (focus rfl))))
    refine LenTab_c inv ?_
    rw [w64 (n := (g : Int) - 1) (by omega) (by omega), ← hW, show 512 * (totR g s g).f + (totR g s g).u + (totR g s g).w + sumK (fun k => frN g s g k * clsW (k : Int)) 32 = 512 * (totR g s g).f + (totR g s g).u + (totR g s g).w + sumK (fun k => frN g s g k * clsW (k : Int)) 32 from rfl]
    rw [beq_self_eq_true]
    exact hk.weak.weak.weak
end
end
section
open Go Go.ChangeShapes Go.WideShapes Go.ChangeAt Go.RowKit
theorem own : ownKnob Tryz.prog.godebug = none := by kernel_rfl
theorem kids : Kids Tryz.prog (· < Tryz.prog.types.size) := kids_rows (by kernel_rfl) (by kernel_rfl)
theorem full : ∀ t e, t < Tryz.prog.types.size → Tryz.prog.underlying t = some (.slice e) → 0 < Tryz.prog.cellsOf e := slices_full_of Tryz.prog (by kernel_rfl)
theorem cells3 : Tryz.prog.cellsOf 3 = 1 := by kernel_rfl
section
variable {H : Type} {enc : TypeId × Value → H} {P : Program} {W W' : World} {b : Nat} {sp : Nat → Bool} {hd : Bool}
theorem carryAll : ∀ {ts : List TypeId} {vs : List Value} {ds : List (DataW H)} {ps : List MemPlace}, DataW.TrodAll enc P W b sp hd ts vs ds ps → (∀ p ∈ ps, W.sameAt W' p) → DataW.TrodAll enc P W' b sp hd ts vs ds ps
  | [], [], [], _, h, _ => h
  | _ :: _, _ :: _, _ :: _, _, ⟨_, _, ⟨n, hn⟩, h2, e⟩, hs =>
    ⟨_, _, ⟨n, DataW.trod_carry n _ _ _ hn (fun x hx => hs x (by rw [e]; exact List.mem_append_left _ hx))⟩, carryAll h2 (fun x hx => hs x (by rw [e]; exact List.mem_append_right _ hx)), e⟩
theorem int_at {fs : Array Field} {t : TypeId} {m : Nat} {cs : List Value} {x : DataW H × List MemPlace} (ht : Tryz.prog.underlying t = some (.struct fs)) (h : DataW.trod enc Tryz.prog W b sp hd m t cs = some x) (j : Nat) {f : Field}
    (hf : fs[j]? = some f) (h3 : f.type = 3) : ∃ n : Int, cs[f.offset]? = some (.int .i64 n) ∧ (Lit.int .i64 n).wf = true := by
  obtain ⟨xs, n, _, _, _, hxl, hfld⟩ := DataW.trod_struct ht h
  have hj : j < fs.size := (Array.getElem?_eq_some_iff.1 hf).1
  have h1 := hfld j f hf
  rw [List.getElem?_eq_getElem (by omega), h3] at h1
  obtain ⟨n, hn, _, hw⟩ := DataW.trod_int Tryz.underlying3 h1
  rw [cells3] at hn
  refine ⟨n, ?_, hw⟩
  have : ((cs.drop f.offset).take 1)[0]? = some (.int .i64 n) := by rw [hn]; rfl
  simpa using this
theorem post_true {f : Func} {s : ChangeSpec} {fresh handsOn again : Bool} {args : Array Value} {ds : List (DataW H)} {before : List MemPlace}
    (hW : DataW.Whole enc Tryz.prog f.params.toList s.vars false W args.toList ds [] before) (hA : DataW.TrodAll enc Tryz.prog W 0 (fun _ => true) true f.params.toList args.toList ds before)
    (hb : Below W.heap.size W W') (hv : s.vars = []) (hp : ∀ t ∈ f.params.toList, t < Tryz.prog.types.size) (hr : f.resultTypes = #[4]) (hfn : s.fn H ds = { results := [.lit (.bool true)], args := ds }) :
    s.post enc Tryz.prog f false fresh handsOn again W args (.bool true) W' := by
  have hold : ∀ p ∈ before, (fun b => decide (b < W.heap.size)) p.block = true := fun p hp => by simpa using hW.lt p hp
  have hT : ∀ sp : Nat → Bool, (∀ p ∈ before, sp p.block = true) → DataW.TrodAll enc Tryz.prog W' 0 sp true f.params.toList args.toList ds before :=
    fun sp hsp => carryAll (DataW.TrodAll.respare kids full hp hA hsp) (fun p hp => hb.same (hW.lt p hp))
  have hRes : ∀ (b : Nat) (sp : Nat → Bool) (hd : Bool), DataW.TrodAll enc Tryz.prog W' b sp hd f.resultTypes.toList ((Value.bool true).resultList f.resultTypes.size) [DataW.lit (.bool true)] [] := by
    intro b sp hd
    rw [hr]
    exact trodAll_cons_mk (shut_bool Tryz.underlying4 _) trodAll_mk0
  have hVar : ∀ sp, DataW.TrodVars enc Tryz.prog W' sp s.vars ([] : List (DataW H)) [] := fun sp => by rw [hv]; rfl
  have hlt := hW.lt
  have hfn' : s.fn H (ds ++ []) = { results := [.lit (.bool true)], args := ds } := by rw [List.append_nil]; exact hfn
  have hR : ∀ (b : Nat) (sp : Nat → Bool) (hd : Bool), DataW.TrodAll enc Tryz.prog W' b sp hd f.resultTypes.toList ((Value.bool true).resultList f.resultTypes.size) (s.fn H (ds ++ [])).results [] := by
    rw [hfn']; exact hRes
  have hAr : ∀ sp : Nat → Bool, (∀ p ∈ before, sp p.block = true) → DataW.TrodAll enc Tryz.prog W' 0 sp true f.params.toList args.toList (s.fn H (ds ++ [])).args before := by
    rw [hfn']; exact hT
  have hVr : ∀ sp, DataW.TrodVars enc Tryz.prog W' sp s.vars (s.fn H (ds ++ [])).vars [] := by
    rw [hfn']; exact hVar
  refine ⟨ds, [], before, [], before, [], hW, hR _ _ _, hAr _ hold, hVr _, World.keptBut_mono (fun p hp => ⟨hp, ?_⟩) (hb.frame (· ∈ before)), fun _ => ?_⟩
  · exact Or.inr (Or.inl hp)
  · obtain ⟨_, _, _, _, hq, hz, hn⟩ := hW
    refine ⟨ok_one (by rw [hr]) rfl (okWide_bool_mk Tryz.underlying4 _), _, _, ([] ++ before) ++ [], ⟨[] ++ before, [], trodAll_append (hAr _ (fun _ _ => rfl)) (hR _ _ _), hVr _, rfl, ?_, ?_⟩, ?_⟩
    · intro b off hp
      have hp : MemPlace.cell b off ∈ before := by simpa using hp
      rw [hb.frozen (p := ⟨b, off, none⟩) (hlt _ hp)]
      exact hz b off hp
    · intro ha
      simpa using hn ha
    · intro p hp _
      simpa using hp
end
end
section
open Go Go.ChangeShapes Go.WideShapes Go.ChangeAt Go.RowKit
theorem cells137 : Tryz.prog.cellsOf 137 = 4 := by kernel_rfl
section
variable {H : Type} {enc : TypeId × Value → H} {W : World} {b : Nat} {sp : Nat → Bool} {hd : Bool}
theorem scr_of {a : Option Addr} {len cap : Nat} {d : DataW H} {ps : List MemPlace} (h : DataW.Trod enc Tryz.prog W b sp hd 66 (.slice a len cap) d ps) : Scr W ⟨a, len, cap⟩ := by
  obtain ⟨fuel, hf⟩ := h
  rcases DataW.trod_slice Tryz.underlying66 hf with ⟨hcs, _⟩ | ⟨a', len', cap', elems, rest, n, _, hcs, _, _, _, _, hlen, hel, _, _⟩
  · simp [Value.cells] at hcs
    obtain ⟨rfl, rfl, rfl⟩ := hcs
    intro i hi
    exact absurd hi (Nat.not_lt_zero i)
  · simp [Value.cells] at hcs
    obtain ⟨rfl, rfl, rfl⟩ := hcs
    intro i hi
    refine ⟨a', rfl, ?_⟩
    have hi' : i < len := hi
    have h := hel i hi'
    rw [List.getElem?_eq_getElem (by omega), cells137] at h
    obtain ⟨cs, hc, hd⟩ := Option.bind_eq_some_iff.1 h
    obtain ⟨_, hl, hcell⟩ := World.cells?_some hc
    obtain ⟨n0, e0, _⟩ := int_at Tryz.underlying137 hd 0 rfl rfl
    obtain ⟨n1, e1, _⟩ := int_at Tryz.underlying137 hd 1 rfl rfl
    obtain ⟨n2, e2, _⟩ := int_at Tryz.underlying137 hd 2 rfl rfl
    obtain ⟨n3, e3, _⟩ := int_at Tryz.underlying137 hd 3 rfl rfl
    exact ⟨n0, n1, n2, n3, (hcell 0 (by omega)).trans e0, (hcell 1 (by omega)).trans e1, (hcell 2 (by omega)).trans e2, (hcell 3 (by omega)).trans e3⟩
theorem sat_none : Sat W emp W := ⟨⟨fun _ => none, rfl, fun _ _ h => by cases h⟩, Below.refl _ _⟩
end
end
section
open Go Go.ChangeShapes Go.WideShapes Go.ChangeAt Go.RowKit
section
variable {H : Type} {enc : TypeId × Value → H} {W : World} {b : Nat} {sp : Nat → Bool} {hd : Bool}
theorem whole {x0 : Int} {x1 : Sl} (h0 : 0 ≤ x0) (h1 : x0 ≤ 255) (hs : Scr W x1) :
    Calls Tryz.prog 7 #[.int .u8 x0, x1.v] W fun e w' => e = .returned (.bool true) ∧ Below W.heap.size W w' := by
  have h : c_law28_CheckWhole x0 x1 (fun b w' => b = true ∧ Below W.heap.size W w') W :=
    CheckWhole_c (B := W) (R := emp) h0 h1 hs (kk := fun b w' => b = true ∧ Below W.heap.size W w') (fun w hw => ⟨rfl, hw.2⟩) W sat_none
  refine Calls.mono h fun e w' ⟨x, he, hx, hb⟩ => ⟨?_, hb⟩
  rw [he, hx]
end
theorem whole_contract (H : Type) (enc : TypeId × Value → H) (W : World) (base : Nat) (args : Array Value) (ds gs : List (DataW H)) (before : List MemPlace)
    (hval : ∀ (j : Nat) t v, Tryz.f7.params[j]? = some t → args[j]? = some v → Value.okWide Tryz.prog W .any base t v)
    (hW : DataW.Whole enc Tryz.prog Tryz.f7.params.toList Rows.checkWholeSpec.vars false W args.toList ds gs before) :
    Calls Tryz.prog 7 args W fun e W' => ∃ v, e = .returned v ∧ Rows.checkWholeSpec.post enc Tryz.prog Tryz.f7 false true false false W args v W' := by
  have hW' := hW
  obtain ⟨p, q, hA0, hV, rfl, hfz, hnd⟩ := hW
  have hA : DataW.TrodAll enc Tryz.prog W 0 (fun _ => true) true Tryz.f7.params.toList args.toList ds p := hA0
  have hAk := hA
  rw [Tryz.params7] at hA hval
  obtain ⟨v0, v1, d0, d1, p0, p1, rfl, rfl, rfl, h0, h1⟩ := trodAll_two hA
  obtain ⟨rfl, rfl⟩ := trodVars_none hV
  obtain ⟨a0, rfl, rfl, rfl, w0⟩ := open_int Tryz.underlying5 (hval 0 5 v0 (by simp) (by simp)) h0
  obtain ⟨a, len, cap, rfl⟩ := okWide_slice Tryz.underlying66 (hval 1 66 v1 (by simp) (by simp))
  have hb := bounds_u8 w0
  simp only [List.append_nil] at hW'
  refine (whole (x1 := ⟨a, len, cap⟩) hb.1 hb.2 (scr_of h1)).mono fun e W' ⟨he, hg⟩ => ?_
  subst he
  exact ⟨_, rfl, post_true hW' hAk hg rfl (by rw [Tryz.params7]; decide) (by kernel_rfl) rfl⟩
set_option maxRecDepth 100000 in
theorem whole_lifted (os : Os) (started : os.Started) (H : Type) (enc : TypeId × Value → H) :
    ReturnsInHanded {} Tryz.checked os 7 .any (Rows.checkWholeSpec.pre6 enc Tryz.prog Tryz.f7 Rows.checkWholeRow.domain false) (Rows.checkWholeSpec.post enc Tryz.prog Tryz.f7 false true false false) := by
  refine returnsInHanded_of_change (C := Tryz.checked) own started (by kernel_rfl) Tryz.func7
    (ChangeSpec.witness6 (enc := enc) (C := Tryz.checked) false ⟨#[], #[.int .u8 0, .slice none 0 0], []⟩ 8 (by kernel_rfl) (by kernel_rfl) (by kernel_rfl) (by kernel_rfl)) ?_
  intro W base args ds gs before hval hW _ _
  exact whole_contract H enc W base args ds gs before hval hW
theorem wholeSaid : Rows.CheckWholeSaid :=
  OpenClaim.holds_of_wide 7 Tryz.f7 rfl rfl rfl rfl rfl rfl rfl ⟨rfl, rfl, rfl, rfl, rfl⟩ rfl rfl rfl rfl rfl (by kernel_rfl) Tryz.func7 (by kernel_rfl)
    (of_decide_eq_true (by kernel_rfl)) (by unfold Func.isWrapper; first | (rw [if_pos (by decide +kernel)]; kernel_rfl) | (rw [if_neg (by decide +kernel)]; exact ⟨rfl, rfl⟩))
    (fun os started H enc _ => whole_lifted os started H enc)
#print axioms wholeSaid
end
end Go.Proofs.YtdgcbapclnnkkaaGreat.X
