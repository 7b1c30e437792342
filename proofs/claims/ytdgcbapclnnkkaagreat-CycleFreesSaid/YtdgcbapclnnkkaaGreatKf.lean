/- Part 6 of the proof that the law holds for every input: the theorems of this part. Conditions: each theorem bears its own; the last has none. -/
import Derived.Test.YtdgcbapclnnkkaaGreatKe
import Derived.ChangeKeysEq
set_option linter.all false
set_option maxRecDepth 4000
namespace Go.Proofs.YtdgcbapclnnkkaaGreat.X
open Go
theorem wu8n (a : Nat) (h : a < 256) : IntKind.wrap .u8 (a : Int) = a := by show (a : Int) % (2 ^ 8 : Int) = a; omega
theorem wu8m (a : Nat) : IntKind.wrap .u8 (a : Int) = ((a % 256 : Nat) : Int) := by show (a : Int) % (2 ^ 8 : Int) = _; omega
theorem wu32n (a : Nat) (h : a < 4294967296) : IntKind.wrap .u32 (a : Int) = a := by rw [wu32']; omega
theorem xor32 {a b : Nat} (ha : a < 2 ^ 32) (hb : b < 2 ^ 32) : bitI .xor .u32 a b = ((a ^^^ b : Nat) : Int) := by
 show IntKind.wrap .u32 ((BitVec.ofInt 32 a ^^^ BitVec.ofInt 32 b).toNat : Int) = _
 rw [BitVec.ofInt_natCast, BitVec.ofInt_natCast, BitVec.toNat_xor, BitVec.toNat_ofNat, BitVec.toNat_ofNat, Nat.mod_eq_of_lt ha, Nat.mod_eq_of_lt hb]
 exact wu32n _ (Nat.xor_lt_two_pow ha hb)
theorem xor8 {a b : Nat} (ha : a < 2 ^ 8) (hb : b < 2 ^ 8) : bitI .xor .u8 a b = ((a ^^^ b : Nat) : Int) := by
 show IntKind.wrap .u8 ((BitVec.ofInt 8 a ^^^ BitVec.ofInt 8 b).toNat : Int) = _
 rw [BitVec.ofInt_natCast, BitVec.ofInt_natCast, BitVec.toNat_xor, BitVec.toNat_ofNat, BitVec.toNat_ofNat, Nat.mod_eq_of_lt ha, Nat.mod_eq_of_lt hb]
 exact wu8n _ (Nat.xor_lt_two_pow ha hb)
theorem and8 {a : Nat} (ha : a < 2 ^ 8) : bitI .and .u8 a 15 = ((a % 16 : Nat) : Int) := by
 show IntKind.wrap .u8 ((BitVec.ofInt 8 a &&& BitVec.ofInt 8 15).toNat : Int) = _
 rw [BitVec.ofInt_natCast, show BitVec.ofInt 8 15 = BitVec.ofNat 8 15 from rfl, BitVec.toNat_and, BitVec.toNat_ofNat, BitVec.toNat_ofNat, Nat.mod_eq_of_lt ha, Nat.mod_eq_of_lt (by decide)]
 have : a &&& 15 = a % 16 := Nat.and_two_pow_sub_one_eq_mod a 4
 rw [this]
 exact wu8n _ (by omega)
theorem Ve7 {k : IntKind} {a s : Nat} (hs : s ≤ k.bits) : shrI k a s = ((a / 2 ^ s : Nat) : Int) := by
 unfold shrI
 have : min ((s : Int)).toNat k.bits = s := by rw [Int.toNat_natCast]; omega
 have e : (2 : Int) ^ s = ((2 ^ s : Nat) : Int) := by rw [Int.natCast_pow]; rfl
 rw [this, e, Int.fdiv_eq_ediv_of_nonneg _ (Int.natCast_nonneg _)]
 rfl
theorem Vdb : ∀ i, i < 16 → tabN i < 2 ^ 32 := by decide +kernel
theorem Ve8 : ∀ i : Nat, i < 16 → crcTab.getD i 0 = ((tabN i : Nat) : Int) := by decide +kernel
theorem Vas {i : Nat} (h : i < 256) : tabI (i : Int) = ((tabN (i % 16) : Nat) : Int) := by
 unfold tabI
 rw [and8 h, Int.toNat_natCast]
 exact Ve8 _ (Nat.mod_lt _ (by omega))
theorem Vat {s b : Nat} (hs : s < 2 ^ 32) (hb : b < 256) : crcB s b = ((bit4 (bit4 (s ^^^ b)) : Nat) : Int) := by
 rw [← Vgx hb]
 unfold crcB tabB
 have h4 : shrI .u32 (s : Int) 4 = ((s / 16 : Nat) : Int) := Ve7 (k := .u32) (s := 4) (by decide)
 have hb4 : shrI .u8 (b : Int) 4 = ((b / 16 : Nat) : Int) := Ve7 (k := .u8) (s := 4) (by decide)
 rw [wu8m, xor8 (by omega) (by omega), h4, hb4]
 have l1 : s % 256 ^^^ b < 2 ^ 8 := Nat.xor_lt_two_pow (by omega) (by omega)
 rw [Vas l1]
 have l2 := Vdb ((s % 256 ^^^ b) % 16) (Nat.mod_lt _ (by omega))
 generalize tabN ((s % 256 ^^^ b) % 16) = t1 at *
 have l3 : s / 16 < 2 ^ 32 := by omega
 rw [xor32 l2 l3]
 have l4 : t1 ^^^ s / 16 < 2 ^ 32 := Nat.xor_lt_two_pow l2 l3
 generalize t1 ^^^ s / 16 = u at *
 have l5 : u % 256 ^^^ b / 16 < 2 ^ 8 := Nat.xor_lt_two_pow (by omega) (by omega)
 rw [wu8m, xor8 (by omega) (by omega), Vas l5]
 have h5 : shrI .u32 (u : Int) 4 = ((u / 16 : Nat) : Int) := Ve7 (k := .u32) (s := 4) (by decide)
 rw [h5, xor32 (Vdb _ (Nat.mod_lt _ (by omega))) (by omega)]
theorem Vdc {x : Nat} (h : x < 2 ^ 32) : bit4 x < 2 ^ 32 := Ysj (Ysj (Ysj (Ysj h)))
def bitsN : Nat → Nat → Nat
 |0, x => x
 |i + 1, x => bitN (bitsN i x)
theorem Vau {x : Nat} (h : x < 2 ^ 32) : ∀ i, bitsN i x < 2 ^ 32
 |0 => h
 |i + 1 => Ysj (Vau h i)
theorem not32 {a : Nat} (h : a < 4294967296) : notI .u32 (a : Int) = 4294967295 - (a : Int) := by
 unfold notI
 have hm : (if IntKind.signed .u32 then (-1 : Int) else IntKind.max .u32) = ((4294967295 : Nat) : Int) := by decide
 rw [hm, xor32 (by omega) (by omega)]
 have : 4294967295 ^^^ a = 4294967295 - a := by
  have h2 := BitVec.toNat_not (x := BitVec.ofNat 32 a)
  have h3 : ~~~ (BitVec.ofNat 32 a) = BitVec.ofNat 32 4294967295 ^^^ BitVec.ofNat 32 a := by
   rw [show BitVec.ofNat 32 4294967295 = BitVec.allOnes 32 from rfl, BitVec.allOnes_xor]
  rw [h3, BitVec.toNat_xor, BitVec.toNat_ofNat, BitVec.toNat_ofNat, Nat.mod_eq_of_lt (by omega), Nat.mod_eq_of_lt (by omega)] at h2
  rw [h2]
 rw [this]; omega
section
variable {B : World} {P R : SL} {t : K}
theorem Yx9 {data : Sl} {l : List Int} (hl : l.length ≤ 2 ^ 40) (hr : ∀ b ∈ l, 0 ≤ b ∧ b < 256) (hd : Rd R data 1 (l.map fun b => .int .u8 b)) {k : Int → K} (hk : T B R (k (crcMore 0 l))) : T B R (Ykm 0 data k) := by
 refine Yaq (Yv9 0 data k) ?_
 refine Ya1 hd fun hn => ?_
 simp only [Nat.mul_one, List.length_map] at hn
 (dsimp only [Yl0, Zgh0, Zgh1, Zgh2, Zgh3, Zgh4, Zgh5, Zgh6, Zgh7, Zgh8, Zgh9, Zgh10, Zgh11, Zgh12, Zgh13, Zgh14, Zgh15])
 have h0 : IntKind.wrap .u32 (4294967295 - 0) = notI .u32 0 := by rw [show (0 : Int) = ((0 : Nat) : Int) from rfl, not32 (by decide)]; rfl
 rw [h0]
 refine Ycz (fun _ _ => R) (fun n (s : Int × Int × Unit) => ∃ i v : Nat, i ≤ l.length ∧ s.2.1 = i ∧ s.1 = v ∧ v < 4294967296 ∧ s.1 = (l.take i).foldl crcB (notI .u32 0) ∧ n = l.length - i) l.length rfl ⟨0, 4294967295, by omega, rfl, by rw [show (0 : Int) = ((0 : Nat) : Int) from rfl, not32 (by decide)]; rfl, by omega, rfl, by omega⟩ ?_
 rintro n ⟨s1, s2, u⟩ c ⟨i, v, hi, h1, h2, hv, h3, h4⟩ hc
 simp only at h1 h2 h3
 subst h1 h4
 dsimp only
 (repeat' (with_reducible refine Yai (fun _ => ?_) (fun _ => ?_)))
 ·rename_i hlt
  have hlt' : i < l.length := by omega
  refine Yej hd (by omega) (n := l[i]) (by simp [hlt']) ?_
  obtain ⟨b, hb⟩ := Int.eq_ofNat_of_zero_le (hr _ (List.getElem_mem hlt')).1
  have hb2 := (hr _ (List.getElem_mem hlt')).2
  have hnx := hc (l.length - (i + 1)) (crcB s1 l[i], IntKind.wrap .i64 ((i : Int) + 1), ()) (by omega)
  rw [hb] at hb2 hnx ⊢
  subst h2
  rw [Vat (by omega) (by omega)] at hnx
  have hx : v ^^^ b < 2 ^ 32 := Nat.xor_lt_two_pow (by omega) (by omega)
  try (dsimp only [Yl0, Zgh0, Zgh1, Zgh2, Zgh3, Zgh4, Zgh5, Zgh6, Zgh7, Zgh8, Zgh9, Zgh10, Zgh11, Zgh12, Zgh13, Zgh14, Zgh15])
  rw [wu32n b (by omega), xor32 (by omega) (by omega)]
  refine Ycz (fun _ _ => R) (fun n (s : Int × Int × Unit) => ∃ j : Nat, j ≤ 8 ∧ s.2.1 = j ∧ s.1 = ((bitsN j (v ^^^ b) : Nat) : Int) ∧ n = 8 - j) 8 rfl ⟨0, by omega, rfl, rfl, rfl⟩ ?_
  rintro n ⟨q1, q2, u⟩ c2 ⟨j, hj, e1, e2, e3⟩ hc2
  simp only at e1 e2
  subst e1 e2 e3
  dsimp only
  have hlt2 := Vau hx j
  have hnx2 := hc2 (8 - (j + 1)) (((bitsN (j + 1) (v ^^^ b) : Nat) : Int), IntKind.wrap .i64 ((j : Int) + 1), ())
  (repeat' (first | with_reducible refine Yai (fun _ => ?_) (fun _ => ?_) | with_reducible refine Ybr (fun _ => ?_) (fun _ => ?_)))
  ·rename_i hj8 hodd
   have e : ((bitsN (j + 1) (v ^^^ b) : Nat) : Int) = bitI .xor .u32 (IntKind.wrap .u32 (Int.tdiv ((bitsN j (v ^^^ b) : Nat) : Int) 2)) 3988292384 := by
    rw [Int.tdiv_eq_ediv_of_nonneg (by omega), show ((bitsN j (v ^^^ b) : Nat) : Int) / 2 = ((bitsN j (v ^^^ b) / 2 : Nat) : Int) by omega, wu32n _ (by omega), show (3988292384 : Int) = ((3988292384 : Nat) : Int) from rfl, xor32 (by omega) (by omega)]
    rw [Int.tmod_eq_emod_of_nonneg (by omega)] at hodd
    show ((bitN (bitsN j (v ^^^ b)) : Nat) : Int) = _
    unfold bitN
    rw [if_pos (by omega)]
   rw [← e]
   exact hnx2 (by omega) ⟨j + 1, by omega, w64 (by omega) (by omega), rfl, rfl⟩
  ·rename_i hj8 hodd
   have e : ((bitsN (j + 1) (v ^^^ b) : Nat) : Int) = IntKind.wrap .u32 (Int.tdiv ((bitsN j (v ^^^ b) : Nat) : Int) 2) := by
    rw [Int.tdiv_eq_ediv_of_nonneg (by omega), show ((bitsN j (v ^^^ b) : Nat) : Int) / 2 = ((bitsN j (v ^^^ b) / 2 : Nat) : Int) by omega, wu32n _ (by omega)]
    rw [Int.tmod_eq_emod_of_nonneg (by omega)] at hodd
    show ((bitN (bitsN j (v ^^^ b)) : Nat) : Int) = _
    unfold bitN
    rw [if_neg (by omega), Nat.xor_zero]
   rw [← e]
   exact hnx2 (by omega) ⟨j + 1, by omega, w64 (by omega) (by omega), rfl, rfl⟩
  ·have : j = 8 := by omega
   subst this
   refine hnx ⟨i + 1, bit4 (bit4 (v ^^^ b)), by omega, w64 (by omega) (by omega), rfl, Vdc (Vdc hx), ?_, rfl⟩
   simp only
   rw [List.take_succ_eq_append_getElem hlt', List.foldl_append, ← h3, hb]
   show _ = crcB v b
   rw [Vat (by omega) (by omega)]
 ·have : i = l.length := by omega
  subst this
  rw [List.take_length] at h3
  have e : IntKind.wrap .u32 (4294967295 - s1) = crcMore 0 l := by
   unfold crcMore
   rw [← h3, h2, not32 hv, wu32']; omega
  try (dsimp only [Yl0, Zgh0, Zgh1, Zgh2, Zgh3, Zgh4, Zgh5, Zgh6, Zgh7, Zgh8, Zgh9, Zgh10, Zgh11, Zgh12, Zgh13, Zgh14, Zgh15])
  rw [e]
  exact hk
theorem Vdd (l : List Int) (hl : ∀ w ∈ l, 0 ≤ w ∧ w < 18446744073709551616) : ∀ b ∈ l.flatMap byteL, 0 ≤ b ∧ b < 256 := by
 intro b hb
 obtain ⟨w, hw, hb⟩ := List.mem_flatMap.1 hb
 unfold byteL at hb
 obtain ⟨i, hi, rfl⟩ := List.mem_map.1 hb
 unfold byteI
 have : ∀ x : Int, 0 ≤ IntKind.wrap .u8 x ∧ IntKind.wrap .u8 x < 256 := fun x => by show 0 ≤ x % (2 ^ 8 : Int) ∧ x % (2 ^ 8 : Int) < 256; omega
 exact this _
theorem Ve9 {w i : Nat} (hi : i < 8) : byteI (w : Int) i = ((w / 256 ^ i % 256 : Nat) : Int) := by
 unfold byteI
 rw [Ve7 (k := .u64) (s := 8 * i) (by show 8 * i ≤ 64; omega), wu8m]
 congr 2
 rw [show 256 = 2 ^ 8 from rfl, ← Nat.pow_mul]
theorem Ywa {x : Sl} {l : List Int} (hl : l.length ≤ 2 ^ 20) (hr : ∀ w ∈ l, 0 ≤ w ∧ w < 18446744073709551616) (hx : Rd R x 1 (l.map fun b => .int .u64 b)) {k : Sl → K}
  (hk : ∀ s, T B (R * vec 5 1 s ((l.flatMap byteL).map fun b => .int .u8 b)) (k s)) : T B R (Yi0 x k) := by
 refine Yaq (Ytp x k) ?_
 refine Ya1 hx fun hn => ?_
 simp only [Nat.mul_one, List.length_map] at hn
 refine Ydh (E := 5) (sz := 1) (s := ⟨none, 0, 0⟩) rfl rfl ?_
 (dsimp only [Ysi, Zgi0, Zgi1, Zgi2, Zgi3, Zgi4, Zgi5, Zgi6, Zgi7, Zgi8, Zgi9, Zgi10, Zgi11, Zgi12, Zgi13, Zgi14])
 refine Ycz (fun _ s => R * vec 5 1 s.1 (((l.take s.2.1.toNat).flatMap byteL).map fun b => .int .u8 b))
  (fun n (s : Sl × Int × Unit) => ∃ i : Nat, i ≤ l.length ∧ s.2.1 = i ∧ n = l.length - i) l.length rfl ⟨0, by omega, rfl, by omega⟩ ?_
 rintro n ⟨s1, s2, u⟩ c ⟨i, hi, h1, h2⟩ hc
 simp only at h1
 subst h1 h2
 simp only [Int.toNat_natCast]
 (repeat' (with_reducible refine Yai (fun _ => ?_) (fun _ => ?_)))
 ·rename_i hlt
  have hlt' : i < l.length := by omega
  refine Yej hx.init (by omega) (n := l[i]) (by simp [hlt']) ?_
  obtain ⟨w, hw⟩ := Int.eq_ofNat_of_zero_le (hr _ (List.getElem_mem hlt')).1
  have hw2 := (hr _ (List.getElem_mem hlt')).2
  rw [hw] at hw2 ⊢
  refine Ycz (fun _ s => R * vec 5 1 s.1 (((l.take i).flatMap byteL ++ (List.range s.2.2.1.toNat).map (byteI (w : Int))).map fun b => .int .u8 b))
   (fun n (s : Sl × Int × Int × Unit) => ∃ j : Nat, j ≤ 8 ∧ s.2.2.1 = j ∧ s.2.1 = ((w / 256 ^ j : Nat) : Int) ∧ n = 8 - j) 8 (by simp) ⟨0, by omega, rfl, by simp, by omega⟩ ?_
  rintro n ⟨s1, q2, q3, u⟩ c' ⟨j, hj, h1, h2, h3⟩ hc'
  simp only at h1 h2
  subst h1 h2 h3
  simp only [Int.toNat_natCast]
  (repeat' (first | (with_reducible refine Ya7 ?_; intro _) | with_reducible refine Yai (fun _ => ?_) (fun _ => ?_)))
  ·rename_i hj8
   have hj8 : j < 8 := by omega
   have hdl : w / 256 ^ j ≤ w := Nat.div_le_self _ _
   have e1 : IntKind.wrap .u8 (Int.tmod ((w / 256 ^ j : Nat) : Int) 256) = byteI (w : Int) j := by
    rw [Ve9 hj8]
    generalize w / 256 ^ j = q
    rw [Int.tmod_eq_emod_of_nonneg (by omega), show (q : Int) % 256 = ((q % 256 : Nat) : Int) by omega, wu8n _ (by omega)]
   have e2 : IntKind.wrap .u64 (Int.tdiv ((w / 256 ^ j : Nat) : Int) 256) = ((w / 256 ^ (j + 1) : Nat) : Int) := by
    rw [Nat.pow_succ, ← Nat.div_div_eq_div_mul]
    generalize w / 256 ^ j = q at hdl ⊢
    rw [Int.tdiv_eq_ediv_of_nonneg (by omega), show (q : Int) / 256 = ((q / 256 : Nat) : Int) by omega, wu64 (by omega) (by omega)]
   rw [e1]
   refine Yk9 (new := [.int .u8 (byteI (w : Int) j)]) Vf9 rfl rfl ?_ fun s' => ?_
   ·have := Yn4 (l.take i)
    simp only [List.length_map, List.length_append, List.length_range, List.length_take, Nat.div_one] at this ⊢
    omega
   ·rw [e2]
    refine T.perm ?_ (hc' (8 - (j + 1)) (s', ((w / 256 ^ (j + 1) : Nat) : Int), IntKind.wrap .i64 ((j : Int) + 1), ()) (by omega) ⟨j + 1, by omega, w64 (by omega) (by omega), rfl, rfl⟩)
    have e : (IntKind.wrap .i64 ((j : Int) + 1)).toNat = j + 1 := by rw [w64 (by omega) (by omega)]; omega
    simp only [e, List.range_succ, List.map_append, List.map_cons, List.map_nil, List.append_assoc]
  ·have : j = 8 := by omega
   subst this
   refine T.perm ?_ (hc (l.length - (i + 1)) (s1, IntKind.wrap .i64 (i + 1), ()) (by omega) ⟨i + 1, by omega, w64 (by omega) (by omega), rfl⟩)
   have e : (IntKind.wrap .i64 ((i : Int) + 1)).toNat = i + 1 := by rw [w64 (by omega) (by omega)]; omega
   simp only [e]
   rw [List.take_succ_eq_append_getElem hlt', List.flatMap_append, hw]
   simp [byteL]
 ·have : i = l.length := by omega
  subst this
  simp only [List.take_length]
  exact hk s1
theorem Yqh {n p : Int} (h0 : 0 ≤ n) (h1 : n < 4294967296) {k : Int → K} (hk : T B R (k (sealI n p))) : T B R (Yhc n p k) := by
 refine Yaq (Yv8 n p k) ?_
 (repeat ((with_reducible refine Ya7 ?_; intro _)))
 rename_i b
 rw [wu64 (n := n) h0 (by omega)]
 have hp : 0 ≤ IntKind.wrap .u64 p ∧ IntKind.wrap .u64 p < 18446744073709551616 := by
  have : IntKind.wrap .u64 p = p % 18446744073709551616 := by
   unfold IntKind.wrap
   simp only [IntKind.bits, IntKind.signed, Bool.false_and, Bool.false_eq_true, if_false]
   rfl
  rw [this]; omega
 have hr : ∀ w ∈ [n, IntKind.wrap .u64 p], 0 ≤ w ∧ w < 18446744073709551616 := by
  intro w hw
  simp only [List.mem_cons, List.not_mem_nil, or_false] at hw
  rcases hw with rfl | rfl
  ·omega
  ·exact hp
 refine Yaq (Yto _ _) ?_
 refine Ywa (x := ⟨some ⟨b, 0, none⟩, 2, 2⟩) (l := [n, IntKind.wrap .u64 p]) (by simp) hr (Rd.one Has.last rfl (Nat.le_refl _)) fun s => ?_
 refine Yx9 (l := [n, IntKind.wrap .u64 p].flatMap byteL) (by rw [Yn4]; simp) (Vdd _ hr) (Rd.vec Frm.last) ?_
 (dsimp only [Ysh, Zgg0, Zgg1])
 (dsimp only [Yuo, Zgf0, Zgf1])
 have hc := Yu6 [n, IntKind.wrap .u64 p]
 rw [show crcMore 0 ([n, IntKind.wrap .u64 p].flatMap byteL) = crcW [n, IntKind.wrap .u64 p] from rfl]
 unfold sealI at hk
 rw [wu64 (n := crcW _) (by omega) (by omega), wu64 (n := crcW _ * 4294967296) (by omega) (by omega), Int.mul_comm, Int.add_comm, wu64 (n := n + 4294967296 * crcW _) (by omega) (by omega)]
 exact hk.weak.weak
theorem Yya {w p : Int} (hw : 0 ≤ w ∧ w < 18446744073709551616) {k : Int × Bool → K} (hk : T B R (k (openI w p))) : T B R (Ykj w p k) := by
 refine Yaq (Yv7 w p k) ?_
 unfold openI at hk
 (dsimp only [Yun, Zgc0, Zgc1, Zgc2, Zgc3])
 have e : IntKind.wrap .u32 (Int.tmod w 4294967296) = w % 4294967296 := by rw [Int.tmod_eq_emod_of_nonneg hw.1, wu32']; omega
 rw [e]
 refine Yqh (by omega) (by omega) ?_
 refine Ybr (fun h => ?_) (fun h => ?_)
 ·rw [if_pos h] at hk; exact hk
 ·rw [if_neg h] at hk; exact hk
end
section
set_option maxHeartbeats 1000000
def sumD (b : Int) : List (Int × Int) → Int | [] => 0 | p :: l => p.2 / b + sumD b l
theorem Yow {l l' : List (Int × Int)} (h : l.Perm l') : sumI l = sumI l' := by
 induction h with
 |nil => rfl
 |cons x _ ih => simp only [sumI, ih]
 |swap x y l => simp only [sumI]; omega
 |trans _ _ h1 h2 => exact h1.trans h2
theorem Yox {b : Int} {l l' : List (Int × Int)} (h : l.Perm l') : sumD b l = sumD b l' := by
 induction h with
 |nil => rfl
 |cons x _ ih => simp only [sumD, ih]
 |swap x y l => simp only [sumD]; omega
 |trans _ _ h1 h2 => exact h1.trans h2
theorem Cov.nodup {F : RF} {l : List (Int × Int)} (h : Cov F l) : l.Nodup :=
 List.Pairwise.of_map (·.1) (fun a b h e => h (by rw [e])) h.1
theorem Cov.perm {F : RF} {l l' : List (Int × Int)} (h : Cov F l) (h' : Cov F l') : l.Perm l' :=
 (List.perm_ext_iff_of_nodup h.nodup h'.nodup).2 fun p => by
  obtain ⟨a, b⟩ := p
  rw [← h.2, ← h'.2]
theorem Cov.pick {F : RF} {l : List (Int × Int)} (h : Cov F l) {b q : Int} (hb : F b = some q) : ∃ r, l.Perm ((b, q) :: r) ∧ Cov (delF F b) r := by
 have hm := (h.2 b q).1 hb
 refine ⟨l.erase (b, q), List.perm_cons_erase hm, ?_, fun key v => ?_⟩
 ·have hn := h.1
  rw [((List.perm_cons_erase hm).map (·.1)).nodup_iff] at hn
  simp only [List.map_cons, List.nodup_cons] at hn
  exact hn.2
 ·unfold delF
  rw [List.Nodup.mem_erase_iff h.nodup, ← h.2]
  have hn := h.1
  rw [((List.perm_cons_erase hm).map (·.1)).nodup_iff] at hn
  simp only [List.map_cons, List.nodup_cons] at hn
  by_cases e : key = b
  ·rw [if_pos e]
   constructor
   ·intro h; cases h
   ·rintro ⟨h1, h2⟩
    rw [e, hb] at h2
    simp only [Option.some.injEq] at h2
    exact absurd (by rw [e, h2]) h1
  ·rw [if_neg e]
   constructor
   ·intro hk; exact ⟨fun he => e (by simp only [Prod.mk.injEq] at he; exact he.1), hk⟩
   ·exact fun h => h.2
/-- the runs behind a taking -/
theorem Cov.take {lim : Int} {F : RF} (ok : RunsOk lim F) {l l' : List (Int × Int)} {b n q : Int} (h : Cov F l) (hb : F b = some q) (hn : 1 ≤ n) (hq : n ≤ q) (h' : Cov (takeF F b n q) l') :
  sumI l' = sumI l - n ∧ sumD n l' = sumD n l - 1 := by
 obtain ⟨r, hp, hr⟩ := h.pick hb
 have hrng := ok.rng _ _ hb
 by_cases hlt : n < q
 ·have hcov : Cov (takeF F b n q) ((b + n, q - n) :: r) := by
   have hnot : (b + n) ∉ r.map (·.1) := by
    intro hm
    obtain ⟨p, hp2, he⟩ := List.mem_map.1 hm
    have h2 := (hr.2 p.1 p.2).2 hp2
    obtain ⟨_, h3⟩ := Yr3 h2
    rw [he] at h3
    have := ok.sep _ _ _ _ hb h3 (by omega)
    omega
   refine ⟨by rw [List.map_cons, List.nodup_cons]; exact ⟨hnot, hr.1⟩, fun key v => ?_⟩
   unfold takeF
   rw [if_pos hlt]
   unfold updF
   rw [List.mem_cons]
   by_cases e : key = b + n
   ·rw [if_pos e]
    constructor
    ·intro h; left; simp only [Option.some.injEq] at h; rw [e, h]
    ·rintro (h | h)
     ·simp only [Prod.mk.injEq] at h; rw [h.2]
     ·exact absurd (List.mem_map.2 ⟨_, h, e⟩) hnot
   ·rw [if_neg e, hr.2]
    constructor
    ·exact .inr
    ·rintro (h | h)
     ·simp only [Prod.mk.injEq] at h; exact absurd h.1 e
     ·exact h
  have hp2 := h'.perm hcov
  rw [Yow hp2, Yox hp2, Yow hp, Yox hp]
  simp only [sumI, sumD]
  refine ⟨by omega, ?_⟩
  have : (q - n) / n = q / n - 1 := by
   rw [show q - n = q + (-1) * n by omega, Int.add_mul_ediv_right _ _ (by omega)]; omega
  omega
 ·have hqn : q = n := by omega
  have hcov : Cov (takeF F b n q) r := by unfold takeF; rw [if_neg hlt]; exact hr
  have hp2 := h'.perm hcov
  rw [Yow hp2, Yox hp2, Yow hp, Yox hp]
  simp only [sumI, sumD, hqn]
  refine ⟨by omega, ?_⟩
  rw [Int.ediv_self (by omega)]; omega
theorem Cov.sub {F : RF} {l : List (Int × Int)} (h : Cov F l) : Sub F l := ⟨h.1, fun p hp => (h.2 p.1 p.2).2 hp⟩
end
section
set_option maxHeartbeats 1000000
def fits (g : Nat) (o : Ob) : Prop := oSize o ≠ 0 ∧ oSize o ≤ ((g : Int) - 1) * 512
instance (g : Nat) (o : Ob) : Decidable (fits g o) := by unfold fits; infer_instance
def kN (o : Ob) : Nat := (kOf (oSize o)).1.toNat
def valS (L : Nat → List Int) (k : Nat) (sn : List (Int × Int)) : Int := (accL L k 4).length + sumI sn * cn k
def val (g : Nat) (L : Nat → List Int) (o : Ob) (sn : List (Int × Int)) : Int := if fits g o then (if (kOf (oSize o)).2 = true then valS L (kN o) sn else sumD (oBlocks o) sn) else 0
theorem Cov.rng {lim : Int} {F : RF} (ok : RunsOk lim F) {sn : List (Int × Int)} (h : Cov F sn) : ∀ p ∈ sn, 1 ≤ p.2 := fun p hp => (ok.rng _ _ ((h.2 p.1 p.2).2 hp)).2.1
section
variable {B : World} {P R : SL} {t : K}
end
end
section
set_option maxHeartbeats 1000000
def c0 (g : Nat) : List Int := wrH (List.replicate (8 * (64 * g)) 0) 1 (List.replicate (g - 1) (0, 0, 0))
def st0 (g : Nat) (F : RF) : St := ⟨hs0 g, F, c0 g, fun _ => false, fun _ => []⟩
theorem tells0 {g : Nat} (h : 2 ≤ g) (h2 : g ≤ 2 ^ 20) : Tells (c0 g) (hs0 g) := by
 refine ⟨by unfold hs0; rw [List.getElem?_replicate]; rw [if_pos (by omega)], fun b hb h' hh => ?_⟩
 unfold hs0 at hh
 rw [List.getElem?_replicate] at hh
 split at hh
 ·rename_i hlt
  simp only [Option.some.injEq] at hh
  subst hh
  have e : getI (c0 g) (256 + b) = benc b (0, 0, 0) := by
   unfold getI
   rw [if_neg (by omega)]
   have e2 : (256 + (b : Int)).toNat = 256 + b := by omega
   rw [e2, List.getD_eq_getElem?_getD]
   unfold c0
   rw [Yhs, if_neg (by simp; omega), List.getElem?_replicate, if_pos (by omega)]
   simp only [Option.map_some, Option.getD_some]
   congr 1; omega
  rw [e]
  exact Vcm (.inl rfl)
 ·cases hh
section
variable {B : World} {P R : SL} {t : K}
theorem Vgy {n : Nat} (h1 : 2 ≤ n) (h2 : n ≤ 2 ^ 20) {kk : ((Option Addr × (Option Addr × Sl)) × Bool) → K} (hk : ∀ a d F, T B (R * Al a d n (st0 n F)) (kk ((da a, (da d, nilS)), true))) : T B R (Yiq n kk) := by
 refine Yaq (Yts _ kk) ?_
 (repeat (first | ((with_reducible apply Yaf); (focus rfl); (focus exact hasA); (focus rfl)) | (with_reducible refine Ya7 ?_; intro _) | ((with_reducible apply Ybc); (focus rfl); (focus exact updA); (focus simp); simp only [List.set, Nat.zero_add, Nat.reduceAdd])))
 rename_i b1 b2
 refine Yp5 (by omega) (by omega) ?_
 refine Vcu (n := 64 * n) (by omega) (by omega) fun d => ?_
 unfold da
 skip
 (dsimp only [Ysm, Zgp0, Zgp1, Zgp2, Zgp3, Zgp4, Zgp5, Zgp6, Zgp7, Zgp8, Zgp9, Zgp10, Zgp11, Zgp12, Zgp13])
 simp only [Option.isNone_some]
 (repeat (first | with_reducible refine Yau ?_ | ((with_reducible apply Yaf); (focus rfl); (focus exact hasA); (focus rfl))))
 refine Yrr h1 h2 rfl fun la' hp => ?_
 (repeat' (first | ((with_reducible apply Yaf); (focus rfl); (focus exact hasA); (focus rfl)) | ((with_reducible apply Yaj); (focus rfl); (focus exact hasA); (focus rfl)) | ((with_reducible apply Ybc); (focus rfl); (focus exact updA); (focus simp); simp only [List.set, Nat.zero_add, Nat.reduceAdd]) | with_reducible refine Yar (fun _ => ?_) (fun _ => ?_)))
 ·rename_i h; exact absurd rfl h
 have ht := tells0 h1 h2
 have hp' : Pst (64 * n) ((256 + ((1 : Nat) : Int)) / 8).toNat (((256 + ((1 : Nat) : Int)) + (List.replicate (n - 1) ((0, 0, 0) : Hd)).length - 1) / 8 + 1).toNat (wrH (List.replicate (8 * (64 * n)) 0) 1 (List.replicate (n - 1) (0, 0, 0))) (List.replicate (8 * (64 * n)) 0) la' := by
  rw [List.length_replicate, show (((256 + ((1 : Nat) : Int)) + ((n - 1 : Nat) : Int) - 1) / 8 + 1) = ((257 : Int) + (n - 1) - 1) / 8 + 1 by omega]; exact hp
 refine Yg6 (HLs.put rfl (fun _ _ _ => rfl) hp') ?_
 refine Yzn (g := n) h1 h2 ht fun m F => ?_
 (repeat' (first | with_reducible refine Yal ?_ | ((with_reducible apply Yaj); (focus rfl); (focus exact hasA); (focus rfl)) | ((with_reducible apply Ybc); (focus rfl); (focus exact updA); (focus simp); simp only [List.set, Nat.zero_add, Nat.reduceAdd]) | with_reducible refine Yar (fun _ => ?_) (fun _ => ?_)))
 ·rename_i h; exact absurd rfl h
 simp only [da, Option.isNone_some]
 (repeat (with_reducible refine Yau ?_))
 refine Yzt (g := n) (d := d) (m := m) h1 h2 fun a => ?_
 (repeat' (first | with_reducible refine Yak ?_ | ((with_reducible apply Yaj); (focus rfl); (focus exact hasA); (focus rfl)) | ((with_reducible apply Ybc); (focus rfl); (focus exact updA); (focus simp); simp only [List.set, Nat.zero_add, Nat.reduceAdd]) | with_reducible refine Ybr (fun _ => ?_) (fun _ => ?_) | with_reducible refine Yfh ?_))
 ·simp only [da, Option.isNone_some, Bool.not_false]
  (repeat (first | with_reducible refine Yam ?_ | with_reducible refine Yau ?_))
  refine Yaa (X := Al a d n (st0 n F)) .last ?_
  refine Ycu fun m2 u f => ?_
  unfold da
  (repeat (first | with_reducible refine Ybe ?_ | ((with_reducible apply Yaj); (focus rfl); (focus exact hasA); (focus rfl)) | ((with_reducible apply Ybc); (focus rfl); (focus exact updA); (focus simp); simp only [List.set, Nat.zero_add, Nat.reduceAdd]) | ((with_reducible apply Ycm); (focus rfl); (focus exact hasA); (focus rfl))))
  simp only [Option.isNone_some, Bool.not_false]
  skip
  have h3 := Yax (m := m2) (u := u) (f := f) (hk a d F)
  refine Yaz (n := nilS) (by rw [Yay]) (by exact hasA) rfl ?_
  refine Yac (by exact frmA : Frm _ (pt b1 (.cells [Value.pointer (some ⟨a, 0, none⟩), .pointer (some ⟨d, 0, none⟩), .slice none 0 0].toArray 29)) _) ?_
  refine Yac (by exact frmA : Frm _ (pt b2 (.cells [Value.int .i64 n].toArray 43)) _) ?_
  exact T.perm (by unfold da; ac_rfl) h3
 ·rename_i h; exact absurd rfl h
theorem Yl1 {a : Addr} {kd : IntKind} {n : Int} {k : Int → K} (h : B.cell? a = some (.int kd n)) (ht : T B P (k n)) : T B P (ldI kd a k) := by
 intro w hw
 have hlt : a.block < B.heap.size := by
  unfold World.cell? at h
  cases hh : B.heap[a.block]? with
  |none => rw [hh] at h; cases h
  |some o => exact (Array.getElem?_eq_some_iff.1 hh).1
 exact ⟨n, by rw [hw.2.cell hlt]; exact h, ht w hw⟩
end
end
section
set_option maxHeartbeats 1000000
section
variable {B : World} {P R : SL} {t : K}
theorem Ylq {o : Ob} {kk : Int → K} (hk : T B R (kk (oSize o))) : T B R (Yft o kk) := by
 refine Yaq (Yv1 o kk) ?_
 (repeat' (first | with_reducible refine Yal ?_ | ((with_reducible apply Yaf); (focus rfl); (focus exact hasA); (focus rfl)) | (with_reducible refine Ya7 ?_; intro _) | with_reducible refine Yai (fun _ => ?_) (fun _ => ?_)))
 all_goals (
  refine Yac .last ?_
  first
  |(have e : oSize o = 0 := if_neg (fun h : oRight o => by unfold oRight at h; omega)
    rw [e] at hk; exact hk)
  |(have e : oSize o = 1 + o.1 + o.2 := if_pos (show oRight o by unfold oRight; omega)
    rw [w64 (n := 1 + o.1) (by omega) (by omega), w64 (by omega) (by omega), ← e]
    exact hk))
end
end
section
variable {B : World} {P R : SL} {t : K}
end
theorem Vgz : Kd Tryz.prog 100 219 8 := ⟨by kernel_rfl, by kernel_rfl, by kernel_rfl, by kernel_rfl, by kernel_rfl, by decide +kernel, by decide +kernel⟩
section
variable {B : World} {P R : SL} {t : K}
theorem Ytu {a : Int} {o : Ob} {k : Int → K} (hk : T B R (k (oenc a o))) : T B R (Yho o a k) := by
 refine Yaq (Ysg o a k) ?_
 (repeat (first | ((with_reducible apply Yaf); (focus rfl); (focus exact hasA); (focus rfl)) | (with_reducible refine Ya7 ?_; intro _)))
 refine Ylq ?_
 (repeat' (first | ((with_reducible apply Yaf); (focus rfl); (focus exact hasA); (focus rfl)) | with_reducible refine Ybr (fun _ => ?_) (fun _ => ?_)))
 ·rename_i h
  (refine Yek hk (by intro t h; repeat (first | exact h | refine T.weak ?_)) ?_)
  unfold oenc; exact if_pos h
 ·rename_i h
  have h' : oSize o ≠ 0 := h
  have hr : oRight o := by
   by_cases hr : oRight o
   ·exact hr
   ·unfold oSize at h'; rw [if_neg hr] at h'; exact absurd rfl h'
  unfold oRight at hr
  try (dsimp only [Yqf, Zgd0, Zgd1, Zgd2, Zgd3, Zgd4])
  have hn : 0 ≤ oNum o ∧ oNum o < 4294967296 := by unfold oNum; omega
  have e : IntKind.wrap .u32 (IntKind.wrap .i64 (IntKind.wrap .i64 (165 + IntKind.wrap .i64 (256 * o.1)) + IntKind.wrap .i64 (16384 * o.2))) = oNum o := by
   rw [w64 (n := 256 * o.1) (by omega) (by omega), w64 (n := 16384 * o.2) (by omega) (by omega), w64 (n := 165 + 256 * o.1) (by omega) (by omega), w64 (by omega) (by omega), wu32']
   unfold oNum at hn ⊢; omega
  rw [e]
  refine Yqh hn.1 hn.2 ?_
  (refine Yek hk (by intro t h; repeat (first | exact h | refine T.weak ?_)) ?_)
  unfold oenc; exact if_neg h'
theorem Ytv {a w : Int} (hw : 0 ≤ w ∧ w < 18446744073709551616) {k : Ob × Int → K} (hk : T B R (k (odec a w))) : T B R (Yhn a w k) := by
 refine Yaq (Yse a w k) ?_
 (repeat ((with_reducible refine Ya7 ?_; intro _)))
 try (dsimp only [Yqe, Zfy0, Zfy1, Zfy2, Zfy3, Zfy4, Zfy5, Zfy6, Zfy7, Zfy8, Zfy9, Zfy10, Zfy11])
 refine Yya hw ?_
 unfold odec at hk
 unfold openI
 split
 ·rename_i ho
  rw [if_pos ho] at hk
  skip
  have hm : 0 ≤ w % 4294967296 ∧ w % 4294967296 < 4294967296 := by omega
  generalize hxw : w % 4294967296 = x at *
  have e1 : IntKind.wrap .i64 (Int.tmod (IntKind.wrap .u32 (Int.tdiv x 256)) 64) = (onum x).1 := by
   show _ = x / 256 % 64
   rw [Int.tdiv_eq_ediv_of_nonneg hm.1, wu32', Int.tmod_eq_emod_of_nonneg (by omega), w64 (by omega) (by omega)]; omega
  have e2 : IntKind.wrap .i64 (Int.tmod (IntKind.wrap .u32 (Int.tdiv x 16384)) 32768) = (onum x).2 := by
   show _ = x / 16384 % 32768
   rw [Int.tdiv_eq_ediv_of_nonneg hm.1, wu32', Int.tmod_eq_emod_of_nonneg (by omega), w64 (by omega) (by omega)]; omega
  try rw [e1, e2]
  refine Yfh ?_
  (repeat (first | with_reducible refine Yal ?_ | ((with_reducible apply Yaf); (focus rfl); (focus exact hasA); (focus rfl)) | (with_reducible refine Ya7 ?_; intro _) | ((with_reducible apply Ybc); (focus rfl); (focus exact updA); (focus simp); simp only [List.set, Nat.zero_add, Nat.reduceAdd])))
  refine Ylq ?_
  (repeat' (first | with_reducible refine Yal ?_ | ((with_reducible apply Yaf); (focus rfl); (focus exact hasA); (focus rfl)) | ((with_reducible apply Ybc); (focus rfl); (focus exact updA); (focus simp); simp only [List.set, Nat.zero_add, Nat.reduceAdd]) | with_reducible refine Ybr (fun _ => ?_) (fun _ => ?_)))
  ·rename_i h0
   have : ¬ oenc a (onum x) = w := by
    intro h
    have h1 : oenc a (onum x) = 0 := if_pos h0
    rw [h1] at h; subst h
    have hx0 : x = 0 := by omega
    subst hx0
    exact absurd h0 (by decide)
   (refine Yek hk (by intro t h; repeat (first | exact h | refine T.weak ?_)) ?_)
   exact if_neg this
  ·refine Ytu ?_
   (repeat' (first | ((with_reducible apply Yaf); (focus rfl); (focus exact hasA); (focus rfl)) | ((with_reducible apply Ybc); (focus rfl); (focus exact updA); (focus simp); simp only [List.set, Nat.zero_add, Nat.reduceAdd]) | with_reducible refine Yar (fun _ => ?_) (fun _ => ?_)))
   ·rename_i hne
    (refine Yek hk (by intro t h; repeat (first | exact h | refine T.weak ?_)) ?_)
    exact if_neg hne
   ·rename_i he
    (refine Yek hk (by intro t h; repeat (first | exact h | refine T.weak ?_)) ?_)
    exact if_pos he
 ·rename_i ho
  rw [if_neg ho] at hk
  (repeat' (first | with_reducible refine Yau ?_ | ((with_reducible apply Yaf); (focus rfl); (focus exact hasA); (focus rfl)) | ((with_reducible apply Ybc); (focus rfl); (focus exact updA); (focus simp); simp only [List.set, Nat.zero_add, Nat.reduceAdd]) | with_reducible refine Yfh ?_))
  (refine Yek hk (by intro t h; repeat (first | exact h | refine T.weak ?_)) ?_)
  rfl
theorem Yso {l : Sl} {ws : List Int} {a : Int} (hx : Rd R l 8 (wds ws)) (h0 : 0 ≤ a) (h1 : a < ws.length) (h8 : ws.length % 8 = 0) (hb : ws.length ≤ 2 ^ 40) {k : Int → K} (hk : T B R (k (getI ws a))) : T B R (Yiu l a k) := by
 refine Yaq (Yx6 l a k) ?_
 refine Ya1 hx fun hn => ?_
 rw [Yby] at hn
 rw [Ysf]
 try (dsimp only [Ysf, Zfz0, Zfz1, Zfz2, Zfz3, Zfz4])
 rw [w64 (n := 8 * ((l.n : Nat) : Int)) (by omega) (by omega), w64 (n := Int.tdiv a 8) (by rw [Int.tdiv_eq_ediv_of_nonneg h0]; omega) (by rw [Int.tdiv_eq_ediv_of_nonneg h0]; omega), Int.tdiv_eq_ediv_of_nonneg h0, Int.tmod_eq_emod_of_nonneg h0]
 refine Yai (fun h => by omega) (fun _ => ?_)
 refine Yai (fun h => by omega) (fun _ => ?_)
 refine Vcv (by omega) hx (by omega) (by rw [Yby]; omega) fun b hb => ?_
 refine Yyo (by omega) (by omega) ?_
 have hlt : a.toNat < ws.length := by omega
 refine Ycv (n := ws[a.toNat]) hb ?_ ?_
 ·rw [Ymn (by omega), show (a / 8).toNat * 8 + (a % 8).toNat * 1 = a.toNat by omega]
  exact Yt5 hlt
 ·unfold getI at hk
  rw [if_neg (by omega), List.getD_eq_getElem?_getD, List.getElem?_eq_getElem hlt] at hk
  exact hk
end
section
set_option maxHeartbeats 1000000
section
variable {B : World} {P R : SL} {t : K}
theorem Yyb {a : Addr} {k : Sl → K} {b i : Nat} {l : List Value} {ty : TypeId} {p : Option Addr} {n c : Nat} (ha : a = ⟨b, i, none⟩) (h : Has P b (.cells l.toArray ty)) (hi : l[i]? = some (.slice p n c)) (ht : T B P (k ⟨p, n, c⟩)) : T B P (ldS a k) :=
 Yaz (n := ⟨p, n, c⟩) ha h hi ht
theorem Vhw {s : Sl} {ws : List Int} {i j x : Int} (hF : Frm P (vec 219 8 s (wds ws)) R) (h0 : 0 ≤ i) (hj0 : 0 ≤ j) (hj : j < 8) (h8 : ws.length % 8 = 0) (hi : i.toNat * 8 + j.toNat < ws.length)
  (ht : T B (R * vec 219 8 s (wds (ws.set (i.toNat * 8 + j.toNat) x))) t) :
  T B P (ixS s.p s.n i 8 fun a => ixA a 8 j 1 fun a => stK (a.add 0) (.int .u64 x) t) := by
 have hl := Yby ws
 refine Yva hF (fun e => by rw [e] at hl; simp at hl; omega) fun b rest h1 h2 h3 h4 => ?_
 refine Vcb h1 h0 (by omega) ?_
 rw [Yay, Nat.zero_add]
 refine Yyo hj0 (by omega) ?_
 rw [Yay, Nat.mul_one]
 refine Ybc (i := i.toNat * 8 + j.toNat) (by rw [Yay]; rfl) Upd.last (by simp; omega) ?_
 rw [List.set_append_left _ _ (by omega), Vco]
 refine Yt2 h1 ?_ ?_ h4 ht
 ·rw [h2, Yby, Yby]; simp
 ·rw [h3, Yby, Yby]; simp
def padL (l : List Int) (i : Nat) : List Int := l.take i ++ List.replicate (8 * ((i + 7) / 8) - i) 0
theorem Yoy {l : List Int} {i : Nat} (h : i ≤ l.length) : (padL l i).length = 8 * ((i + 7) / 8) := by
 unfold padL; rw [List.length_append, List.length_replicate, List.length_take, Nat.min_eq_left h]; omega
theorem Vde {l : List Int} (h : l.length % 8 = 0) : padL l l.length = l := by
 unfold padL; rw [List.take_length, show 8 * ((l.length + 7) / 8) - l.length = 0 by omega]; simp
theorem Vfa {l : List Int} {i : Nat} (h : i < l.length) (hm : i % 8 ≠ 0) : (padL l i).set i l[i] = padL l (i + 1) := by
 unfold padL
 rw [show (i + 1 + 7) / 8 = (i + 7) / 8 by omega, List.take_succ_eq_append_getElem h]
 obtain ⟨m, hm⟩ : ∃ m, 8 * ((i + 7) / 8) - i = m + 1 := ⟨8 * ((i + 7) / 8) - i - 1, by omega⟩
 rw [hm, show 8 * ((i + 7) / 8) - (i + 1) = m by omega, List.set_append_right _ _ (by rw [List.length_take]; omega), List.length_take, Nat.min_eq_left (by omega), Nat.sub_self, List.replicate_succ, List.set_cons_zero, List.append_assoc]
 rfl
theorem Vdf {l : List Int} {i : Nat} (h : i < l.length) (hm : i % 8 = 0) : (padL l i ++ List.replicate 8 0).set i l[i] = padL l (i + 1) := by
 unfold padL
 rw [show 8 * ((i + 7) / 8) - i = 0 by omega, show 8 * ((i + 1 + 7) / 8) - (i + 1) = 7 by omega, List.take_succ_eq_append_getElem h, List.replicate_zero, List.append_nil,
  List.set_append_right _ _ (by rw [List.length_take]; omega), List.length_take, Nat.min_eq_left (by omega), Nat.sub_self, List.append_assoc]
 rfl
theorem Yyc {x : Sl} {l : List Int} (hl : l.length ≤ 2 ^ 20) (h8 : l.length % 8 = 0) (hx : Rd R x 1 (wds l)) {k : Sl × Sl × Sl × Sl × Sl × Int × Int × Bool → K}
  (hk : ∀ s r, T B (R * vec 219 8 s (wds l)) (k (s, r))) : T B R (Ykd x k) := by
 refine Yaq (Yv4 x k) ?_
 refine Ya1 hx fun hn => ?_
 rw [Yby, Nat.mul_one] at hn
 rw [Ypz]
 refine Ya7 fun b5 => ?_
 refine Ya7 fun b4 => ?_
 try (dsimp only [Ypz, Zfw0, Zfw1, Zfw2, Zfw3, Zfw4, Zfw5, Zfw6, Zfw7, Zfw8, Zfw9, Zfw10, Zfw11, Zfw12, Zfw13, Zfw14])
 refine Yl2 (fun _ (s : Int × Unit) => R * ex (fun q : Sl => vec 219 8 q (wds (padL l s.1.toNat)) * (pt b5 (.cells #[.slice none 0 0, .slice none 0 0, .slice none 0 0, .slice none 0 0, .slice none 0 0, .int .i64 0, .int .i64 0, .bool false] 103) * pt b4 (.cells #[q.v, .slice none 0 0, .slice none 0 0, .slice none 0 0, .slice none 0 0, .int .i64 0, .int .i64 0, .bool false] 103))))
  (fun n (s : Int × Unit) => ∃ i : Nat, i ≤ l.length ∧ s.1 = i ∧ n = l.length - i) l.length ?_ ⟨0, by omega, rfl, by omega⟩ ?_
 ·intro t ht
  refine Ydh (E := 219) (sz := 8) (s := ⟨none, 0, 0⟩) rfl rfl ?_
  refine T.perm ?_ (Yjt (⟨none, 0, 0⟩ : Sl) ht)
  show R * _ * _ * vec _ _ _ [] = R * (vec _ _ _ [] * _)
  ac_rfl
 rintro n ⟨s1, u⟩ c ⟨i, hi, h1, h2⟩ hc
 simp only at h1
 subst h1 h2
 simp only [Int.toNat_natCast]
 refine Ywt fun q => ?_
 rw [← Yad, ← Yad]
 have hnx : ∀ q' : Sl, i < l.length → T B (R * vec 219 8 q' (wds (padL l (i + 1))) * pt b5 (.cells #[.slice none 0 0, .slice none 0 0, .slice none 0 0, .slice none 0 0, .slice none 0 0, .int .i64 0, .int .i64 0, .bool false] 103) * pt b4 (.cells #[q'.v, .slice none 0 0, .slice none 0 0, .slice none 0 0, .slice none 0 0, .int .i64 0, .int .i64 0, .bool false] 103)) (c (IntKind.wrap .i64 ((i : Int) + 1), ())) := by
  intro q' hlt
  rw [w64 (by omega) (by omega)]
  have := hc (l.length - (i + 1)) (((i : Int) + 1), ()) (by omega) ⟨i + 1, by omega, rfl, rfl⟩
  simp only [show ((i : Int) + 1).toNat = i + 1 by omega] at this
  refine T.perm ?_ (Yjt q' this)
  simp only [Yad]
 have hem : ((i : Nat) : Int).tmod 8 = ((i % 8 : Nat) : Int) := by rw [Int.tmod_eq_emod_of_nonneg (by omega)]; omega
 have hed : IntKind.wrap .i64 (((i : Nat) : Int).tdiv 8) = ((i / 8 : Nat) : Int) := by rw [Int.tdiv_eq_ediv_of_nonneg (by omega), w64 (by omega) (by omega)]; omega
 rw [hem, hed]
 (repeat' (first | with_reducible refine Yak ?_ | ((with_reducible apply Yaz); (focus rfl); (focus exact hasA); (focus rfl)) | (with_reducible refine Ya7 ?_; intro _) | with_reducible refine Yai (fun _ => ?_) (fun _ => ?_) | with_reducible refine Ybr (fun _ => ?_) (fun _ => ?_)))
 ·rename_i hlt hm b3
  have hlt' : i < l.length := by omega
  refine Yaa (X := vec 219 8 q (wds (padL l i))) (.init (.init (.init .last))) ?_
  refine Ybs (x := ⟨some ⟨b3, 0, none⟩, 1, 1⟩) (new := wds (List.replicate 8 0)) Vgz (Rd.one Has.last rfl (Nat.le_refl _)) (Ylv _) ?_ fun s' => ?_
  ·rw [Yby, Yoy hi]; simp only; omega
  (repeat (first | with_reducible refine Yak ?_ | ((with_reducible apply Yaz); (focus rfl); (focus exact hasA); (focus rfl)) | ((with_reducible apply Ybc); (focus rfl); (focus exact updA); (focus simp); simp only [List.set, Nat.zero_add, Nat.reduceAdd])))
  refine Yej hx.init.init.init.init (by omega) (Yt5 (by omega)) ?_
  rw [← show wds (padL l i ++ List.replicate 8 0) = wds (padL l i) ++ wds (List.replicate 8 0) from List.map_append]
  refine Vhw (ws := padL l i ++ List.replicate 8 0) .last (by omega) (by omega) (by omega) ?_ ?_ ?_
  ·rw [List.length_append, Yoy hi, List.length_replicate]; omega
  ·rw [List.length_append, Yoy hi, List.length_replicate]; omega
  simp only [Int.toNat_natCast]
  rw [show i / 8 * 8 + i % 8 = i by omega, Vdf hlt' (by omega)]
  refine Yac (.init .last) ?_
  refine T.perm ?_ (hnx s' hlt')
  ac_rfl
 ·rename_i hlt hm
  have hlt' : i < l.length := by omega
  refine Yej hx.init.init.init (by omega) (Yt5 (by omega)) ?_
  refine Vhw (ws := padL l i) (.init (.init .last)) (by omega) (by omega) (by omega) ?_ ?_ ?_
  ·rw [Yoy hi]; omega
  ·rw [Yoy hi]; omega
  simp only [Int.toNat_natCast]
  rw [show i / 8 * 8 + i % 8 = i by omega, Vfa hlt' (by omega)]
  refine T.perm ?_ (hnx q hlt')
  ac_rfl
 ·have : i = l.length := by omega
  subst this
  rw [Vde h8]
  refine Ya1 (Rd.vec (.init (.init .last))) fun hq => ?_
  rw [Yby] at hq
  refine Ydh (E := 219) (sz := 8) (s := ⟨none, 0, 0⟩) rfl rfl ?_
  (repeat (first | (first | with_reducible refine Yam ?_ | with_reducible refine Yak ?_ | with_reducible refine Yal ?_ | with_reducible refine Yau ?_ | with_reducible refine Ybe ?_ | ((with_reducible apply Yaf); (focus rfl); (focus exact hasA); (focus rfl)) | ((with_reducible apply Yaj); (focus rfl); (focus exact hasA); (focus rfl)) | ((with_reducible apply Yaz); (focus rfl); (focus exact hasA); (focus rfl)) | ((with_reducible apply Ynv); (focus rfl); (focus exact hasA); (focus rfl)) | ((with_reducible apply Yd8); (focus rfl); (focus exact hasA); (focus rfl)) | ((with_reducible apply Va3); (focus rfl); (focus exact hasA); (focus rfl)) | ((with_reducible apply Yt0); (focus rfl); (focus exact hasA); (focus rfl)) | (with_reducible refine Ya7 ?_; intro _) | ((with_reducible apply Ybc); (focus rfl); (focus exact updA); (focus simp); simp only [List.set, Nat.zero_add, Nat.reduceAdd]) | ((with_reducible apply Ycm); (focus rfl); (focus exact hasA); (focus rfl))) | ((with_reducible apply Yyb); (focus rfl); (focus exact hasA); (focus rfl))))
  refine Ybs (s := ⟨none, 0, 0⟩) (x := q) (vs := []) Vgz (Rd.vec (.init (.init .last))) (Ylv l) (by simp; omega) fun s' => ?_
  (repeat (first | (first | with_reducible refine Yam ?_ | with_reducible refine Yak ?_ | with_reducible refine Yal ?_ | with_reducible refine Yau ?_ | with_reducible refine Ybe ?_ | ((with_reducible apply Yaf); (focus rfl); (focus exact hasA); (focus rfl)) | ((with_reducible apply Yaj); (focus rfl); (focus exact hasA); (focus rfl)) | ((with_reducible apply Yaz); (focus rfl); (focus exact hasA); (focus rfl)) | ((with_reducible apply Ynv); (focus rfl); (focus exact hasA); (focus rfl)) | ((with_reducible apply Yd8); (focus rfl); (focus exact hasA); (focus rfl)) | ((with_reducible apply Va3); (focus rfl); (focus exact hasA); (focus rfl)) | ((with_reducible apply Yt0); (focus rfl); (focus exact hasA); (focus rfl)) | (with_reducible refine Ya7 ?_; intro _) | ((with_reducible apply Ybc); (focus rfl); (focus exact updA); (focus simp); simp only [List.set, Nat.zero_add, Nat.reduceAdd]) | ((with_reducible apply Ycm); (focus rfl); (focus exact hasA); (focus rfl))) | ((with_reducible apply Yyb); (focus rfl); (focus exact hasA); (focus rfl))))
  refine Ysv Vgz (by omega) (by omega) (by omega) fun b => ?_
  (repeat (first | (first | with_reducible refine Yam ?_ | with_reducible refine Yak ?_ | with_reducible refine Yal ?_ | with_reducible refine Yau ?_ | with_reducible refine Ybe ?_ | ((with_reducible apply Yaf); (focus rfl); (focus exact hasA); (focus rfl)) | ((with_reducible apply Yaj); (focus rfl); (focus exact hasA); (focus rfl)) | ((with_reducible apply Yaz); (focus rfl); (focus exact hasA); (focus rfl)) | ((with_reducible apply Ynv); (focus rfl); (focus exact hasA); (focus rfl)) | ((with_reducible apply Yd8); (focus rfl); (focus exact hasA); (focus rfl)) | ((with_reducible apply Va3); (focus rfl); (focus exact hasA); (focus rfl)) | ((with_reducible apply Yt0); (focus rfl); (focus exact hasA); (focus rfl)) | (with_reducible refine Ya7 ?_; intro _) | ((with_reducible apply Ybc); (focus rfl); (focus exact updA); (focus simp); simp only [List.set, Nat.zero_add, Nat.reduceAdd]) | ((with_reducible apply Ycm); (focus rfl); (focus exact hasA); (focus rfl))) | ((with_reducible apply Yyb); (focus rfl); (focus exact hasA); (focus rfl))))
  refine Ysv Yy5 (by omega) (by omega) (by omega) fun b => ?_
  (repeat (first | (first | with_reducible refine Yam ?_ | with_reducible refine Yak ?_ | with_reducible refine Yal ?_ | with_reducible refine Yau ?_ | with_reducible refine Ybe ?_ | ((with_reducible apply Yaf); (focus rfl); (focus exact hasA); (focus rfl)) | ((with_reducible apply Yaj); (focus rfl); (focus exact hasA); (focus rfl)) | ((with_reducible apply Yaz); (focus rfl); (focus exact hasA); (focus rfl)) | ((with_reducible apply Ynv); (focus rfl); (focus exact hasA); (focus rfl)) | ((with_reducible apply Yd8); (focus rfl); (focus exact hasA); (focus rfl)) | ((with_reducible apply Va3); (focus rfl); (focus exact hasA); (focus rfl)) | ((with_reducible apply Yt0); (focus rfl); (focus exact hasA); (focus rfl)) | (with_reducible refine Ya7 ?_; intro _) | ((with_reducible apply Ybc); (focus rfl); (focus exact updA); (focus simp); simp only [List.set, Nat.zero_add, Nat.reduceAdd]) | ((with_reducible apply Ycm); (focus rfl); (focus exact hasA); (focus rfl))) | ((with_reducible apply Yyb); (focus rfl); (focus exact hasA); (focus rfl))))
  refine Ysv Yy5 (by omega) (by omega) (by omega) fun b => ?_
  (repeat (first | (first | with_reducible refine Yam ?_ | with_reducible refine Yak ?_ | with_reducible refine Yal ?_ | with_reducible refine Yau ?_ | with_reducible refine Ybe ?_ | ((with_reducible apply Yaf); (focus rfl); (focus exact hasA); (focus rfl)) | ((with_reducible apply Yaj); (focus rfl); (focus exact hasA); (focus rfl)) | ((with_reducible apply Yaz); (focus rfl); (focus exact hasA); (focus rfl)) | ((with_reducible apply Ynv); (focus rfl); (focus exact hasA); (focus rfl)) | ((with_reducible apply Yd8); (focus rfl); (focus exact hasA); (focus rfl)) | ((with_reducible apply Va3); (focus rfl); (focus exact hasA); (focus rfl)) | ((with_reducible apply Yt0); (focus rfl); (focus exact hasA); (focus rfl)) | (with_reducible refine Ya7 ?_; intro _) | ((with_reducible apply Ybc); (focus rfl); (focus exact updA); (focus simp); simp only [List.set, Nat.zero_add, Nat.reduceAdd]) | ((with_reducible apply Ycm); (focus rfl); (focus exact hasA); (focus rfl))) | ((with_reducible apply Yyb); (focus rfl); (focus exact hasA); (focus rfl))))
  exact (hk q _).weak.weak.weak.weak.weak.weak
end
end
section
set_option maxRecDepth 100000
set_option maxHeartbeats 2000000
section
variable {B : World} {P R : SL} {t : K}
end
def Good (g : Nat) (s : St) (x : Nat) : Prop := s.U x = true → ∃ o, PlOk s.c (64 * g) s.hs g (x : Int) o
section
variable {B : World} {P R : SL} {t : K}
end
end
section
set_option maxHeartbeats 1000000
/-- headers fit one another -/
structure Fit (hs : List Hd) : Prop where
 whole : ∀ b, (hd hs b).1 = 2 → ∃ n, WholeP hs b n
 cont : ∀ b, (hd hs b).1 = 3 → ∃ b0 n, WholeP hs b0 n ∧ b0 < b ∧ b < b0 + n
theorem Inv.fit {g : Nat} {hs : List Hd} {U : Nat → Bool} {L : Nat → List Int} (h : Inv g hs U L) : Fit hs := ⟨h.whole, h.cont⟩
theorem Fit.next {hs : List Hd} (h : Fit hs) {b : Nat} (h1 : (hd hs b).1 ≠ 2) (h3 : (hd hs b).1 ≠ 3) : (hd hs (b + 1)).1 ≠ 3 := by
 intro e
 obtain ⟨b0, n, hw, g1, g2⟩ := h.cont _ e
 rcases hw.kind (i := b) (by omega) (by omega) with ⟨_, h4⟩ | ⟨_, h4⟩
 ·exact h1 h4
 ·exact h3 h4
theorem Fit.behind {hs : List Hd} (h : Fit hs) {b n : Nat} (hw : WholeP hs b n) : (hd hs (b + n)).1 ≠ 3 := by
 intro e
 obtain ⟨b0, n0, hw0, g1, g2⟩ := h.cont _ e
 by_cases hne : b0 = b
 ·subst hne
  have := hw.uniq hw0
  omega
 ·have h1 := hw.1
  by_cases hlt : b0 ≤ b
  ·exact hw0.disj hw (Ne.symm hne) (i := b) (by omega) (by omega) ⟨by omega, by omega⟩
  ·exact hw.disj hw0 hne (i := b0) (by omega) (by omega) ⟨by omega, by have := hw0.1; omega⟩
section
variable {B : World} {P R : SL} {t : K}
end
end
section
set_option maxHeartbeats 1000000
section
variable {B : World} {P R : SL} {t : K}
end
end
section
set_option maxHeartbeats 1000000
def GoodB (g : Nat) (s : St) (b : Nat) : Prop := ∀ x, x / 512 = b → Good g s x
theorem GoodB.small {g : Nat} {s : St} (inv : Inv g s.hs s.U s.L) {b k : Nat} (hk : k < 32) (hh : hd s.hs b = (1, (k : Int), 0)) (h : ∀ i, i < cn k → Good g s (cellN b k i)) : GoodB g s b := by
 intro x hx hu
 rcases inv.used x hu with ⟨j, hj, b', i, _, _, h3, h4, rfl⟩ | ⟨b', n, _, hw, rfl⟩
 ·rw [Ybi hj h4] at hx
  subst hx
  rw [hh] at h3
  simp only [Prod.mk.injEq] at h3
  have : j = k := by omega
  subst this
  exact h i h4 hu
 ·rw [Nat.mul_div_cancel _ (by omega)] at hx
  subst hx
  have := hw.2.2.1
  unfold hd at hh
  rw [hh] at this; simp at this
theorem GoodB.large {g : Nat} {s : St} (inv : Inv g s.hs s.U s.L) {b : Nat} (hh : (hd s.hs b).1 = 2) (h : Good g s (b * 512)) : GoodB g s b := by
 intro x hx hu
 rcases inv.used x hu with ⟨j, hj, b', i, _, _, h3, h4, rfl⟩ | ⟨b', n, _, hw, rfl⟩
 ·rw [Ybi hj h4] at hx
  subst hx
  rw [h3] at hh; simp at hh
 ·rw [Nat.mul_div_cancel _ (by omega)] at hx
  subst hx
  exact h hu
theorem GoodB.none {g : Nat} {s : St} (inv : Inv g s.hs s.U s.L) {b : Nat} (hh : (hd s.hs b).1 = 0 ∨ (hd s.hs b).1 = 3) : GoodB g s b := by
 intro x hx hu
 rw [inv.free_unused hh hx] at hu; cases hu
section
variable {B : World} {P R : SL} {t : K}
end
end
section
set_option maxHeartbeats 2000000
section
variable {B : World} {P R : SL} {t : K}
theorem Vfb {d n : Nat} {c la : List Int} (h : c.length = 8 * n → la.length = 8 * n → T B (R * LDev d n c la) t) : T B (R * LDev d n c la) t := by
 refine Yky fun v hv h1 h2 => ?_
 exact Ygu hv h1 h2 (h (h1 ▸ hv.ok.l2) (h2 ▸ hv.ok.l1))
end
end
section
set_option maxHeartbeats 2000000
section
variable {B : World} {P R : SL} {t : K}
end
end
section
variable {B : World} {P R : SL} {t : K}
end
/-- the cells of a block that are not in use, up to one -/
def frC (u : List Int) (b k : Int) : Nat → List Int
 |0 => []
 |i + 1 => frC u b k i ++ (if 512 * b + i * clsW k ∈ u then [] else [512 * b + i * clsW k])
/-- the cells of a class that are not in use, of the blocks up to one -/
def frS (hs : List Hd) (u : List Int) (k : Int) : Nat → List Int
 |0 => []
 |1 => []
 |b + 2 => frS hs u k (b + 1) ++ (if (hd hs (b + 1)).1 = 1 ∧ (hd hs (b + 1)).2.1 = k then frC u ((b + 1 : Nat) : Int) k (cls k).toNat else [])
section
variable {B : World} {P R : SL} {t : K}
end
section
set_option maxHeartbeats 1000000
section
variable {B : World} {P R : SL} {t : K}
end
end
section
set_option maxHeartbeats 1000000
/-- the most, and the least that has it, among some -/
def Bst (w : Nat → Int) (lo hi : Nat) (n r : Int) : Prop := (∀ j, lo ≤ j → j < hi → w j ≤ n) ∧ ((n = 0 ∧ r = 0) ∨ ∃ x : Nat, r = x ∧ lo ≤ x ∧ x < hi ∧ w x = n ∧ 0 < n ∧ ∀ j, lo ≤ j → j < x → w j < n)
theorem Bst.nn {w : Nat → Int} {lo hi : Nat} {n r : Int} (h : Bst w lo hi n r) : 0 ≤ n := by
 rcases h.2 with h | ⟨x, _, _, _, _, h, _⟩ <;> omega
theorem Bst.uniq {w : Nat → Int} {lo hi : Nat} {n r n' r' : Int} (h : Bst w lo hi n r) (h' : Bst w lo hi n' r') : n = n' ∧ r = r' := by
 obtain ⟨a, b⟩ := h
 obtain ⟨a', b'⟩ := h'
 rcases b with ⟨b1, b2⟩ | ⟨x, b1, b2, b3, b4, b5, b6⟩ <;> rcases b' with ⟨c1, c2⟩ | ⟨y, c1, c2, c3, c4, c5, c6⟩
 ·omega
 ·have := a y c2 c3; omega
 ·have := a' x b2 b3; omega
 ·have h1 := a y c2 c3
  have h2 := a' x b2 b3
  have hn : n = n' := by omega
  refine ⟨hn, ?_⟩
  have h3 : ¬ x < y := fun h => by have := c6 x b2 h; omega
  have h4 : ¬ y < x := fun h => by have := b6 y c2 h; omega
  omega
theorem Bst.nil {w : Nat → Int} {lo : Nat} : Bst w lo lo 0 0 := ⟨fun j h1 h2 => by omega, Or.inl ⟨rfl, rfl⟩⟩
theorem Bst.up {w : Nat → Int} {k : Nat} {n r : Int} (h : Bst w 0 k n r) : (w k > n → Bst w 0 (k + 1) (w k) k) ∧ (¬ w k > n → Bst w 0 (k + 1) n r) := by
 have hn := h.nn
 obtain ⟨a, b⟩ := h
 refine ⟨fun hg => ⟨fun j h1 h2 => ?_, Or.inr ⟨k, rfl, by omega, by omega, rfl, by omega, fun j h1 h2 => ?_⟩⟩, fun hg => ⟨fun j h1 h2 => ?_, ?_⟩⟩
 ·by_cases hj : j < k
  ·have := a j h1 hj; omega
  ·have : j = k := by omega
   subst this; omega
 ·have := a j h1 h2; omega
 ·by_cases hj : j < k
  ·exact a j h1 hj
  ·have : j = k := by omega
   subst this; omega
 ·rcases b with b | ⟨x, b1, b2, b3, b4⟩
  ·exact Or.inl b
  ·exact Or.inr ⟨x, b1, b2, by omega, b4⟩
/-- the greatest class that has a cell -/
def GW (e : Nat → Bool) (r : Int) : Prop := ((∀ j, j < 32 → e j = false) ∧ r = 0) ∨ ∃ x : Nat, x < 32 ∧ e x = true ∧ (∀ j, x < j → j < 32 → e j = false) ∧ r = clsW x
theorem GW.uniq {e : Nat → Bool} {r r' : Int} (h : GW e r) (h' : GW e r') : r = r' := by
 rcases h with ⟨a, b⟩ | ⟨x, a, b, c, d⟩ <;> rcases h' with ⟨a', b'⟩ | ⟨y, a', b', c', d'⟩
 ·omega
 ·have := a y a'; rw [this] at b'; cases b'
 ·have := a' x a; rw [this] at b; cases b
 ·have h1 : ¬ x < y := fun h => by rw [c y h a'] at b'; cases b'
  have h2 : ¬ y < x := fun h => by rw [c' x h a] at b; cases b
  have : x = y := by omega
  subst this; omega
section
variable {B : World} {P R : SL} {t : K}
end
end
section
set_option maxHeartbeats 1000000
section
variable {B : World} {P R : SL} {t : K}
end
end
section
set_option maxHeartbeats 1000000
structure SpI (hs : List Hd) (n : Nat) (o : List (Int × Int)) : Prop where
 pw : o.Pairwise fun p q => p.1 + p.2 < q.1
 el : ∀ p ∈ o, 1 ≤ p.1 ∧ 1 ≤ p.2 ∧ p.1 + p.2 ≤ n ∧ (∀ x : Nat, p.1 ≤ x → (x : Int) < p.1 + p.2 → (hd hs x).1 = 0) ∧ ∀ x : Nat, (x : Int) = p.1 + p.2 → x < n → (hd hs x).1 ≠ 0
 cov : ∀ x : Nat, 1 ≤ x → x < n → (hd hs x).1 = 0 → ∃ p ∈ o, p.1 ≤ x ∧ (x : Int) < p.1 + p.2
theorem SpI.step {hs : List Hd} {n : Nat} {o : List (Int × Int)} (hn : 1 ≤ n) (h : SpI hs n o) : SpI hs (n + 1) (spStep o n (hd hs n)) := by
 obtain ⟨pw, el, cov⟩ := h
 unfold spStep
 by_cases hz : (hd hs n).1 = 0
 ·rw [if_neg (by omega)]
  rcases List.eq_nil_or_concat o with rfl | ⟨o0, p, rfl⟩
  ·rw [if_neg (by simp)]
   refine ⟨by simp, fun q hq => ?_, fun x h1 h2 h3 => ?_⟩
   ·simp only [List.nil_append, List.mem_singleton] at hq
    subst hq
    refine ⟨by simp only; omega, by simp, by simp only; omega, fun x h1 h2 => ?_, fun x h1 h2 => ?_⟩
    ·simp only at h1 h2
     have : x = n := by omega
     subst this; exact hz
    ·simp only at h1; omega
   ·by_cases hx : x < n
    ·obtain ⟨p, hp, _⟩ := cov x h1 hx h3
     cases hp
    ·exact ⟨((n : Int), 1), by simp, by simp only; omega, by simp only; omega⟩
  ·rw [List.concat_eq_append] at *
   have hl : (o0 ++ [p]).length - 1 = o0.length := by simp
   have hg : (o0 ++ [p]).getD o0.length (0, 0) = p := by simp
   rw [hl, hg]
   obtain ⟨pw1, _, pw2⟩ := List.pairwise_append.1 pw
   have hpw : ∀ q ∈ o0, q.1 + q.2 < p.1 := fun q hq => pw2 q hq p (by simp)
   obtain ⟨p1, p2, p3, p4, p5⟩ := el p (by simp)
   by_cases hc : 0 < (o0 ++ [p]).length ∧ p.1 + p.2 = n
   ·rw [if_pos hc]
    have hs' : (o0 ++ [p]).set o0.length (p.1, p.2 + 1) = o0 ++ [(p.1, p.2 + 1)] := by
     rw [List.set_append_right _ _ (Nat.le_refl _)]; simp
    rw [hs']
    have hc2 := hc.2
    refine ⟨List.pairwise_append.2 ⟨pw1, by simp, fun q hq r hr => ?_⟩, fun q hq => ?_, fun x h1 h2 h3 => ?_⟩
    ·simp only [List.mem_singleton] at hr
     subst hr
     exact hpw q hq
    ·rcases List.mem_append.1 hq with hq | hq
     ·obtain ⟨e1, e2, e3, e4, e5⟩ := el q (by simp [hq])
      have := hpw q hq
      exact ⟨e1, e2, by omega, e4, fun x h1 h2 => e5 x h1 (by omega)⟩
     ·simp only [List.mem_singleton] at hq
      subst hq
      refine ⟨p1, by simp only; omega, by simp only; omega, fun x h1 h2 => ?_, fun x h1 h2 => ?_⟩
      ·simp only at h1 h2
       by_cases hx : x = n
       ·subst hx; exact hz
       ·exact p4 x h1 (by omega)
      ·simp only at h1; omega
    ·by_cases hx : x < n
     ·obtain ⟨q, hq, q1, q2⟩ := cov x h1 hx h3
      rcases List.mem_append.1 hq with hq | hq
      ·exact ⟨q, by simp [hq], q1, q2⟩
      ·simp only [List.mem_singleton] at hq
       subst hq
       exact ⟨(q.1, q.2 + 1), by simp, q1, by simp only; omega⟩
     ·exact ⟨(p.1, p.2 + 1), by simp, by simp only; omega, by simp only; omega⟩
   ·rw [if_neg hc]
    have hlt : ∀ q ∈ o0 ++ [p], q.1 + q.2 < n := by
     intro q hq
     rcases List.mem_append.1 hq with hq | hq
     ·have := hpw q hq; omega
     ·simp only [List.mem_singleton] at hq
      subst hq
      have : ¬ q.1 + q.2 = n := fun h => hc ⟨by simp, h⟩
      omega
    refine ⟨List.pairwise_append.2 ⟨pw, by simp, fun q hq r hr => ?_⟩, fun q hq => ?_, fun x h1 h2 h3 => ?_⟩
    ·simp only [List.mem_singleton] at hr
     subst hr
     exact hlt q hq
    ·rcases List.mem_append.1 hq with hq | hq
     ·obtain ⟨e1, e2, e3, e4, e5⟩ := el q hq
      have := hlt q hq
      exact ⟨e1, e2, by omega, e4, fun x h1 h2 => e5 x h1 (by omega)⟩
     ·simp only [List.mem_singleton] at hq
      subst hq
      refine ⟨by simp only; omega, by simp, by simp only; omega, fun x h1 h2 => ?_, fun x h1 h2 => ?_⟩
      ·simp only at h1 h2
       have : x = n := by omega
       subst this; exact hz
      ·simp only at h1; omega
    ·by_cases hx : x < n
     ·obtain ⟨q, hq, q1, q2⟩ := cov x h1 hx h3
      exact ⟨q, List.mem_append_left _ hq, q1, q2⟩
     ·exact ⟨((n : Int), 1), by simp, by simp only; omega, by simp only; omega⟩
 ·rw [if_pos hz]
  refine ⟨pw, fun q hq => ?_, fun x h1 h2 h3 => ?_⟩
  ·obtain ⟨e1, e2, e3, e4, e5⟩ := el q hq
   refine ⟨e1, e2, by omega, e4, fun x h1 h2 => ?_⟩
   by_cases hx : x = n
   ·subst hx; exact hz
   ·exact e5 x h1 (by omega)
  ·by_cases hx : x = n
   ·subst hx; exact absurd h3 hz
   ·exact cov x h1 (by omega) h3
theorem Yoz {U : Nat → Bool} {n : Nat} {y : Int} : y ∈ uBel U n ↔ ∃ x : Nat, x < n ∧ U x = true ∧ y = x := by
 unfold uBel
 simp only [List.mem_map, List.mem_filter, List.mem_range]
 constructor
 ·rintro ⟨x, ⟨h1, h2⟩, h3⟩; exact ⟨x, h1, h2, h3.symm⟩
 ·rintro ⟨x, h1, h2, h3⟩; exact ⟨x, ⟨h1, h2⟩, h3.symm⟩
end
section
set_option maxHeartbeats 1000000
def sumL (f : Int → Int) : List Int → Int
 |[] => 0
 |x :: l => f x + sumL f l
def sumK (f : Nat → Int) : Nat → Int
 |0 => 0
 |k + 1 => sumK f k + f k
def szX (g : Nat) (s : St) (x : Int) : Int := oSize (oHead s.c (64 * g) x).1
/-- the words that an address has for itself -/
def rmX (s : St) (x : Int) : Int := if (hd s.hs (x.toNat / 512)).1 = 1 then clsW (hd s.hs (x.toNat / 512)).2.1 else (hd s.hs (x.toNat / 512)).2.2 * 512
theorem Rp.eq {a b : Rp} (h1 : a.f = b.f) (h2 : a.s = b.s) (h3 : a.l = b.l) (h4 : a.o = b.o) (h5 : a.u = b.u) (h6 : a.c = b.c) (h7 : a.w = b.w) : a = b := by
 cases a; cases b; simp only at *; subst h1 h2 h3 h4 h5 h6 h7; rfl
def nK (hs : List Hd) (j : Int) : Nat → Int
 |0 => 0
 |b + 1 => nK hs j b + (if 1 ≤ b ∧ (hd hs b).1 = j then 1 else 0)
def wst (hs : List Hd) : Nat → Int
 |0 => 0
 |b + 1 => wst hs b + (if 1 ≤ b ∧ (hd hs b).1 = 1 then 512 - cls (hd hs b).2.1 * clsW (hd hs b).2.1 else 0)
def frN (g : Nat) (s : St) (b k : Nat) : Int := (frS s.hs (uBel s.U (512 * g)) k b).length
end
section
set_option maxHeartbeats 1000000
end
section
set_option maxHeartbeats 1000000
section
variable {B : World} {P R : SL} {t : K}
theorem Now_c {d n : Nat} {c la : List Int} {a : Option Addr} {u : Sl} (h8 : 8 * n ≤ 8192) {k : Sl × Sl × Sl × Sl × Sl × Int × Int × Bool → K}
  (hk : ∀ s r, T B (R * LDev d n c la * vec 219 8 s (wds c)) (k (s, r))) : T B (R * LDev d n c la) (Yd2 (a, da d, u) k) := by
 refine Yaq (You _ k) ?_
 refine Vfb fun hc hla => ?_
 rw [Ydz]
 refine Ya7 fun b1 => ?_
 refine Ya7 fun b2 => ?_
 try (dsimp only [Ydz, Zgo0, Zgo1, Zgo2, Zgo3, Zgo4, Zgo5, Zgo6, Zgo7, Zgo8])
 refine Ydh (E := 109) (sz := 1) (s := ⟨none, 0, 0⟩) rfl rfl ?_
 refine Yl2 (fun _ (s : Sl × Int × Unit) => R * pt b1 (.cells [.pointer a, .pointer (da d), u.v].toArray 29) * pt b2 (.cells #[.slice none 0 0, .slice none 0 0, .slice none 0 0, .slice none 0 0, .slice none 0 0, .int .i64 0, .int .i64 0, .bool false] 103) * vec 109 1 s.1 (wds (c.take s.2.1.toNat)) * LDev d n c la)
  (fun m (s : Sl × Int × Unit) => ∃ i : Nat, i ≤ c.length ∧ s.2.1 = i ∧ m = c.length - i) c.length (fun t ht => T.perm ?_ ht) ⟨0, by omega, rfl, by omega⟩ ?_
 ·show R * _ * _ * _ * vec _ _ _ [] = R * _ * _ * vec _ _ _ [] * _
  ac_rfl
 rintro m ⟨s0, s1, uu⟩ cc ⟨i, hi, h1, h2⟩ hcc
 simp only at h1
 subst h1 h2
 simp only [Int.toNat_natCast]
 unfold da at *
 refine Yaj (n := some ⟨d, 0, none⟩) rfl (by exact hasA) rfl ?_
 refine Yn9 fun _ _ => ?_
 try (dsimp only [Ydz, Zgo0, Zgo1, Zgo2, Zgo3, Zgo4, Zgo5, Zgo6, Zgo7, Zgo8])
 obtain ⟨L, hL⟩ : ∃ L : Int, L = 8192 := ⟨_, rfl⟩
 rw [← hL]
 refine Yai (fun h1 => Yai (fun h2 => ?_) (fun h2 => ?_)) (fun h1 => Yau ?_)
 ·have hlt : i < c.length := by omega
  refine Yaj (n := some ⟨d, 0, none⟩) rfl (by exact hasA) rfl ?_
  refine Vaa ?_
  have hg : getI c (i : Int) = c[i] := by rw [Yfs, List.getD_eq_getElem?_getD, List.getElem?_eq_getElem hlt]; rfl
  rw [hg]
  refine Ya7 fun b3 => ?_
  refine Yaa (X := vec 109 1 s0 (wds (c.take i))) (.init (.init .last)) ?_
  refine Ybs (x := ⟨some ⟨b3, 0, none⟩, 1, 1⟩) (new := wds [c[i]]) Yp6 (Rd.one Has.last rfl (Nat.le_refl _)) (Ylv _) (by simp [Yby]; omega) fun s' => ?_
  refine Yac (.init .last) ?_
  have e : (IntKind.wrap .i64 ((i : Int) + 1)).toNat = i + 1 := by rw [w64 (by omega) (by omega)]; omega
  refine T.perm ?_ (hcc (c.length - (i + 1)) (s', IntKind.wrap .i64 ((i : Int) + 1), ()) (by omega) ⟨i + 1, by omega, w64 (by omega) (by omega), rfl⟩)
  simp only [e]
  rw [List.take_succ_eq_append_getElem hlt]
  unfold wds
  rw [List.map_append]
  ac_rfl
 all_goals
  have : i = c.length := by omega
  subst this
  rw [List.take_length]
  try (dsimp only [Ydz, Zgo0, Zgo1, Zgo2, Zgo3, Zgo4, Zgo5, Zgo6, Zgo7, Zgo8])
  refine Yyc (l := c) (by omega) (by omega) (Rd.vec (.init .last)) fun s r => ?_
  (repeat (first | ((with_reducible apply Yaf); (focus rfl); (focus exact hasA); (focus rfl)) | ((with_reducible apply Yaz); (focus rfl); (focus exact hasA); (focus rfl)) | ((with_reducible apply Ynv); (focus rfl); (focus exact hasA); (focus rfl)) | ((with_reducible apply Ybc); (focus rfl); (focus exact updA); (focus simp); simp only [List.set, Nat.zero_add, Nat.reduceAdd])))
  refine Yac (.init (.init .last)) ?_
  refine Yac (.init (.init .last)) ?_
  refine Yac (.init (.init .last)) ?_
  exact hk s _
theorem Yyd {dd : Sl × Sl × Sl × Sl × Sl × Int × Int × Bool} {ws : List Int} {a : Int} {n : Nat} {o : Ob} (hx : Rd R dd.1 8 (wds ws)) (hl : ws.length = 8 * n) (hn : n ≤ 2 ^ 30) (ho : oHead ws n a = (o, 0)) {k : Ob × Bool → K} (hk : T B R (k (o, true))) : T B R (Ykc dd a k) := by
 refine Yaq (Yv3 dd a k) ?_
 refine Ya1 hx fun hxn => ?_
 rw [Yby] at hxn
 unfold oHead at ho
 split at ho
 ·simp only [Prod.mk.injEq] at ho; omega
 ·rename_i hcd
  simp only [not_or, Int.not_lt, ne_eq, Classical.not_not] at hcd
  obtain ⟨c1, c2, c3, c4⟩ := hcd
  simp only [Prod.mk.injEq, and_true] at ho
  have hod : odec a (getI ws a) = (o, 0) := Prod.ext ho c3
  rw [ho] at c4
  have hw : 0 ≤ getI ws a ∧ getI ws a < 18446744073709551616 := by
   unfold odec at hod
   split at hod
   ·rename_i h
    have := @Yrl (getI ws a % 4294967296) a (by omega) (by omega)
    rw [h] at this; omega
   ·simp at hod
  have hsz := Yem o
  rw [Ypy]
  refine Ya7 fun b1 => ?_
  refine Ya7 fun b2 => ?_
  try (dsimp only [Ypy, Zfv0, Zfv1, Zfv2, Zfv3, Zfv4, Zfv5, Zfv6, Zfv7, Zfv8, Zfv9, Zfv10])
  refine Yai (fun h => by omega) (fun _ => ?_)
  (repeat (((with_reducible apply Yaz); (focus rfl); (focus exact hasA); (focus rfl))))
  rw [w64 (n := 8 * ((dd.1.n : Nat) : Int)) (by omega) (by omega)]
  refine Yai (fun h => by omega) (fun _ => ?_)
  (repeat (((with_reducible apply Yaz); (focus rfl); (focus exact hasA); (focus rfl))))
  refine Yso hx.init.init (by omega) (by omega) (by omega) (by omega) ?_
  refine Ytv hw ?_
  rw [hod]
  (repeat (first | with_reducible refine Yak ?_ | (with_reducible refine Ya7 ?_; intro _) | ((with_reducible apply Ybc); (focus rfl); (focus exact updA); (focus simp); simp only [List.set, Nat.zero_add, Nat.reduceAdd])))
  refine Yar (fun h => absurd rfl h) (fun _ => ?_)
  (repeat (first | ((with_reducible apply Yaf); (focus rfl); (focus exact hasA); (focus rfl)) | ((with_reducible apply Yaz); (focus rfl); (focus exact hasA); (focus rfl))))
  refine Ylq ?_
  (repeat (first | with_reducible refine Ybe ?_ | ((with_reducible apply Ycm); (focus rfl); (focus exact hasA); (focus rfl))))
  rw [w64 (n := 8 * ((dd.1.n : Nat) : Int)) (by omega) (by omega), w64 (by omega) (by omega)]
  refine Yai (fun h => ?_) (fun _ => ?_)
  ·have : oSize (o.1, o.2) = oSize o := rfl
   omega
  (repeat (first | ((with_reducible apply Yaf); (focus rfl); (focus exact hasA); (focus rfl)) | ((with_reducible apply Ybc); (focus rfl); (focus exact updA); (focus simp); simp only [List.set, Nat.zero_add, Nat.reduceAdd])))
  exact hk.weak.weak.weak
end
end
section
set_option maxHeartbeats 2000000
def r1 (s : St) (b : Nat) : Rp := ⟨nK s.hs 0 b, nK s.hs 1 b, nK s.hs 2 b, 0, 0, 0, wst s.hs b⟩
def r2 (g : Nat) (s : St) (k : Nat) : Rp := { r1 s g with c := sumK (frN g s g) k }
def r3 (g : Nat) (s : St) (l : List Int) : Rp := { r1 s g with o := l.length, u := sumL (szX g s) l, c := sumK (frN g s g) 32, w := wst s.hs g + sumL (fun x => rmX s x - szX g s x) l }
section
variable {B : World} {P R : SL} {t : K}
end
end
section
set_option maxHeartbeats 2000000
theorem Pl.begun {g : Nat} {F : RF} (h : 2 ≤ g) (h2 : g ≤ 255) : Pl g (st0 g F) := by
 have e : ∀ b : Nat, 1 ≤ b → b < g → getI (c0 g) (256 + b) = benc b (0, 0, 0) := by
  intro b hb hlt
  unfold getI
  rw [if_neg (by omega)]
  have e2 : (256 + (b : Int)).toNat = 256 + b := by omega
  rw [e2, List.getD_eq_getElem?_getD]
  unfold c0
  rw [Yhs, if_neg (by simp; omega), List.getElem?_replicate, if_pos (by omega)]
  simp only [Option.map_some, Option.getD_some]
  congr 1; omega
 refine ⟨?_, fun b h1 h2 => ?_, fun x hx => (by cases hx), fun b n hb hw => ?_⟩
 ·show (c0 g).length = _
  unfold c0
  rw [Yh9, List.length_replicate]; omega
 ·show getI (c0 g) _ = benc b (hd (hs0 g) b)
  rw [Ysc]; exact e b h1 h2
 ·have := hw.2.2.1
  have h3 := Ysc g b
  unfold hd at h3
  have h4 : (hs0 g).getD b (0, 0, 0) = (0, 0, 0) := h3
  change ((hs0 g).getD b (0, 0, 0)).1 = 2 at this
  rw [h4] at this
  cases this
section
variable {B : World} {P R : SL} {t : K}
end
end
section
set_option maxHeartbeats 2000000
section
variable {B : World} {P R : SL} {t : K}
theorem Vav {a d g : Nat} {s : St} (inv : Inv g s.hs s.U s.L) {k : Int → K} (hk : T B (R * Al a d g s) (k g)) :
  T B (R * Al a d g s) (ldP (Addr.add ⟨a, 0, none⟩ 0) fun x34 => nn x34 fun x35 => ldP (Addr.add x35 0) fun x37 => Ybf x37 k) := by
 have hl := inv.len
 have hb := inv.big
 refine Ycu fun mm u f => ?_
 unfold da
 (repeat (first | with_reducible refine Yam ?_ | ((with_reducible apply Yaj); (focus rfl); (focus exact hasA); (focus rfl))))
 refine Yaa (X := Mg mm d g s.hs s.F) (by exact frmA) ?_
 refine Yhu fun tt xx tie2 => ?_
 unfold da
 (repeat (((with_reducible apply Yaj); (focus rfl); (focus exact hasA); (focus rfl))))
 refine Yaa (X := Tab tt d g s.hs) (by exact frmA) ?_
 refine Yk7 ?_
 rw [hl]
 have h5 := Yax (m := mm) (u := u) (f := f) hk
 have h6 : T B (R * LDx d (64 * g) s.c * Bm u (512 * g) s.U * Fl f s.L * pt a (.cells [.pointer (da mm), .pointer (da d), .int .i64 g, .pointer (da u), .pointer (da f)].toArray 47) * Mg mm d g s.hs s.F) (k g) := T.perm (by ac_rfl) h5
 have h7 := Yfq (a := tt) (x := xx) tie2 h6
 exact T.perm (by unfold da; ac_rfl) h7
theorem Vg0 {a d g : Nat} {s : St} (hg : g ≤ 16) {a' : Option Addr} {u' : Sl} {k : Sl × Sl × Sl × Sl × Sl × Int × Int × Bool → K}
  (hk : ∀ sl r, T B (R * Al a d g s * vec 219 8 sl (wds s.c)) (k (sl, r))) : T B (R * Al a d g s) (Yd2 (a', da d, u') k) := by
 refine Ycu fun m u f => ?_
 refine Yaa (X := LDx d (64 * g) s.c) (by exact frmA) ?_
 refine Ygq fun la hla => ?_
 refine Now_c (by omega) fun sl r => ?_
 refine Yaa (X := LDev d (64 * g) s.c la) (by exact frmA) ?_
 refine Yg6 hla ?_
 have h4 : T B (R * vec 219 8 sl (wds s.c) * Al a d g s) (k (sl, r)) := T.perm (by ac_rfl) (hk sl r)
 have h5 := Yax (m := m) (u := u) (f := f) h4
 exact T.perm (by ac_rfl) h5
end
end
section
set_option maxHeartbeats 2000000
def Swr (sw a mk : Nat) (blk : Nat) (gone : List Int) : SL := ex fun q : Sl => vec 3 1 q (ints gone) * pt sw (.cells [.pointer (da a), .pointer (da mk), .int .i64 blk, q.v].toArray 189)
/-- the white ones of a block -/
def WhL (s : St) (m : Mk) (b : Nat) (l : List Int) : Prop := l.Nodup ∧ (∀ y : Int, y ∈ l ↔ ∃ n : Nat, y = n ∧ n / 512 = b ∧ s.U n = true ∧ m.M n = false ∧ m.S n = false)
/-- what a sweep leaves of a heap -/
structure SwR (g : Nat) (s s' : St) (l : List Int) : Prop where
 inv : Inv g s'.hs s'.U s'.L
 pl : Pl g s'
 u : ∀ y : Nat, s'.U y = (s.U y && !decide ((y : Int) ∈ l))
 c : ∀ y : Nat, 512 ≤ y → s'.c[y]? = s.c[y]?
section
variable {B : World} {P R : SL} {t : K}
theorem Yjl {sw a mk blk : Nat} {gone : List Int} (h : ∀ q : Sl, T B (R * vec 3 1 q (ints gone) * pt sw (.cells [.pointer (da a), .pointer (da mk), .int .i64 blk, q.v].toArray 189)) t) : T B (R * Swr sw a mk blk gone) t := by
 refine Ywt fun q => T.perm ?_ (h q)
 simp only [Yad]
theorem Yf8 {sw a mk blk : Nat} {gone : List Int} {q : Sl} (h : T B (R * Swr sw a mk blk gone) t) : T B (R * vec 3 1 q (ints gone) * pt sw (.cells [.pointer (da a), .pointer (da mk), .int .i64 blk, q.v].toArray 189)) t := by
 have h2 := Yjt (B := B) (R := R) (t := t) (X := fun q : Sl => vec 3 1 q (ints gone) * pt sw (.cells [.pointer (da a), .pointer (da mk), .int .i64 blk, q.v].toArray 189)) q h
 exact T.perm (by simp only [Yad]) h2
theorem Vg1 {a d g mk : Nat} {s : St} (inv : Inv g s.hs s.U s.L) {k : Option Addr → K} (hk : ∀ sw, T B (R * Al a d g s * Swr sw a mk g []) (k (da sw))) : T B (R * Al a d g s) (Ymr (da a) (da mk) k) := by
 refine Yaq (Yx0 _ _ k) ?_
 rw [Yxz, Zfh1]
 unfold da
 refine Yam ?_
 refine Vav inv ?_
 (repeat ((with_reducible refine Ya7 ?_; intro _)))
 rename_i b
 refine Ydh (E := 3) (sz := 1) (s := ⟨none, 0, 0⟩) rfl rfl ?_
 have := Yf8 (q := ⟨none, 0, 0⟩) (hk b)
 unfold da at this
 exact T.perm (by show _ = R * _ * vec _ _ _ [] * _; ac_rfl) this
theorem Vdg {sw a mk blk : Nat} {gone : List Int} {k : Unit → K} (hk : T B (R * Swr sw a mk 1 []) (k ())) : T B (R * Swr sw a mk blk gone) (Ydt (da sw) k) := by
 refine Yaq (Yj3 _ k) ?_
 refine Yjl fun q => ?_
 have h := Yf8 (q := ⟨none, 0, 0⟩) hk
 unfold da at *
 (repeat (first | with_reducible refine Yam ?_ | ((with_reducible apply Ybc); (focus rfl); (focus exact updA); (focus simp); simp only [List.set, Nat.zero_add, Nat.reduceAdd])))
 refine Yac (.init .last) ?_
 refine Ydh (E := 3) (sz := 1) (s := ⟨none, 0, 0⟩) rfl rfl ?_
 exact T.perm (by show _ = R * vec _ _ _ [] * _; ac_rfl) h
theorem Vaw {a d g sw mk blk : Nat} {s : St} {gone : List Int} (inv : Inv g s.hs s.U s.L) {k : Bool → K} (hk : T B (R * Al a d g s * Swr sw a mk blk gone) (k (decide ((blk : Int) ≥ g)))) : T B (R * Al a d g s * Swr sw a mk blk gone) (Ycw (da sw) k) := by
 refine Yaq (Yll _ k) ?_
 rw [Yhj, Zfd1]
 refine Yjl fun q => ?_
 have h := Yf8 (q := q) hk
 refine Yak ?_
 unfold da at *
 refine Yam ?_
 refine Yaf (i := 2) rfl Has.last rfl ?_
 refine Yam ?_
 refine Yaj (i := 0) (n := some ⟨a, 0, none⟩) rfl Has.last rfl ?_
 refine Yam ?_
 refine Yaa (X := Al a d g s) (by exact frmA) ?_
 refine Vav inv ?_
 (repeat (first | with_reducible refine Ybe ?_ | ((with_reducible apply Ycm); (focus rfl); (focus exact hasA); (focus rfl))))
 exact T.perm (by ac_rfl) h
end
end
section
set_option maxHeartbeats 2000000
def WhP (s : St) (m : Mk) (b p : Nat) (l : List Int) : Prop := l.Nodup ∧ l.length ≤ p - 512 * b ∧ (∀ y : Int, y ∈ l ↔ ∃ n : Nat, y = n ∧ 512 * b ≤ n ∧ n < p ∧ s.U n = true ∧ m.M n = false ∧ m.S n = false)
theorem WhP.skip {s : St} {m : Mk} {b p q : Nat} {l : List Int} (h : WhP s m b p l) (hpq : p ≤ q) (hn : ∀ n : Nat, p ≤ n → n < q → ¬ (s.U n = true ∧ m.M n = false ∧ m.S n = false)) : WhP s m b q l := by
 refine ⟨h.1, by have := h.2.1; omega, fun y => (h.2.2 y).trans ⟨fun ⟨n, e, h1, h2, h3⟩ => ⟨n, e, h1, by omega, h3⟩, fun ⟨n, e, h1, h2, h3⟩ => ⟨n, e, h1, ?_, h3⟩⟩⟩
 by_cases hc : n < p
 ·exact hc
 ·exact absurd h3 (hn n (by omega) h2)
theorem WhP.add {s : St} {m : Mk} {b y : Nat} {l : List Int} (h : WhP s m b y l) (hb : 512 * b ≤ y) (hy : s.U y = true ∧ m.M y = false ∧ m.S y = false) : WhP s m b (y + 1) (l ++ [(y : Int)]) := by
 refine ⟨?_, by have := h.2.1; simp; omega, fun z => ?_⟩
 ·rw [List.nodup_append]
  refine ⟨h.1, by simp, fun a ha b hb2 => ?_⟩
  simp only [List.mem_singleton] at hb2
  subst hb2
  obtain ⟨n, e, _, h2, _⟩ := (h.2.2 a).1 ha
  omega
 ·rw [List.mem_append, h.2.2 z, List.mem_singleton]
  constructor
  ·rintro (⟨n, e, h1, h2, h3⟩ | rfl)
   ·exact ⟨n, e, h1, by omega, h3⟩
   ·exact ⟨y, rfl, hb, by omega, hy⟩
  ·rintro ⟨n, e, h1, h2, h3⟩
   by_cases hc : n = y
   ·subst hc; exact .inr e
   ·exact .inl ⟨n, e, h1, by omega, h3⟩
theorem WhP.done {s : St} {m : Mk} {b p : Nat} {l : List Int} (h : WhP s m b p l) (hn : ∀ n : Nat, p ≤ n → n < 512 * b + 512 → s.U n = false) (hp : p ≤ 512 * b + 512) : WhL s m b l := by
 refine ⟨h.1, fun y => (h.2.2 y).trans ⟨fun ⟨n, e, h1, h2, h3⟩ => ⟨n, e, by omega, h3⟩, fun ⟨n, e, h1, h3⟩ => ⟨n, e, by omega, ?_, h3⟩⟩⟩
 by_cases hc : n < p
 ·exact hc
 ·have := hn n (by omega) (by omega)
  rw [this] at h3
  exact absurd h3.1 (by simp)
section
variable {B : World} {P R : SL} {t : K}
theorem Vg2 {a d g sw mk blk b : Nat} {s : St} {m : Mk} {most : Int} {gone : List Int} (hb : b < g) (hg : g ≤ 2 ^ 20) {k : Sl → K}
  (hk : ∀ sl l, WhL s m b l → l.length ≤ 512 * g → T B (R * Al a d g s * Mkr mk a (512 * g) most m * Swr sw a mk blk gone * vec 3 1 sl (ints l)) (k sl)) : T B (R * Al a d g s * Mkr mk a (512 * g) most m * Swr sw a mk blk gone) (Ycq (da sw) b k) := by
 refine Yaq (Yj6 _ _ k) ?_
 rw [Yg8, Zfo10, w64 (n := (b : Int) * 512) (by omega) (by omega)]
 have hnext : ∀ (Z : SL) (x : Int) (c : Int × Bool → K), ((∀ y : Nat, x ≤ y → s.U y = false) → T B (R * Z * Al a d g s * Mkr mk a (512 * g) most m * Swr sw a mk blk gone) (c (0, false))) → (∀ y : Nat, x ≤ y → s.U y = true → y < 512 * g → (∀ z : Nat, x ≤ z → z < y → s.U z = false) → T B (R * Z * Al a d g s * Mkr mk a (512 * g) most m * Swr sw a mk blk gone) (c ((y : Int), true))) →
   T B (R * Z * Al a d g s * Mkr mk a (512 * g) most m * Swr sw a mk blk gone) (nn (da sw) fun x13 => ldP (Addr.add x13 0) fun x15 => Ybq x15 x c) := by
  intro Z x c g0 g1
  refine Yjl fun q => ?_
  have close : ∀ t, T B (R * Z * Al a d g s * Mkr mk a (512 * g) most m * Swr sw a mk blk gone) t → _ := fun t ht => Yf8 (q := q) ht
  unfold da at *
  (repeat (first | with_reducible refine Yam ?_ | ((with_reducible apply Yaj); (focus rfl); (focus exact hasA); (focus rfl))))
  refine Yaa (X := Al a d g s) (by exact frmA) ?_
  refine Ve3 (fun h => ?_) (fun y p1 p2 p3 p4 => ?_)
  ·exact T.perm (by ac_rfl) (close _ (g0 h))
  ·exact T.perm (by ac_rfl) (close _ (g1 y p1 p2 p3 p4))
 have hcol : ∀ (Z : SL) (x : Int) (c : Int → K), T B (R * Z * Al a d g s * Mkr mk a (512 * g) most m * Swr sw a mk blk gone) (c (col m x)) → T B (R * Z * Al a d g s * Mkr mk a (512 * g) most m * Swr sw a mk blk gone) (nn (da sw) fun x38 => ldP (Addr.add x38 1) fun x40 => Ybk x40 x c) := by
  intro Z x c g0
  refine Yjl fun q => ?_
  have close := Yf8 (q := q) g0
  unfold da at *
  (repeat (first | with_reducible refine Yam ?_ | ((with_reducible apply Yaj); (focus rfl); (focus exact hasA); (focus rfl))))
  refine Yaa (X := Mkr mk a (512 * g) most m) (by exact frmA) ?_
  refine Yvz ?_
  exact T.perm (by ac_rfl) close
 -- the loop
 have loop : ∀ (p : Nat) (x : Int) (ok : Bool), p = 512 * b → ((ok = false ∧ ∀ z : Nat, p ≤ z → s.U z = false) ∨ (ok = true ∧ ∃ y : Nat, x = y ∧ p ≤ y ∧ s.U y = true ∧ y < 512 * g ∧ ∀ z : Nat, p ≤ z → z < y → s.U z = false)) →
   T B (R * vec 3 1 ⟨none, 0, 0⟩ [] * Al a d g s * Mkr mk a (512 * g) most m * Swr sw a mk blk gone) (Zfo8 (da sw) k ⟨none, 0, 0⟩ ((b : Int) * 512) x ok) := by
  intro p x ok hp hx
  rw [Zfo8]
  refine Yl2 (fun n (z : Sl × Int × Bool × Unit) => ex fun q : Nat × List Int => R * vec 3 1 z.1 (ints q.2) * Al a d g s * Mkr mk a (512 * g) most m * Swr sw a mk blk gone * pu (512 * b ≤ q.1 ∧ q.1 ≤ 512 * b + 512 ∧ n = 512 * b + 512 - q.1 ∧ WhP s m b q.1 q.2 ∧ ((z.2.2.1 = false ∧ ∀ y : Nat, q.1 ≤ y → s.U y = false) ∨ (z.2.2.1 = true ∧ ∃ y : Nat, z.2.1 = y ∧ q.1 ≤ y ∧ s.U y = true ∧ y < 512 * g ∧ ∀ z : Nat, q.1 ≤ z → z < y → s.U z = false)))) (fun n z => True) 512 (fun t ht => ?_) trivial ?_
  ·intro w hw
   refine ht w (Yds (p, []) (Sat.puI ⟨by simp only; omega, by simp only; omega, by simp only; omega, ⟨by simp, by simp, fun y => ⟨fun h => (by simp at h), fun ⟨n, _, h1, h2, _⟩ => by simp only at h2; omega⟩⟩, hx⟩ hw))
  rintro n ⟨out, x, ok, uu⟩ c _ hc
  refine Ysw fun q hq => ?_
  obtain ⟨p, l⟩ := q
  simp only at hq ⊢
  obtain ⟨hp1, hp2, hn, hw, hx⟩ := hq
  have hfin : (∀ n : Nat, p ≤ n → n < 512 * b + 512 → s.U n = false) → T B (R * vec 3 1 out (ints l) * Al a d g s * Mkr mk a (512 * g) most m * Swr sw a mk blk gone) (Zfo1 k out) := by
   intro h
   refine T.perm (by ac_rfl) (hk out l (hw.done h hp2) ?_)
   have := hw.2.1
   omega
  have hwp := hw.2.1
  rw [Zfo7]
  rcases hx with ⟨rfl, hz⟩ | ⟨rfl, y, rfl, p3, p4, p5, p6⟩
  ·refine Yau ?_
   rw [Zfo6]
   refine Yau ?_
   exact hfin fun n h1 _ => hz n h1
  ·refine Yal ?_
   rw [Zfo6, w64 (n := (b : Int) * 512 + 512) (by omega) (by omega)]
   refine Yai (fun hlt => ?_) (fun hge => hfin fun n h1 h2 => p6 n h1 (by omega))
   rw [Zfo5]
   refine hcol _ _ _ ?_
   rw [Zfo4]
   -- on to the next one
   have nx : ∀ (out' : Sl) (l' : List Int), WhP s m b (y + 1) l' → T B (R * vec 3 1 out' (ints l') * Al a d g s * Mkr mk a (512 * g) most m * Swr sw a mk blk gone) (Zfo2 (da sw) y c out') := by
    intro out' l' hw'
    rw [Zfo2, w64 (n := (y : Int) + 1) (by omega) (by omega)]
    refine hnext _ _ _ (fun hz => ?_) (fun y2 r1 r2 r3 r4 => ?_)
    ·intro w hw1
     refine hc (512 * b + 512 - (y + 1)) (out', 0, false, ()) (by omega) trivial w (Yds (y + 1, l') (Sat.puI ⟨by simp only; omega, by simp only; omega, rfl, hw', .inl ⟨rfl, fun z hz2 => hz z ?_⟩⟩ hw1))
     simp only at hz2; omega
    ·intro w hw1
     refine hc (512 * b + 512 - (y + 1)) (out', (y2 : Int), true, ()) (by omega) trivial w (Yds (y + 1, l') (Sat.puI ⟨by simp only; omega, by simp only; omega, rfl, hw', .inr ⟨rfl, y2, rfl, ?_, r2, r3, fun z hz1 hz2 => r4 z ?_ hz2⟩⟩ hw1))
     ·simp only; omega
     ·simp only at hz1; omega
   have hcol0 : col m y = 0 ↔ (m.M y = false ∧ m.S y = false) := by
    unfold col
    rw [Ycd, Ycd]
    cases m.M y <;> cases m.S y <;> simp
   refine Ybr (fun hc0 => ?_) (fun hc0 => ?_)
   ·obtain ⟨hM, hS⟩ := hcol0.1 hc0
    rw [Zfo3]
    refine Ya7 fun b3 => ?_
    refine Yaa (X := vec 3 1 out (ints l)) (by exact frmA) ?_
    refine Ybs (x := ⟨some ⟨b3, 0, none⟩, 1, 1⟩) (new := ints [(y : Int)]) Yeo (Rd.one Has.last rfl (Nat.le_refl _)) (Yct _) (by rw [Yag]; simp only; omega) fun s' => ?_
    refine Yac (.init .last) ?_
    have h := nx s' (l ++ [(y : Int)]) ((hw.skip p3 fun n h1 h2 q => by rw [p6 n h1 h2] at q; exact absurd q.1 (by simp)).add (by omega) ⟨p4, hM, hS⟩)
    rw [show ints (l ++ [(y : Int)]) = ints l ++ ints [(y : Int)] from List.map_append] at h
    exact T.perm (by ac_rfl) h
   ·refine nx out l (hw.skip (by omega) fun n h1 h2 q => ?_)
    by_cases hn : n = y
    ·subst hn; exact hc0 (hcol0.2 ⟨q.2.1, q.2.2⟩)
    ·rw [p6 n h1 (by omega)] at q; exact absurd q.1 (by simp)
 rw [Zfo9]
 refine Ydh (E := 3) (sz := 1) (s := ⟨none, 0, 0⟩) rfl rfl ?_
 refine T.perm (Q := R * vec 3 1 ⟨none, 0, 0⟩ [] * Al a d g s * Mkr mk a (512 * g) most m * Swr sw a mk blk gone) (by ac_rfl) ?_
 refine hnext _ _ _ (fun hz => ?_) (fun y p1 p2 p3 p4 => ?_)
 ·exact loop (512 * b) _ _ rfl (.inl ⟨rfl, fun z h => hz z (by omega)⟩)
 ·exact loop (512 * b) _ _ rfl (.inr ⟨rfl, y, rfl, by omega, p2, p3, fun z h1 h2 => p4 z (by omega) h2⟩)
end
end
section
set_option maxHeartbeats 2000000
theorem Yzw {c : List Int} {b : Nat} {xs : List Hd} {y : Nat} (h : 256 + b + xs.length ≤ y) : (wrH c b xs)[y]? = c[y]? := by
 rw [Yhs, if_pos (by omega)]
theorem SwR.refl {g : Nat} {s : St} (inv : Inv g s.hs s.U s.L) (pl : Pl g s) : SwR g s s [] := ⟨inv, pl, fun y => by simp, fun y _ => rfl⟩
theorem SwR.free {g : Nat} {s s1 s2 : St} {l : List Int} {n : Nat} (h : SwR g s s1 l) (hg : g ≤ 255) (hf : FreeR g s1 s2 n) : SwR g s s2 (l ++ [(n : Int)]) := by
 refine ⟨hf.inv, h.pl.freed h.inv hg hf, fun y => ?_, fun y hy => ?_⟩
 ·rw [hf.u]
  unfold uDrop
  rw [h.u y]
  by_cases e : y = n
  ·subst e; simp
  ·have e2 : (y : Int) ∈ l ++ [(n : Int)] ↔ (y : Int) ∈ l := by
    rw [List.mem_append, List.mem_singleton]
    exact ⟨fun h => h.elim id (fun h => by omega), .inl⟩
   have e3 : (y != n) = true := by simpa using e
   rw [e3, Bool.true_and, decide_eq_decide.2 e2]
 ·rcases hf.from_ with ⟨_, _, _, _, _, e, _⟩ | ⟨b, m, _, hb, hw, _, e, _⟩
  ·rw [e]; exact h.c y hy
  ·have := hw.2.1
   have := h.inv.len
   rw [e, Yzw (by rw [List.length_replicate]; omega)]
   exact h.c y hy
theorem SwR.trim {g : Nat} {s s1 : St} {l : List Int} {n k : Nat} {F' : RF} (h : SwR g s s1 l) (hg : g ≤ 255) (hn : 1 ≤ n) (hk : k < 32) (hh : hd s1.hs n = (1, (k : Int), 0)) (hu : ∀ x, x / 512 = n → s1.U x = false) : SwR g s (trimS s1 n k F') l := by
 have hlt : n < s1.hs.length := Ve2 (by rw [hh]; simp)
 have hl := h.inv.len
 refine ⟨h.inv.trim hk hn hh hu, h.pl.trimmed h.inv hg hk hn hh hu, h.u, fun y hy => ?_⟩
 show (wrH s1.c n [(0, 0, 0)])[y]? = _
 rw [Yzw (by simp; omega)]
 exact h.c y hy
section
variable {B : World} {P R : SL} {t : K}
theorem Vfc {a d g sw mk blk : Nat} {s : St} {m : Mk} {most : Int} {gone : List Int} (inv : Inv g s.hs s.U s.L) (pl : Pl g s) (hb1 : 1 ≤ blk) (hb : blk < g) (hg : g ≤ 255) (hgl : gone.length ≤ 2 ^ 30) {k : Int → K}
  (hk : ∀ s' l, WhL s m blk l → SwR g s s' l → l.length ≤ 512 * g → T B (R * Al a d g s' * Mkr mk a (512 * g) most m * Swr sw a mk (blk + 1) (gone ++ l)) (k 0)) :
  T B (R * Al a d g s * Mkr mk a (512 * g) most m * Swr sw a mk blk gone) (Yd9 (da sw) k) := by
 refine Yaq (Ylk _ k) ?_
 rw [Yhi, Zfc18]
 refine T.perm (Q := R * Mkr mk a (512 * g) most m * Al a d g s * Swr sw a mk blk gone) (by ac_rfl) ?_
 refine Vaw inv ?_
 rw [Zfc17]
 refine Yai (fun h => by omega) (fun _ => ?_)
 rw [Zfc15]
 refine Yjl fun q => ?_
 have go : T B (R * Al a d g s * Mkr mk a (512 * g) most m * Swr sw a mk blk gone) (Ycq (da sw) blk fun x15_1 => Zfc14 (da sw) k x15_1 ((x15_1.n : Nat) : Int) 0) := by
  refine Vg2 hb (by omega) fun sl l hw hll => ?_
  refine Yc0 .last fun hn => ?_
  rw [Yag, Nat.mul_one] at hn
  rw [Zfc14, hn]
  refine Yl2 (fun _ (z : Int × Unit) => ex fun s1 : St => R * vec 3 1 sl (ints l) * Mkr mk a (512 * g) most m * Swr sw a mk blk (gone ++ l.take z.1.toNat) * Al a d g s1 * pu (SwR g s s1 (l.take z.1.toNat))) (fun n (z : Int × Unit) => ∃ i : Nat, z.1 = i ∧ i ≤ l.length ∧ n = l.length - i) l.length (fun t ht => ?_) ⟨0, rfl, by omega, rfl⟩ ?_
  ·intro w hw1
   refine ht w (Yds s (Sat.puI (SwR.refl inv pl) ?_))
   refine hw1.perm ?_
   show _ = R * _ * _ * Swr sw a mk blk (gone ++ []) * _
   rw [List.append_nil]
   ac_rfl
  rintro n ⟨z, uu⟩ c ⟨i, e1, e2, e3⟩ hc
  simp only at e1
  subst e1 e3
  simp only [Int.toNat_natCast]
  refine Ysw fun s1 hs1 => ?_
  rw [Zfc13, Zfc12]
  refine Yai (fun hlt => ?_) (fun hge => ?_)
  ·have hi : i < l.length := by omega
   obtain ⟨n, hn1, hn2, hn3, hn4, hn5⟩ := (hw.2 l[i]).1 (List.getElem_mem hi)
   have hnot : ¬ ((n : Int) ∈ l.take i) := by
    rw [← hn1]
    intro hmem
    obtain ⟨j, hj, hje⟩ := List.mem_iff_getElem.1 hmem
    rw [List.length_take] at hj
    rw [List.getElem_take] at hje
    exact (List.pairwise_iff_getElem.1 hw.1) j i (by omega) hi (by omega) hje
   have hu1 : s1.U n = true := by rw [hs1.u n, hn3, decide_eq_false hnot]; rfl
   rw [Zfc11]
   refine Yej (Rd.vec (by exact frmA)) (by omega) (n := (n : Int)) (by rw [Int.toNat_natCast, Ydn hi, hn1]) ?_
   rw [Zfc10]
   refine Yaa (X := Swr sw a mk blk (gone ++ l.take i)) (by exact frmA) ?_
   refine Yjl fun q => ?_
   unfold da
   (repeat (first | with_reducible refine Yam ?_ | ((with_reducible apply Yaj); (focus rfl); (focus exact hasA); (focus rfl))))
   refine Yaa (X := Al a d g s1) (by exact frmA) ?_
   refine Vft hs1.inv (fun hbad => ?_) (fun n' s' o hnn _ hf => ?_)
   ·exfalso
    rcases hbad with hbad | hbad
    ·obtain ⟨o, ho⟩ := hs1.pl.obj n hu1
     exact hbad o ho
    ·rw [Ycd, hu1] at hbad; cases hbad
   ·have : n' = n := by omega
    subst this
    rw [Zfc9, Zfc8]
    refine Yar (fun h => absurd rfl h) (fun _ => ?_)
    rw [Zfc6]
    (repeat (first | with_reducible refine Yam ?_ | ((with_reducible apply Yaz); (focus rfl); (focus exact hasA); (focus rfl)) | (with_reducible refine Ya7 ?_; intro _)))
    rename_i b3
    refine Yaa (X := vec 3 1 q (ints (gone ++ l.take i))) (by exact frmA) ?_
    refine Ybs (x := ⟨some ⟨b3, 0, none⟩, 1, 1⟩) (new := ints [(n' : Int)]) Yeo (Rd.one Has.last rfl (Nat.le_refl _)) (Yct _) (by rw [Yag, List.length_append, List.length_take]; simp only; omega) fun s'' => ?_
    (repeat (first | with_reducible refine Yam ?_ | ((with_reducible apply Ybc); (focus rfl); (focus exact updA); (focus simp); simp only [List.set, Nat.zero_add, Nat.reduceAdd])))
    refine Yac (by exact frmA : Frm _ (pt b3 _) _) ?_
    have e5 : l.take (i + 1) = l.take i ++ [(n' : Int)] := by rw [List.take_succ_eq_append_getElem hi, hn1]
    have hS := hs1.free hg hf
    rw [← e5] at hS
    have fin : T B (R * vec 3 1 sl (ints l) * Mkr mk a (512 * g) most m * Al a d g s' * Swr sw a mk blk (gone ++ l.take (i + 1))) (c (IntKind.wrap .i64 ((i : Int) + 1), ())) := by
     intro w hw1
     have e : (IntKind.wrap .i64 ((i : Int) + 1)).toNat = i + 1 := by rw [w64 (by omega) (by omega)]; omega
     refine hc (l.length - (i + 1)) (IntKind.wrap .i64 ((i : Int) + 1), ()) (by omega) ⟨i + 1, w64 (by omega) (by omega), by omega, rfl⟩ w ?_
     simp only [e]
     exact Yds s' (Sat.puI hS (hw1.perm (by ac_rfl)))
    have h6 := Yf8 (q := s'') fin
    rw [e5, ← List.append_assoc] at h6
    rw [show ints (gone ++ List.take i l ++ [(n' : Int)]) = ints (gone ++ List.take i l) ++ ints [(n' : Int)] from List.map_append] at h6
    unfold da at h6
    exact T.perm (by ac_rfl) h6
  ·have : i = l.length := by omega
   subst this
   rw [List.take_length] at hs1 ⊢
   refine Yac (by exact frmA : Frm _ (vec 3 1 sl _) _) ?_
   rw [Zfc5]
   refine Yaa (X := Swr sw a mk blk (gone ++ l)) (by exact frmA) ?_
   refine Yjl fun q => ?_
   unfold da
   (repeat (first | with_reducible refine Yam ?_ | with_reducible refine Yak ?_ | ((with_reducible apply Yaf); (focus rfl); (focus exact hasA); (focus rfl)) | ((with_reducible apply Yaj); (focus rfl); (focus exact hasA); (focus rfl))))
   refine Yaa (X := Al a d g s1) (by exact frmA) ?_
   have fin : ∀ s2 (e : Int), SwR g s s2 l → T B (R * Mkr mk a (512 * g) most m * vec 3 1 q (ints (gone ++ l)) * pt sw (.cells [.pointer (some ⟨a, 0, none⟩), .pointer (some ⟨mk, 0, none⟩), .int .i64 blk, q.v].toArray 189) * Al a d g s2) (Zfc4 (some ⟨sw, 0, none⟩) k 0) := by
    intro s2 _ hS
    rw [Zfc4, Zfc3]
    refine Yar (fun h => absurd rfl h) (fun _ => ?_)
    rw [Zfc1]
    have h7 := Yf8 (q := q) (hk s2 l hw hS hll)
    unfold da at h7
    (repeat (first | with_reducible refine Yam ?_ | ((with_reducible apply Yaf); (focus rfl); (focus exact hasA); (focus rfl)) | ((with_reducible apply Ybc); (focus rfl); (focus exact updA); (focus simp); simp only [List.set, Nat.zero_add, Nat.reduceAdd])))
    rw [w64 (by omega) (by omega)]
    exact T.perm (by ac_rfl) h7
   refine Vht hs1.inv (fin s1 0 hs1) (fun n k' F' e hn hk' hh hu => fin _ 0 (hs1.trim hg hn hk' hh hu))
 have h8 := Yf8 (q := q) go
 unfold da at h8 ⊢
 (repeat (first | with_reducible refine Yam ?_ | ((with_reducible apply Yaf); (focus rfl); (focus exact hasA); (focus rfl))))
 exact T.perm (by ac_rfl) h8
end
end
section
set_option maxHeartbeats 2000000
structure Cy where
 s : St
 m : Mk
 blk : Nat
 gone : List Int
 ph : Int
 cyc : Int
 st : Int
 pl : List Int
def rootsF (rb : Nat) : Fv := ⟨.func 61, #[], #[.pointer (some ⟨rb, 0, none⟩)]⟩
/-- the numbers of a collector's blocks -/
structure Lay where
 a : Nat
 d : Nat
 mr : Nat
 sw : Nat
 cl : Nat
 rb : Nat
 pb : Nat
def colC (y : Lay) (ph cyc st : Int) : List Value := [.pointer (da y.a), .pointer (da y.mr), .pointer (da y.sw), (rootsF y.rb).v, .int .i64 ph, .int .i64 cyc, .int .i64 st]
def RootsR (y : Lay) (c3 : Option Addr) (pl : List Int) : SL := pt y.rb (.cells [.pointer (da y.a), .pointer (da y.d), nilS.v, .pointer c3, .pointer (da y.pb)].toArray 33) * pt y.pb (.cells (ints pl).toArray 120)
def CW (g : Nat) (y : Lay) (most : Int) (c3 : Option Addr) (c : Cy) : SL :=
 Al y.a y.d g c.s * Mkr y.mr y.a (512 * g) most c.m * Swr y.sw y.a y.mr c.blk c.gone * RootsR y c3 c.pl * pt y.cl (.cells (colC y c.ph c.cyc c.st).toArray 129)
section
variable {B : World} {P R : SL} {t : K}
theorem Ycf {g : Nat} {y : Lay} {most : Int} {c3 : Option Addr} {c : Cy} (h : T B (R * Al y.a y.d g c.s * Mkr y.mr y.a (512 * g) most c.m * Swr y.sw y.a y.mr c.blk c.gone * RootsR y c3 c.pl * pt y.cl (.cells (colC y c.ph c.cyc c.st).toArray 129)) t) : T B (R * CW g y most c3 c) t := by
 unfold CW; simp only [← Yad]; exact h
theorem Ybn {g : Nat} {y : Lay} {most : Int} {c3 : Option Addr} {s : St} {m : Mk} {blk : Nat} {gone pl : List Int} {ph cyc st : Int} (h : T B (R * CW g y most c3 ⟨s, m, blk, gone, ph, cyc, st, pl⟩) t) :
  T B (R * Al y.a y.d g s * Mkr y.mr y.a (512 * g) most m * Swr y.sw y.a y.mr blk gone * RootsR y c3 pl * pt y.cl (.cells (colC y ph cyc st).toArray 129)) t := by
 unfold CW at h; simp only [← Yad] at h; exact h
theorem Vg3 {y : Lay} {c3 : Option Addr} {pl : List Int} {k : Sl → K} (hk : T B (R * RootsR y c3 pl) (k ⟨some ⟨y.pb, 0, none⟩, 10, 10⟩)) : T B (R * RootsR y c3 pl) (dyn Tryz.prog (rootsF y.rb).v #[] (.one (.sc .slice)) k) := by
 intro w hw
 refine .inl ⟨61, #[.pointer (some ⟨y.rb, 0, none⟩)], rfl, by kernel_rfl, ?_⟩
 have h : T B (R * RootsR y c3 pl) (Yka ⟨y.rb, 0, none⟩ k) := by
  refine Yaq (Yqz _ k) ?_
  rw [Yov, Zgq1]
  unfold RootsR at *
  simp only [← Yad] at *
  unfold da at *
  refine Yaj (i := 4) (n := some ⟨y.pb, 0, none⟩) rfl (Has.init Has.last) rfl ?_
  refine Yam ?_
  exact hk
 exact h w hw
end
end
section
set_option maxHeartbeats 2000000
def ShB (U : Nat → Bool) : List Int → Mk → Bool → Mk → Bool → Prop
 |[], m, b, m', b' => m' = m ∧ b' = b
 |x :: l, m, b, m', b' => ∃ m1 b1, ((ShadeR U m x m1 ∧ b1 = true) ∨ (m1 = m ∧ b1 = b ∧ (has U x = true → has m.M x = true))) ∧ ShB U l m1 b1 m' b'
def m0 (g : Nat) : Mk := ⟨fun _ => false, fun _ => false, [], false, (512 * g : Nat)⟩
/-- nothing is grey on the stack, nor from the cursor on -/
def MNone (m : Mk) : Prop := m.again = false ∧ (∀ y ∈ m.stk, ∀ z : Nat, y = z → gry m z = false) ∧ (∀ z : Nat, m.cur ≤ z → gry m z = false)
inductive MStep (g : Nat) (s : St) (m : Mk) : Mk → Prop
 |stack (x : Nat) (stk' junk : List Int) (m' : Mk) : gry m x = true → m.stk = stk' ++ (x : Int) :: junk → (∀ y ∈ junk, ∀ z : Nat, y = z → gry m z = false) → ShdL s.U (PtrsL s.c (64 * g) x) { m with stk := stk', S := uAdd m.S x } m' → MStep g s m m'
 |look (x : Nat) (m' : Mk) : gry m x = true → m.cur ≤ x → (∀ y ∈ m.stk, ∀ z : Nat, y = z → gry m z = false) → (∀ z : Nat, m.cur ≤ z → z < x → gry m z = false) → ShdL s.U (PtrsL s.c (64 * g) x) { m with stk := [], cur := (x : Int) + 1, S := uAdd m.S x } m' → MStep g s m m'
 |anew : m.again = true → (∀ y ∈ m.stk, ∀ z : Nat, y = z → gry m z = false) → (∀ z : Nat, m.cur ≤ z → gry m z = false) → MStep g s m { m with stk := [], again := false, cur := 0 }
inductive StepR (g : Nat) (c : Cy) : Cy → Prop
 |begin (m' : Mk) (st' : Int) : c.ph = 0 → ShdL c.s.U c.pl (m0 g) m' → st' = 1 → StepR g c { c with m := m', ph := 1, st := st' }
 |mark (m' : Mk) (st' : Int) : c.ph = 1 → MStep g c.s c.m m' → st' = IntKind.wrap .i64 (c.st + 1) → StepR g c { c with m := m', st := st' }
 |more (m' : Mk) (st' : Int) : c.ph = 1 → MNone c.m → ShB c.s.U c.pl { c.m with stk := [] } false m' true → st' = IntKind.wrap .i64 (c.st + 1) → StepR g c { c with m := m', st := st' }
 |last (st' : Int) : c.ph = 1 → MNone c.m → (∀ x ∈ c.pl, has c.s.U x = true → has c.m.M x = true) → st' = IntKind.wrap .i64 (c.st + 1) → StepR g c { c with m := { c.m with stk := [] }, ph := 2, blk := 1, gone := [], st := st' }
 |sweep (s' : St) (l : List Int) (st' : Int) : c.ph = 2 → WhL c.s c.m c.blk l → SwR g c.s s' l → l.length ≤ 512 * g → c.blk + 1 < g → st' = IntKind.wrap .i64 (c.st + 1) → StepR g c { c with s := s', blk := c.blk + 1, gone := c.gone ++ l, st := st' }
 |done (s' : St) (l : List Int) (st' : Int) : c.ph = 2 → WhL c.s c.m c.blk l → SwR g c.s s' l → l.length ≤ 512 * g → g ≤ c.blk + 1 → st' = IntKind.wrap .i64 (c.st + 1) → StepR g c { c with s := s', blk := c.blk + 1, gone := c.gone ++ l, st := st', ph := 0, cyc := IntKind.wrap .i64 (c.cyc + 1) }
theorem ShB.toL {U : Nat → Bool} : ∀ {l : List Int} {m m' : Mk} {b b' : Bool}, ShB U l m b m' b' → ShdL U l m m'
 |[], _, _, _, _, h => h.1
 |x :: l, _, _, _, _, ⟨m1, b1, h1, h2⟩ => ⟨m1, h1.elim (fun h => .inl h.1) (fun h => .inr ⟨h.1, h.2.2⟩), h2.toL⟩
theorem ShB.false {U : Nat → Bool} : ∀ {l : List Int} {m m' : Mk} {b : Bool}, ShB U l m b m' false → b = false ∧ m' = m ∧ ∀ x ∈ l, has U x = true → has m.M x = true
 |[], _, _, _, h => ⟨h.2.symm, h.1, by simp⟩
 |x :: l, _, _, _, ⟨m1, b1, h1, h2⟩ => by
  obtain ⟨e1, e2, e3⟩ := h2.false
  rcases h1 with ⟨_, h⟩ | ⟨h, h', h''⟩
  ·rw [h] at e1; cases e1
  ·subst h h'
   refine ⟨e1, e2, fun z hz => ?_⟩
   rcases List.mem_cons.1 hz with rfl | hz
   ·exact h''
   ·exact e3 z hz
section
variable {B : World} {P R : SL} {t : K}
theorem Vdh {g : Nat} {y : Lay} {most : Int} {c3 : Option Addr} {c : Cy} (hp : c.pl.length = 10) {k : Bool → K}
  (hk : ∀ m' b, ShB c.s.U c.pl c.m false m' b → T B (R * CW g y most c3 { c with m := m' }) (k b)) : T B (R * CW g y most c3 c) (Ya2 (da y.cl) k) := by
 refine Yaq (Yil _ k) ?_
 rw [Yf7, Zfa9]
 refine Ycf ?_
 unfold colC
 unfold da
 refine Yam ?_
 refine Va3 (i := 3) (n := rootsF y.rb) rfl Has.last rfl ?_
 refine Yaa (X := RootsR y c3 c.pl) (by exact frmA) ?_
 refine Vg3 ?_
 rw [Zfa8]
 have hrd : ∀ m1, Rd (R * Al y.a y.d g c.s * Mkr y.mr y.a (512 * g) most m1 * Swr y.sw y.a y.mr c.blk c.gone * pt y.cl (.cells (colC y c.ph c.cyc c.st).toArray 129) * RootsR y c3 c.pl) ⟨some ⟨y.pb, 0, none⟩, 10, 10⟩ 1 (ints c.pl) := by
  intro m1
  unfold RootsR
  simp only [← Yad]
  exact Rd.one Has.last (by rw [Yag, hp]) (Nat.le_refl _)
 refine Yl2 (fun _ (z : Bool × Int × Unit) => ex fun m1 : Mk => R * Al y.a y.d g c.s * Mkr y.mr y.a (512 * g) most m1 * Swr y.sw y.a y.mr c.blk c.gone * pt y.cl (.cells (colC y c.ph c.cyc c.st).toArray 129) * RootsR y c3 c.pl * pu (∀ m' b', ShB c.s.U (c.pl.drop z.2.1.toNat) m1 z.1 m' b' → ShB c.s.U c.pl c.m false m' b')) (fun n (z : Bool × Int × Unit) => ∃ i : Nat, z.2.1 = i ∧ i ≤ 10 ∧ n = 10 - i) 10 (fun t ht => ?_) ⟨0, rfl, by omega, rfl⟩ ?_
 ·intro w hw
  exact ht w (Yds c.m (Sat.puI (fun m' b' h => h) hw))
 rintro n ⟨b, z, uu⟩ cc ⟨i, e1, e2, e3⟩ hc
 simp only at e1
 subst e1 e3
 simp only [Int.toNat_natCast]
 refine Ysw fun m1 hm1 => ?_
 rw [Zfa7, Zfa6]
 have ten : (((⟨some ⟨y.pb, 0, none⟩, 10, 10⟩ : Sl).n : Nat) : Int) = 10 := rfl
 refine Yai (fun hlt => ?_) (fun hge => ?_)
 ·have hi : i < 10 := by omega
  have nx : ∀ m2 b2, ((ShadeR c.s.U m1 (c.pl[i]'(by omega)) m2 ∧ b2 = true) ∨ (m2 = m1 ∧ b2 = b ∧ (has c.s.U (c.pl[i]'(by omega)) = true → has m1.M (c.pl[i]'(by omega)) = true))) → T B (R * Al y.a y.d g c.s * Mkr y.mr y.a (512 * g) most m2 * Swr y.sw y.a y.mr c.blk c.gone * pt y.cl (.cells (colC y c.ph c.cyc c.st).toArray 129) * RootsR y c3 c.pl) (Zfa2 i cc b2) := by
   intro m2 b2 h2 w hw
   have e : (IntKind.wrap .i64 ((i : Int) + 1)).toNat = i + 1 := by rw [w64 (by omega) (by omega)]; omega
   refine hc (10 - (i + 1)) (b2, IntKind.wrap .i64 ((i : Int) + 1), ()) (by omega) ⟨i + 1, w64 (by omega) (by omega), by omega, rfl⟩ w (Yds m2 (Sat.puI (fun m' b' h => hm1 m' b' ?_) hw))
   simp only [e] at h
   rw [List.drop_eq_getElem_cons (by omega)]
   exact ⟨m2, b2, h2, h⟩
  rw [Zfa5]
  refine Yej (hrd m1) (by omega) (n := c.pl[i]'(by omega)) (by rw [Int.toNat_natCast]; exact Ydn (by omega)) ?_
  rw [Zfa4]
  unfold colC at nx ⊢
  unfold da at nx ⊢
  (repeat (first | with_reducible refine Yam ?_ | ((with_reducible apply Yaj); (focus rfl); (focus exact hasA); (focus rfl))))
  refine Yaa (X := Al y.a y.d g c.s) (by exact frmA) ?_
  refine Yaa (X := Mkr y.mr y.a (512 * g) most m1) (by exact frmA) ?_
  refine Yzv (fun m' h => ?_) (fun h => ?_)
  ·rw [Zfa3]
   refine Yal ?_
   exact T.perm (by ac_rfl) (nx m' true (.inl ⟨h, rfl⟩))
  ·rw [Zfa3]
   refine Yau ?_
   exact T.perm (by ac_rfl) (nx m1 b (.inr ⟨rfl, rfl, h⟩))
 ·have : i = 10 := by omega
  subst this
  have := Ybn (hk m1 b (hm1 m1 b (by rw [← hp, List.drop_length]; exact ⟨rfl, rfl⟩)))
  exact T.perm (by ac_rfl) this
end
end
section
set_option maxHeartbeats 2000000
structure GoodC (g : Nat) (c : Cy) : Prop where
 inv : Inv g c.s.hs c.s.U c.s.L
 pl : Pl g c.s
 lim : ∀ y, c.m.M y = true → y < 512 * g
 phs : c.ph = 0 ∨ c.ph = 1 ∨ c.ph = 2
 blk : c.ph = 2 → 1 ≤ c.blk ∧ c.blk < g
 gl : c.ph = 2 → c.gone.length ≤ 512 * g * c.blk
 ten : c.pl.length = 10
 big : g ≤ 255
section
variable {B : World} {P R : SL} {t : K}
theorem Vfd {g : Nat} {y : Lay} {most : Int} {c3 : Option Addr} {c : Cy} (gc : GoodC g c) {k : Int → K}
  (hk : ∀ c', StepR g c c' → T B (R * CW g y most c3 c') (k 0)) : T B (R * CW g y most c3 c) (Ycg (da y.cl) k) := by
 have hbig := gc.big
 have htwo := gc.inv.two
 refine Yaq (Yjh _ k) ?_
 rw [Ygg, Zes21]
 refine Ycf ?_
 have cl := fun (s : St) (m : Mk) (blk : Nat) (gone : List Int) (ph cyc st : Int) t h => @Ybn B R t g y most c3 s m blk gone c.pl ph cyc st h
 unfold colC at *
 unfold da at *
 refine Yam ?_
 refine Yaf (i := 4) rfl Has.last rfl ?_
 rw [Zes20, Zes19]
 refine Ybr (fun h0 => ?_) (fun h0 => ?_)
 ·-- it begins
  rw [Zes18]
  (repeat (first | with_reducible refine Yam ?_ | ((with_reducible apply Yaj); (focus rfl); (focus exact hasA); (focus rfl))))
  refine Yaa (X := Mkr y.mr y.a (512 * g) most c.m) (by exact frmA) ?_
  refine Vc9 ?_
  rw [Zes2]
  have go : T B (R * CW g y most c3 { c with m := m0 g }) (Ya2 (some ⟨y.cl, 0, none⟩) fun x46 => Zes1 (some ⟨y.cl, 0, none⟩) k) := by
   refine Vdh (c := { c with m := m0 g }) gc.ten fun m' b hm' => ?_
   rw [Zes1]
   refine Ycf ?_
   unfold colC da
   have h := cl c.s m' c.blk c.gone 1 c.cyc 1 _ (hk _ (.begin m' 1 h0 hm'.toL rfl))
   (repeat (first | with_reducible refine Yam ?_ | ((with_reducible apply Ybc); (focus rfl); (focus exact updA); (focus simp); simp only [List.set, Nat.zero_add, Nat.reduceAdd])))
   exact h
  have h := cl c.s (m0 g) c.blk c.gone c.ph c.cyc c.st _ go
  exact T.perm (by unfold m0; ac_rfl) h
 rw [Zes17]
 refine Ybr (fun h1 => ?_) (fun h1 => ?_)
 ·-- it marks
  rw [Zes15]
  (repeat (first | with_reducible refine Yam ?_ | ((with_reducible apply Yaf); (focus rfl); (focus exact hasA); (focus rfl)) | ((with_reducible apply Yaj); (focus rfl); (focus exact hasA); (focus rfl)) | ((with_reducible apply Ybc); (focus rfl); (focus exact updA); (focus simp); simp only [List.set, Nat.zero_add, Nat.reduceAdd])))
  obtain ⟨st', hst⟩ : ∃ st', st' = IntKind.wrap .i64 (c.st + 1) := ⟨_, rfl⟩
  rw [← hst]
  try rw [Zes6]
  skip
  refine Yaa (X := Al y.a y.d g c.s) (by exact frmA) ?_
  refine Yaa (X := Mkr y.mr y.a (512 * g) most c.m) (by exact frmA) ?_
  have fin : ∀ m', MStep g c.s c.m m' → T B (R * Swr y.sw y.a y.mr c.blk c.gone * RootsR y c3 c.pl * pt y.cl (.cells [.pointer (some ⟨y.a, 0, none⟩), .pointer (some ⟨y.mr, 0, none⟩), .pointer (some ⟨y.sw, 0, none⟩), (rootsF y.rb).v, .int .i64 c.ph, .int .i64 c.cyc, .int .i64 st'].toArray 129) * Al y.a y.d g c.s * Mkr y.mr y.a (512 * g) most m') (Zes5 (some ⟨y.cl, 0, none⟩) k false) := by
   intro m' hm
   rw [Zes5]
   refine Yau ?_
   exact T.perm (by ac_rfl) (cl c.s m' c.blk c.gone c.ph c.cyc st' _ (hk _ (.mark m' st' h1 hm hst)))
  refine Ve5 (by omega) gc.lim (fun x stk' junk m' a1 a2 a3 a4 => ?_) (fun x m' a1 a2 a3 a4 a5 => ?_) (fun a1 a2 a3 => ?_) (fun a1 a2 a3 => ?_)
  ·refine Yau ?_
   exact fin m' (.stack x stk' junk m' a1 a2 a3 a4)
  ·refine Yau ?_
   exact fin m' (.look x m' a1 a2 a3 a4 a5)
  ·refine Yau ?_
   exact fin _ (.anew a1 a2 a3)
  ·refine Yal ?_
   have hn : MNone c.m := ⟨a1, a2, a3⟩
   have go : T B (R * CW g y most c3 { c with m := { c.m with stk := [] }, st := st' }) (Ya2 (some ⟨y.cl, 0, none⟩) fun x70 => Zes5 (some ⟨y.cl, 0, none⟩) k (!x70)) := by
    refine Vdh (c := { c with m := { c.m with stk := [] }, st := st' }) gc.ten fun m' b hm' => ?_
    rw [Zes5]
    cases b with
    |true =>
     refine Yau ?_
     exact hk _ (.more m' st' h1 hn hm' hst)
    |false =>
     refine Yal ?_
     obtain ⟨_, e, hall⟩ := hm'.false
     subst e
     rw [Zes4]
     refine Ycf ?_
     unfold colC da
     (repeat (first | with_reducible refine Yam ?_ | ((with_reducible apply Yaj); (focus rfl); (focus exact hasA); (focus rfl)) | ((with_reducible apply Ybc); (focus rfl); (focus exact updA); (focus simp); simp only [List.set, Nat.zero_add, Nat.reduceAdd])))
     refine Yaa (X := Swr y.sw y.a y.mr c.blk c.gone) (by exact frmA) ?_
     refine Vdg ?_
     exact T.perm (by ac_rfl) (cl c.s { c.m with stk := [] } 1 [] 2 c.cyc st' _ (hk _ (.last st' h1 hn hall hst)))
   exact T.perm (by ac_rfl) (cl c.s { c.m with stk := [] } c.blk c.gone c.ph c.cyc st' _ go)
 ·-- it sweeps
  have h2 : c.ph = 2 := by rcases gc.phs with h | h | h <;> first | exact absurd h h0 | exact absurd h h1 | exact h
  obtain ⟨b1, b2⟩ := gc.blk h2
  have hgl : c.gone.length ≤ 2 ^ 30 := by
   have h5 := gc.gl h2
   have h6 : 512 * g * c.blk ≤ 512 * 255 * 255 := Nat.mul_le_mul (Nat.mul_le_mul (Nat.le_refl _) hbig) (by omega)
   omega
  rw [Zes16]
  (repeat (first | with_reducible refine Yam ?_ | ((with_reducible apply Yaf); (focus rfl); (focus exact hasA); (focus rfl)) | ((with_reducible apply Yaj); (focus rfl); (focus exact hasA); (focus rfl)) | ((with_reducible apply Ybc); (focus rfl); (focus exact updA); (focus simp); simp only [List.set, Nat.zero_add, Nat.reduceAdd])))
  obtain ⟨st', hst⟩ : ∃ st', st' = IntKind.wrap .i64 (c.st + 1) := ⟨_, rfl⟩
  rw [← hst]
  try rw [Zes14]
  skip
  refine Yaa (X := Al y.a y.d g c.s) (by exact frmA) ?_
  refine Yaa (X := Mkr y.mr y.a (512 * g) most c.m) (by exact frmA) ?_
  refine Yaa (X := Swr y.sw y.a y.mr c.blk c.gone) (by exact frmA) ?_
  refine Vfc gc.inv gc.pl b1 b2 hbig hgl fun s' l hw hS hll => ?_
  rw [Zes13, Zes12]
  refine Yar (fun h => absurd rfl h) (fun _ => ?_)
  rw [Zes10]
  (repeat (first | with_reducible refine Yam ?_ | ((with_reducible apply Yaj); (focus rfl); (focus exact hasA); (focus rfl))))
  refine Yaa (X := Al y.a y.d g s') (by exact frmA) ?_
  refine Yaa (X := Swr y.sw y.a y.mr (c.blk + 1) (c.gone ++ l)) (by exact frmA) ?_
  refine Vaw hS.inv ?_
  rw [Zes9]
  refine Yai (fun hd => ?_) (fun hd => ?_)
  ·rw [Zes8]
   have h := cl s' c.m (c.blk + 1) (c.gone ++ l) 0 (IntKind.wrap .i64 (c.cyc + 1)) st' _ (hk _ (.done s' l st' h2 hw hS hll (by omega) hst))
   (repeat (first | with_reducible refine Yam ?_ | ((with_reducible apply Yaf); (focus rfl); (focus exact hasA); (focus rfl)) | ((with_reducible apply Ybc); (focus rfl); (focus exact updA); (focus simp); simp only [List.set, Nat.zero_add, Nat.reduceAdd])))
   try rw [Zes7]
   skip
   exact T.perm (by ac_rfl) h
  ·exact T.perm (by ac_rfl) (cl s' c.m (c.blk + 1) (c.gone ++ l) c.ph c.cyc st' _ (hk _ (.sweep s' l st' h2 hw hS hll (by omega) hst)))
end
end
section
set_option maxHeartbeats 1000000
/-- the room of an address, in words -/
def rmE (hs : List Hd) (x : Nat) : Nat := if (hd hs (x / 512)).1 = 1 then cw (hd hs (x / 512)).2.1.toNat else (hd hs (x / 512)).2.2.toNat * 512
theorem Yo0 {g k x : Nat} {hs : List Hd} (hk : k < 32) (h : SmCell g hs k x) : rmE hs x = cw k := by
 obtain ⟨b, i, _, _, h1, h2, rfl⟩ := h
 unfold rmE
 rw [Ybi hk h2, h1, if_pos rfl, Int.toNat_natCast]
theorem Yo1 {hs : List Hd} {b n : Nat} (h : WholeP hs b n) : rmE hs (b * 512) = n * 512 := by
 unfold rmE
 rw [Nat.mul_div_cancel _ (by omega)]
 have h1 := h.2.2.1
 have h2 := h.2.2.2.1
 unfold hd
 rw [if_neg (by rw [h1]; decide), h2, Int.toNat_natCast]
theorem Inv.disj {g : Nat} {hs : List Hd} {U : Nat → Bool} {L : Nat → List Int} (inv : Inv g hs U L) {x z : Nat} (hx : U x = true) (hz : U z = true) (hne : x ≠ z) : x + rmE hs x ≤ z ∨ z + rmE hs z ≤ x := by
 have sl : ∀ {x z : Nat}, (∃ k, k < 32 ∧ SmCell g hs k x) → (∃ b n, 1 ≤ b ∧ WholeP hs b n ∧ z = b * 512) → x + rmE hs x ≤ z ∨ z + rmE hs z ≤ x := by
  rintro x z ⟨k, hk, hc⟩ ⟨b', n, _, hw, rfl⟩
  rw [Yo0 hk hc, Yo1 hw]
  obtain ⟨b, i, h1, h2, h3, h4, rfl⟩ := hc
  obtain ⟨r1, r2⟩ := Yep (b := b) hk h4
  by_cases q1 : b < b'
  ·left
   have := Nat.mul_le_mul_right 512 (show b + 1 ≤ b' by omega)
   omega
  ·by_cases q2 : b < b' + n
   ·exfalso
    have hk2 := hw.kind (i := b) (by omega) (by omega)
    rw [h3] at hk2
    simp at hk2
   ·right
    have := Nat.mul_le_mul_right 512 (show b' + n ≤ b by omega)
    rw [Nat.add_mul] at this
    omega
 rcases inv.used x hx with hx | hx <;> rcases inv.used z hz with hz | hz
 ·obtain ⟨k, hk, hcx⟩ := hx
  obtain ⟨k', hk', hcz⟩ := hz
  rw [Yo0 hk hcx, Yo0 hk' hcz]
  obtain ⟨b, i, h1, h2, h3, h4, rfl⟩ := hcx
  obtain ⟨b', i', h1', h2', h3', h4', rfl⟩ := hcz
  obtain ⟨r1, r2⟩ := Yep (b := b) hk h4
  obtain ⟨r1', r2'⟩ := Yep (b := b') hk' h4'
  rcases Nat.lt_trichotomy b b' with q | q | q
  ·left
   have := Nat.mul_le_mul_right 512 (show b + 1 ≤ b' by omega)
   omega
  ·subst q
   rw [h3] at h3'
   simp only [Prod.mk.injEq, true_and] at h3'
   have : k' = k := by omega
   subst this
   unfold cellN at *
   rcases Nat.lt_trichotomy i i' with q | q | q
   ·left
    have := Nat.mul_le_mul_right (cw k') (show i + 1 ≤ i' by omega)
    rw [Nat.add_mul] at this
    omega
   ·subst q; exact absurd rfl hne
   ·right
    have := Nat.mul_le_mul_right (cw k') (show i' + 1 ≤ i by omega)
    rw [Nat.add_mul] at this
    omega
  ·right
   have := Nat.mul_le_mul_right 512 (show b' + 1 ≤ b by omega)
   omega
 ·exact sl hx hz
 ·exact (sl hz hx).symm
 ·obtain ⟨b, n, h1, hw, rfl⟩ := hx
  obtain ⟨b', n', h1', hw', rfl⟩ := hz
  rw [Yo1 hw, Yo1 hw']
  have key : ∀ {b n b' n' : Nat}, WholeP hs b n → WholeP hs b' n' → b < b' → b + n ≤ b' := by
   intro b n b' n' hw hw' hlt
   by_cases q : b' < b + n
   ·exfalso
    have h5 := hw.2.2.2.2 (b' - b) (by omega) (by omega)
    have h6 := hw'.2.2.1
    rw [show b + (b' - b) = b' by omega] at h5
    rw [h5] at h6
    simp at h6
   ·omega
  rcases Nat.lt_trichotomy b b' with q | q | q
  ·left
   have := Nat.mul_le_mul_right 512 (key hw hw' q)
   rw [Nat.add_mul] at this; omega
  ·subst q; exact absurd rfl hne
  ·right
   have := Nat.mul_le_mul_right 512 (key hw' hw q)
   rw [Nat.add_mul] at this; omega
theorem PlOk.fit {c : List Int} {n g x : Nat} {hs : List Hd} {o : Ob} (h : PlOk c n hs g (x : Int) o) : oSize o ≤ rmE hs x ∧ 1 ≤ oSize o ∧ (oHead c n x) = (o, 0) ∧ 512 ≤ x ∧ x < 512 * g := by
 obtain ⟨p1, p2, p3, h4⟩ := h.place
 obtain ⟨r0, _⟩ : oSize o ≠ 0 ∧ True := by
  rcases h4 with ⟨k, hk, hko, hc⟩ | ⟨b, m, rfl, hb, hko, hw, hm⟩
  ·refine ⟨fun h0 => ?_, trivial⟩
   rw [h0] at hko
   exact absurd hko (by unfold kOf; rw [if_neg (by omega)]; simp)
  ·refine ⟨fun h0 => ?_, trivial⟩
   have hw1 := hw.1
   unfold oBlocks at hm
   rw [h0, if_neg (by omega)] at hm
   omega
 have hr := Yem o
 refine ⟨?_, by omega, p3, p2, p1⟩
 rcases h4 with ⟨k, hk, hko, hc⟩ | ⟨b, m, rfl, hb, hko, hw, hm⟩
 ·rw [Yo0 hk hc]
  have hs1 : oSize o ≤ 256 := by
   by_cases q : oSize o ≤ 256
   ·exact q
   ·exfalso
    unfold kOf at hko
    rw [if_neg (by omega)] at hko
    simp at hko
  obtain ⟨k', hk', e1, e2⟩ := Ysa (by omega) hs1
  rw [hko] at e1
  simp only [Prod.mk.injEq, and_true] at e1
  have : k' = k := by omega
  subst this
  exact e2
 ·rw [Yo1 hw]
  unfold oBlocks at hm
  split at hm
  ·have := hw.1; omega
  ·omega
theorem Yp0 {c c' : List Int} {n x : Nat} {o : Ob} (ho : oHead c n x = (o, 0)) (h : ∀ y : Nat, x ≤ y → (y : Int) < x + oSize o → c'[y]? = c[y]?) (h1 : 1 ≤ oSize o) : oHead c' n x = (o, 0) ∧ PtrsL c' n x = PtrsL c n x := by
 have e1 : getI c' (x : Int) = getI c (x : Int) := Ynq (h x (Nat.le_refl _) (by omega))
 have e2 : oHead c' n x = oHead c n x := Ypx e1
 refine ⟨e2.trans ho, ?_⟩
 have hor := (Yfr (c := c) (n := n) (a := (x : Int)) (by rw [ho])).2.2.2
 rw [ho] at hor
 have hsz : oSize o = 1 + o.1 + o.2 := if_pos hor
 unfold oRight at hor
 simp only at hor
 unfold PtrsL
 rw [e2, ho]
 simp only [if_true]
 refine List.map_congr_left fun i hi => ?_
 rw [List.mem_range] at hi
 congr 1
 rw [show (x : Int) + 1 + (i : Int) = ((x + 1 + i : Nat) : Int) by omega]
 exact Ynq (h (x + 1 + i) (by omega) (by omega))
theorem SwR.ptrs {g : Nat} {s s' : St} {l : List Int} (h : SwR g s s' l) (pl : Pl g s) {z : Nat} (hz : s.U z = true) : PtrsL s'.c (64 * g) z = PtrsL s.c (64 * g) z := by
 obtain ⟨o, ho⟩ := pl.obj z hz
 obtain ⟨_, f2, f3, f4, _⟩ := ho.fit
 exact (Yp0 f3 (fun y hy _ => h.c y (by omega)) f2).2
theorem RoomR.far {g : Nat} {s s1 : St} {o : Ob} {x : Nat} (inv : Inv g s.hs s.U s.L) (tie : Tie g s.hs s.F) (hg : g ≤ 255) (hr : RoomR g s o s1 x) : ∀ y : Nat, 512 ≤ y → s1.c[y]? = s.c[y]? := by
 have hl := inv.len
 have key : ∀ b (xs : List Hd), b + xs.length ≤ g → s1.c = wrH s.c b xs → ∀ y : Nat, 512 ≤ y → s1.c[y]? = s.c[y]? := by
  intro b xs hf e2 y hy
  rw [e2, Yzw (by omega)]
 rcases hr with ⟨k, _, _, _, hr⟩ | ⟨n, _, _, _, _, hr⟩
 ·rcases hr.from_ with ⟨h1, _, h2, _⟩ | ⟨b, q, h1, h2, _, _, h3, h4, _, h5, _⟩
  ·rw [h2]; exact fun _ _ => rfl
  ·exact key b _ (by simp; omega) h5
 ·obtain ⟨b, q, _, h1, h2, _, h3, h4, _, h5, _, h6⟩ := hr.from_
  exact key b _ (by rw [Ycy]; omega) h6
theorem Yye {g : Nat} {s s1 : St} {o : Ob} {x : Nat} (pl : Pl g s) (inv : Inv g s.hs s.U s.L) (tie : Tie g s.hs s.F) (hg : g ≤ 255) (hz : oSize o ≠ 0) (hr : RoomR g s o s1 x) :
  (∀ z : Nat, s.U z = true → PtrsL (made s1 o x).c (64 * g) z = PtrsL s.c (64 * g) z) ∧ (∀ p ∈ PtrsL (made s1 o x).c (64 * g) x, p = 0) ∧ 512 ≤ x ∧ x < 512 * g ∧ s.U x = false ∧ (made s1 o x).U = uAdd s.U x ∧ Inv g (made s1 o x).hs (made s1 o x).U (made s1 o x).L := by
 obtain ⟨i1, i2, i3⟩ := hr.inv
 have hU : (made s1 o x).U = uAdd s.U x := by show uAdd s1.U x = _; rw [i3]
 have pl' := pl.made inv tie hg hz hr
 have inv' : Inv g (made s1 o x).hs (made s1 o x).U (made s1 o x).L := by rw [hU]; exact i1
 have hux : (made s1 o x).U x = true := by rw [hU]; unfold uAdd; simp
 obtain ⟨ox, hox⟩ := pl'.obj x hux
 obtain ⟨a1, a2, a3, a4, a5⟩ := hox.fit
 have hoe : ox = o := by
  obtain ⟨f1, f2⟩ := hr.fits hz
  have hrng := Yem o
  have hhead : oHead (X.made s1 o x).c (64 * g) x = (o, 0) := by
   refine Vap ?_ hz (by omega)
   rw [Yfs, List.getD_eq_getElem?_getD]
   show (((zerN s1.c x (oSize o).toNat).set x (oenc x o))[x]?).getD 0 = _
   have hlen : (zerN s1.c x (oSize o).toNat).length = 512 * g := by
    have := pl'.len
    change ((zerN s1.c x (oSize o).toNat).set x (oenc x o)).length = _ at this
    rw [List.length_set] at this; exact this
   rw [List.getElem?_set, if_pos rfl, if_pos (by omega)]; rfl
  rw [hhead] at a3
  simp only [Prod.mk.injEq, and_true] at a3
  exact a3.symm
 subst hoe
 refine ⟨fun z hzu => ?_, fun p hp => ?_, a4, a5, i2, hU, inv'⟩
 ·have hzu' : (made s1 ox x).U z = true := by rw [hU]; unfold uAdd; rw [hzu]; simp
  have hne : x ≠ z := fun e => by subst e; rw [i2] at hzu; cases hzu
  obtain ⟨oz, hoz⟩ := pl'.obj z hzu'
  obtain ⟨b1, b2, b3, b4, b5⟩ := hoz.fit
  have hd := inv'.disj hux hzu' hne
  refine ((Yp0 b3 (c' := s.c) (fun y hy1 hy2 => ?_) b2).2).symm
  rw [Yvy (by omega) (by omega)]
  exact (hr.far inv tie hg y (by omega)).symm
 ·unfold PtrsL at hp
  rw [a3] at hp
  simp only [if_true, List.mem_map, List.mem_range] at hp
  obtain ⟨i, hi, rfl⟩ := hp
  have hor := (Yfr (c := (made s1 ox x).c) (n := 64 * g) (a := (x : Int)) (by rw [a3])).2.2.2
  rw [a3] at hor
  have hsz : oSize ox = 1 + ox.1 + ox.2 := if_pos hor
  unfold oRight at hor
  have e : getI (made s1 ox x).c ((x : Int) + 1 + (i : Int)) = 0 := by
   rw [show (x : Int) + 1 + (i : Int) = ((x + 1 + i : Nat) : Int) by omega, Yfs, List.getD_eq_getElem?_getD]
   show (((zerN s1.c x (oSize ox).toNat).set x (oenc x ox))[x + 1 + i]?).getD 0 = 0
   have hlen : s1.c.length = 512 * g := by
    have := pl'.len
    change ((zerN s1.c x (oSize ox).toNat).set x (oenc x ox)).length = _ at this
    rw [List.length_set, Yjk] at this; exact this
   have hfit := (Yfr (c := (made s1 ox x).c) (n := 64 * g) (a := (x : Int)) (by rw [a3])).2.2.1
   rw [a3] at hfit
   simp only at hfit hor
   rw [List.getElem?_set, if_neg (by omega), Yq2, if_pos ⟨by omega, by omega, by omega⟩]
   rfl
  rw [e]; decide
end
section
set_option maxHeartbeats 2000000
section
variable {B : World} {P R : SL} {t : K}
theorem Vfe {c : List Int} {X : Nat} {w : Int} (h : X < c.length) (y : Nat) : getI (c.set X w) y = if y = X then w else getI c y := by
 rw [Yfs, Yfs, List.getD_eq_getElem?_getD, List.getD_eq_getElem?_getD, List.getElem?_set]
 by_cases e : X = y
 ·subst e; rw [if_pos rfl, if_pos rfl, if_pos h]; rfl
 ·rw [if_neg e, if_neg (fun q => e q.symm)]
end
end
section
set_option maxHeartbeats 1000000
def setS (s : St) (p : Nat) (w : Int) : St := { s with c := s.c.set p w }
theorem Vg4 {to : Int} (h0 : 0 ≤ to) (h1 : to ≤ 1099511627776) : ptrW (IntKind.wrap .u64 to) = to := by
 rw [wu64 h0 (by omega)]
 unfold ptrW min2I
 rw [if_neg (by omega)]
 exact w64 (by omega) (by omega)
theorem Vax {g : Nat} {s : St} (pl : Pl g s) (inv : Inv g s.hs s.U s.L) (hg : g ≤ 255) {z0 : Nat} (hz0 : s.U z0 = true) {i : Int} (hi0 : 0 ≤ i) (hi : i < (oHead s.c (64 * g) z0).1.1) {to : Int} (ht : 0 ≤ to) (ht2 : to ≤ 1099511627776) :
  512 ≤ ((z0 : Int) + 1 + i).toNat ∧ Pl g (setS s ((z0 : Int) + 1 + i).toNat (IntKind.wrap .u64 to)) ∧ (∀ z : Nat, s.U z = true → z ≠ z0 → PtrsL (s.c.set ((z0 : Int) + 1 + i).toNat (IntKind.wrap .u64 to)) (64 * g) z = PtrsL s.c (64 * g) z) ∧
  (∀ p ∈ PtrsL (s.c.set ((z0 : Int) + 1 + i).toNat (IntKind.wrap .u64 to)) (64 * g) z0, p ∈ PtrsL s.c (64 * g) z0 ∨ p = to) := by
 obtain ⟨o, ho⟩ := pl.obj z0 hz0
 obtain ⟨a1, a2, a3, a4, a5⟩ := ho.fit
 rw [a3] at hi
 simp only at hi
 have hor := (Yfr (c := s.c) (n := 64 * g) (a := (z0 : Int)) (by rw [a3])).2.2.2
 rw [a3] at hor
 simp only at hor
 have hsz : oSize o = 1 + o.1 + o.2 := if_pos hor
 unfold oRight at hor
 have hfit := (Yfr (c := s.c) (n := 64 * g) (a := (z0 : Int)) (by rw [a3])).2.2.1
 rw [a3] at hfit
 simp only at hfit
 obtain ⟨j, rfl⟩ := Int.eq_ofNat_of_zero_le hi0
 have ep : ((z0 : Int) + 1 + (j : Int)).toNat = z0 + 1 + j := by omega
 rw [ep]
 have hother : ∀ y : Nat, y ≠ z0 + 1 + j → (s.c.set (z0 + 1 + j) (IntKind.wrap .u64 to))[y]? = s.c[y]? := fun y hy => by rw [List.getElem?_set_ne (by omega)]
 have hapart : ∀ z : Nat, s.U z = true → z ≠ z0 → ∀ oz, PlOk s.c (64 * g) s.hs g (z : Int) oz → ∀ y : Nat, z ≤ y → (y : Int) < z + oSize oz → y ≠ z0 + 1 + j := by
  intro z hz hne oz hoz y hy1 hy2 e
  obtain ⟨b1, b2, b3, b4, b5⟩ := hoz.fit
  have := inv.disj hz hz0 hne
  omega
 refine ⟨by omega, ⟨?_, fun b h1 h2 => ?_, fun x hx => ?_, pl.large⟩, fun z hz hne => ?_, fun p hp => ?_⟩
 ·show (s.c.set _ _).length = _
  rw [List.length_set]; exact pl.len
 ·show getI (s.c.set _ _) _ = benc b (hd s.hs b)
  rw [← pl.hdr b h1 h2]
  rw [show (256 : Int) + (b : Int) = ((256 + b : Nat) : Int) by omega]
  exact Ynq (hother _ (by omega))
 ·have hx : s.U x = true := hx
  obtain ⟨ox, hox⟩ := pl.obj x hx
  refine ⟨ox, hox.keep rfl (hother x ?_) rfl (fun m h => h)⟩
  by_cases e : x = z0
  ·omega
  ·exact hapart x hx e ox hox x (Nat.le_refl _) (by have := hox.fit.2.1; omega)
 ·obtain ⟨oz, hoz⟩ := pl.obj z hz
  obtain ⟨b1, b2, b3, b4, b5⟩ := hoz.fit
  exact (Yp0 b3 (fun y h1 h2 => hother y (hapart z hz hne oz hoz y h1 h2)) b2).2
 ·have eh : oHead (s.c.set (z0 + 1 + j) (IntKind.wrap .u64 to)) (64 * g) z0 = (o, 0) := (Ypx (Ynq (hother z0 (by omega)))).trans a3
  unfold PtrsL at hp ⊢
  rw [eh] at hp
  rw [a3]
  simp only [if_true, List.mem_map, List.mem_range] at hp ⊢
  obtain ⟨k, hk, rfl⟩ := hp
  by_cases e : k = j
  ·right
   subst e
   rw [show (z0 : Int) + 1 + (k : Int) = ((z0 + 1 + k : Nat) : Int) by omega, Vfe (by have := pl.len; omega), if_pos rfl]
   exact Vg4 ht ht2
  ·left
   refine ⟨k, hk, ?_⟩
   congr 1
   rw [show (z0 : Int) + 1 + (k : Int) = ((z0 + 1 + k : Nat) : Int) by omega]
   exact (Ynq (hother _ (by omega))).symm
end
section
set_option maxHeartbeats 1000000
theorem Ya4 {U : Nat → Bool} {x : Int} : has U x = true ↔ ∃ n : Nat, x = n ∧ U n = true := by
 unfold has
 simp only [Bool.and_eq_true, decide_eq_true_eq]
 constructor
 ·rintro ⟨h1, h2⟩
  exact ⟨x.toNat, by omega, h2⟩
 ·rintro ⟨n, rfl, h⟩
  exact ⟨by omega, by rw [Int.toNat_natCast]; exact h⟩
theorem Ysp {U : Nat → Bool} {n x : Nat} (h : x ≠ n) : uAdd U n x = U x := by
 unfold uAdd
 rw [show (x == n) = false by simpa using h, Bool.false_or]
theorem Ybv {U : Nat → Bool} {n x : Nat} : uAdd U n x = true ↔ x = n ∨ U x = true := by unfold uAdd; simp
structure ShS (U : Nat → Bool) (l : List Int) (m m' : Mk) : Prop where
 mono : ∀ x, m.M x = true → m'.M x = true
 new : ∀ x : Nat, m'.M x = true → m.M x = true ∨ (U x = true ∧ (x : Int) ∈ l)
 s : m'.S = m.S
 cur : m'.cur = m.cur
 cov : ∀ x ∈ l, has U x = true → has m'.M x = true
 stk : ∀ y ∈ m.stk, y ∈ m'.stk
 ag : m.again = true → m'.again = true
 fresh : ∀ x : Nat, m'.M x = true → m.M x = false → (x : Int) ∈ m'.stk ∨ m'.again = true
theorem ShS.refl {U : Nat → Bool} {m : Mk} : ShS U [] m m := ⟨fun _ h => h, fun _ h => .inl h, rfl, rfl, by simp, fun _ h => h, fun h => h, fun x h h' => by rw [h'] at h; cases h⟩
theorem ShadeR.spec {U : Nat → Bool} {m m' : Mk} {x : Int} (h : ShadeR U m x m') : ShS U [x] m m' := by
 obtain ⟨n, rfl, h1, h2, h3, h4, h5, h6⟩ := h
 refine ⟨fun y hy => by rw [h3, Ybv]; exact .inr hy, fun y hy => ?_, h4, h5, fun y hy hu => ?_, fun y hy => ?_, fun ha => ?_, fun y hy hy2 => ?_⟩
 ·rw [h3, Ybv] at hy
  rcases hy with rfl | hy
  ·exact .inr ⟨h1, by simp⟩
  ·exact .inl hy
 ·simp only [List.mem_singleton] at hy
  subst hy
  rw [Ycd, h3, Ybv]; exact .inl rfl
 ·rcases h6 with ⟨e, _⟩ | ⟨e, _⟩ <;> rw [e]
  ·exact List.mem_append_left _ hy
  ·exact hy
 ·rcases h6 with ⟨_, e⟩ | ⟨_, e⟩ <;> rw [e]
  exact ha
 ·rw [h3, Ybv] at hy
  rcases hy with rfl | hy
  ·rcases h6 with ⟨e, _⟩ | ⟨_, e⟩
   ·left; rw [e]; simp
   ·right; exact e
  ·rw [hy] at hy2; cases hy2
theorem ShS.cons {U : Nat → Bool} {m m1 m' : Mk} {x : Int} {l : List Int} (h1 : ShS U [x] m m1) (h2 : ShS U l m1 m') : ShS U (x :: l) m m' := by
 refine ⟨fun y h => h2.mono y (h1.mono y h), fun y h => ?_, h2.s.trans h1.s, h2.cur.trans h1.cur, fun y hy hu => ?_, fun y hy => h2.stk y (h1.stk y hy), fun h => h2.ag (h1.ag h), fun y h h' => ?_⟩
 ·rcases h2.new y h with h | ⟨h, h'⟩
  ·rcases h1.new y h with h | ⟨h, h'⟩
   ·exact .inl h
   ·exact .inr ⟨h, by simp only [List.mem_singleton] at h'; rw [h']; exact List.mem_cons_self ..⟩
  ·exact .inr ⟨h, List.mem_cons_of_mem _ h'⟩
 ·rcases List.mem_cons.1 hy with rfl | hy
  ·obtain ⟨n, rfl, hn⟩ := Ya4.1 (h1.cov y (by simp) hu)
   exact Ya4.2 ⟨n, rfl, h2.mono n hn⟩
  ·exact h2.cov y hy hu
 ·cases hm : m1.M y with
  |false => exact h2.fresh y h hm
  |true =>
   rcases h1.fresh y hm h' with q | q
   ·exact .inl (h2.stk _ q)
   ·exact .inr (h2.ag q)
theorem ShS.same {U : Nat → Bool} {m : Mk} {x : Int} (h : has U x = true → has m.M x = true) : ShS U [x] m m :=
 ⟨fun _ h => h, fun _ h => .inl h, rfl, rfl, fun y hy hu => by simp only [List.mem_singleton] at hy; subst hy; exact h hu, fun _ h => h, fun h => h, fun y h h' => by rw [h'] at h; cases h⟩
theorem ShdL.spec {U : Nat → Bool} : ∀ {l : List Int} {m m' : Mk}, ShdL U l m m' → ShS U l m m'
 |[], _, _, h => by cases h; exact ShS.refl
 |x :: l, _, _, ⟨m1, h1, h2⟩ => by
  rcases h1 with h1 | ⟨rfl, h1⟩
  ·exact h1.spec.cons h2.spec
  ·exact (ShS.same h1).cons h2.spec
/-- how many there are below a bound -/
def cnN (p : Nat → Bool) : Nat → Nat
 |0 => 0
 |n + 1 => cnN p n + (if p n then 1 else 0)
theorem Ysq {p q : Nat → Bool} : ∀ {n : Nat}, (∀ x, x < n → p x = q x) → cnN p n = cnN q n
 |0, _ => rfl
 |n + 1, h => by unfold cnN; rw [Ysq (fun x hx => h x (by omega)), h n (by omega)]
theorem Yq7 {p q : Nat → Bool} {x : Nat} : ∀ {n : Nat}, x < n → p x = true → q x = false → (∀ y, y ≠ x → p y = q y) → cnN p n = cnN q n + 1
 |0, h, _, _, _ => by omega
 |n + 1, h, h1, h2, h3 => by
  unfold cnN
  by_cases e : x = n
  ·subst e
   rw [h1, h2, Ysq (fun y hy => h3 y (by omega))]; simp
  ·rw [Yq7 (by omega) h1 h2 h3, h3 n (fun q => e q.symm)]; omega
def pot (g : Nat) (U : Nat → Bool) (m : Mk) : Nat := 3 * cnN (fun x => U x && !m.M x) (512 * g) + cnN (fun x => m.M x && !m.S x) (512 * g) + (if m.again then 1 else 0)
theorem ShadeR.pot {g : Nat} {U : Nat → Bool} {m m' : Mk} {x : Int} (h : ShadeR U m x m') (hU : ∀ y, U y = true → y < 512 * g) (hs : ∀ y, m.S y = true → m.M y = true) : pot g U m' < pot g U m := by
 obtain ⟨n, rfl, h1, h2, h3, h4, h5, h6⟩ := h
 have hn := hU n h1
 have hS : m.S n = false := by
  cases q : m.S n with
  |false => rfl
  |true => rw [hs n q] at h2; cases h2
 have e1 := Yq7 (p := fun x => U x && !m.M x) (q := fun x => U x && !m'.M x) hn (by simp [h1, h2]) (by simp [h3, uAdd]) (fun y hy => by simp only [h3, Ysp hy])
 have e2 := Yq7 (p := fun x => m'.M x && !m'.S x) (q := fun x => m.M x && !m.S x) hn (by simp [h3, h4, uAdd, hS]) (by simp [h2]) (fun y hy => by simp only [h3, h4, Ysp hy])
 unfold X.pot
 have : (if m'.again = true then 1 else 0) ≤ (if m.again = true then 1 else 0) + 1 := by split <;> split <;> omega
 omega
theorem ShadeR.sm {U : Nat → Bool} {m m' : Mk} {x : Int} (h : ShadeR U m x m') (hs : ∀ y, m.S y = true → m.M y = true) : ∀ y, m'.S y = true → m'.M y = true := by
 intro y hy
 have := h.spec
 rw [this.s] at hy
 exact this.mono y (hs y hy)
theorem ShB.pot {g : Nat} {U : Nat → Bool} (hU : ∀ y, U y = true → y < 512 * g) : ∀ {l : List Int} {m m' : Mk} {b b' : Bool}, ShB U l m b m' b' → (∀ y, m.S y = true → m.M y = true) → X.pot g U m' ≤ X.pot g U m ∧ (b = Bool.false → b' = true → X.pot g U m' < X.pot g U m)
 |[], _, _, _, _, ⟨h1, h2⟩, _ => by subst h1 h2; exact ⟨Nat.le_refl _, fun h h' => by rw [h] at h'; cases h'⟩
 |x :: l, _, _, _, _, ⟨m1, b1, h1, h2⟩, hs => by
  rcases h1 with ⟨h1, rfl⟩ | ⟨rfl, rfl, _⟩
  ·have h3 := h1.pot hU hs
   have h4 := (h2.pot hU (h1.sm hs)).1
   exact ⟨by omega, fun _ _ => by omega⟩
  ·exact h2.pot hU hs
theorem ShdL.toB {U : Nat → Bool} : ∀ {l : List Int} {m m' : Mk} (b : Bool), ShdL U l m m' → ∃ b', ShB U l m b m' b'
 |[], _, _, b, h => ⟨b, h, rfl⟩
 |x :: l, m, m', b, ⟨m1, h1, h2⟩ => by
  rcases h1 with h1 | ⟨rfl, h1⟩
  ·obtain ⟨b', hb⟩ := h2.toB true
   exact ⟨b', m1, true, .inl ⟨h1, rfl⟩, hb⟩
  ·obtain ⟨b', hb⟩ := h2.toB b
   exact ⟨b', m1, b, .inr ⟨rfl, rfl, h1⟩, hb⟩
end
section
set_option maxHeartbeats 1000000
abbrev PS (g : Nat) (s : St) (z : Nat) : List Int := PtrsL s.c (64 * g) z
inductive LiveP (g : Nat) (s : St) (pl : List Int) : Nat → Prop
 |root (x : Nat) : (x : Int) ∈ pl → s.U x = true → LiveP g s pl x
 |step (z x : Nat) : LiveP g s pl z → (x : Int) ∈ PS g s z → s.U x = true → LiveP g s pl x
theorem LiveP.used {g : Nat} {s : St} {pl : List Int} {x : Nat} (h : LiveP g s pl x) : s.U x = true := by
 cases h <;> assumption
structure J (g : Nat) (c : Cy) : Prop where
 gc : GoodC g c
 rt : ∀ x ∈ c.pl, x = 0 ∨ has c.s.U x = true
 lp : ∀ z, LiveP g c.s c.pl z → ∀ x ∈ PS g c.s z, x = 0 ∨ has c.s.U x = true
 mu : ∀ x, c.m.M x = true → c.s.U x = true
 sm : ∀ x, c.m.S x = true → c.m.M x = true
 gf : c.ph = 1 → ∀ x : Nat, gry c.m x = true → (x : Int) ∈ c.m.stk ∨ c.m.cur ≤ x ∨ c.m.again = true
 tri : c.ph = 1 → ∀ z, c.m.S z = true → ∀ x ∈ PS g c.s z, has c.s.U x = true → has c.m.M x = true
 lm : c.ph = 2 → ∀ x, LiveP g c.s c.pl x → c.m.M x = true
theorem J.off {g : Nat} {c : Cy} (h : J g c) {x : Nat} (hx : c.s.U x = true) : 512 ≤ x ∧ x < 512 * g := by
 obtain ⟨o, ho⟩ := h.gc.pl.obj x hx
 obtain ⟨_, _, _, h4, h5⟩ := ho.fit
 exact ⟨h4, h5⟩
theorem Yfg {m : Mk} {x : Nat} : gry m x = true ↔ m.M x = true ∧ m.S x = false := by unfold gry; simp
/-- no grey one is left when none is on the stack, nor behind the cursor -/
theorem J.none {g : Nat} {c : Cy} (h : J g c) (hp : c.ph = 1) (hn : MNone c.m) : ∀ x, c.m.M x = true → c.m.S x = true := by
 obtain ⟨n1, n2, n3⟩ := hn
 intro x hM
 cases hS : c.m.S x with
 |true => rfl
 |false =>
  have hg := Yfg.2 ⟨hM, hS⟩
  rcases h.gf hp x hg with q | q | q
  ·rw [n2 _ q x rfl] at hg; cases hg
  ·rw [n3 x q] at hg; cases hg
  ·rw [n1] at q; cases q
/-- one grey one gone through -/
theorem Vay {g : Nat} {c : Cy} (h : J g c) (hp : c.ph = 1) {x : Nat} (hx : gry c.m x = true) {stk' : List Int} {cur' : Int} {m' : Mk} (hgf : ∀ z : Nat, gry c.m z = true → z ≠ x → (z : Int) ∈ stk' ∨ cur' ≤ z ∨ c.m.again = true)
  (hm : ShdL c.s.U (PS g c.s x) { c.m with stk := stk', cur := cur', S := uAdd c.m.S x } m') :
  (∀ y, m'.M y = true → c.s.U y = true) ∧ (∀ y, m'.S y = true → m'.M y = true) ∧ (∀ y : Nat, gry m' y = true → (y : Int) ∈ m'.stk ∨ m'.cur ≤ y ∨ m'.again = true) ∧ (∀ z, m'.S z = true → ∀ x ∈ PS g c.s z, has c.s.U x = true → has m'.M x = true) ∧ pot g c.s.U m' < pot g c.s.U c.m := by
 have sp := hm.spec
 have hx' := Yfg.1 hx
 refine ⟨fun y hy => ?_, fun y hy => ?_, fun y hy => ?_, fun z hz w hw hu => ?_, ?_⟩
 ·rcases sp.new y hy with q | q
  ·exact h.mu y q
  ·exact q.1
 ·rw [sp.s] at hy
  have hy : uAdd c.m.S x y = true := hy
  rcases Ybv.1 hy with rfl | hy
  ·exact sp.mono _ hx'.1
  ·exact sp.mono _ (h.sm y hy)
 ·have hy' := Yfg.1 hy
  have hSy : uAdd c.m.S x y = false := by have := hy'.2; rw [sp.s] at this; exact this
  have hne : y ≠ x := fun e => by subst e; rw [Ybv.2 (.inl rfl)] at hSy; cases hSy
  rw [Ysp hne] at hSy
  rw [sp.cur]
  cases hM : c.m.M y with
  |false =>
   rcases sp.fresh y hy'.1 hM with q | q
   ·exact .inl q
   ·exact .inr (.inr q)
  |true =>
   rcases hgf y (Yfg.2 ⟨hM, hSy⟩) hne with q | q | q
   ·exact .inl (sp.stk _ q)
   ·exact .inr (.inl q)
   ·exact .inr (.inr (sp.ag q))
 ·rw [sp.s] at hz
  have hz : uAdd c.m.S x z = true := hz
  rcases Ybv.1 hz with rfl | hz
  ·exact sp.cov w hw hu
  ·obtain ⟨n, rfl, hn⟩ := Ya4.1 (h.tri hp z hz w hw hu)
   exact Ya4.2 ⟨n, rfl, sp.mono n hn⟩
 ·have hU : ∀ y, c.s.U y = true → y < 512 * g := fun y hy => (h.off hy).2
  obtain ⟨b', hb⟩ := hm.toB Bool.false
  have hpot := (hb.pot hU (fun y hy => by
   have hy : uAdd c.m.S x y = true := hy
   rcases Ybv.1 hy with rfl | hy
   ·exact hx'.1
   ·exact h.sm y hy)).1
  have hlt : x < 512 * g := hU x (h.mu x hx'.1)
  have e := Yq7 (p := fun y => c.m.M y && !c.m.S y) (q := fun y => c.m.M y && !(uAdd c.m.S x y)) hlt (by simp [hx'.1, hx'.2]) (by simp [uAdd]) (fun y hy => by simp only [Ysp hy])
  have e2 : pot g c.s.U { c.m with stk := stk', cur := cur', S := uAdd c.m.S x } + 1 = pot g c.s.U c.m := by
   unfold pot; simp only; omega
  omega
theorem Ywb {g : Nat} {c : Cy} (h : J g c) (hp : c.ph = 2) {s' : St} {l : List Int} (hw : WhL c.s c.m c.blk l) (hS : SwR g c.s s' l) :
  (∀ x, LiveP g s' c.pl x ↔ LiveP g c.s c.pl x) ∧ (∀ x ∈ c.pl, x = 0 ∨ has s'.U x = true) ∧ (∀ z, LiveP g s' c.pl z → ∀ x ∈ PS g s' z, x = 0 ∨ has s'.U x = true) ∧ (∀ x, c.m.M x = true → s'.U x = true) := by
 have hkeep : ∀ x, c.m.M x = true → s'.U x = true := by
  intro x hx
  rw [hS.u x, h.mu x hx, Bool.true_and]
  have : ¬ (x : Int) ∈ l := fun hm => by
   obtain ⟨n, e, _, _, hM, _⟩ := (hw.2 _).1 hm
   have : n = x := by omega
   subst this
   rw [hx] at hM; cases hM
  simp [this]
 have hsub : ∀ x, s'.U x = true → c.s.U x = true := by
  intro x hx
  rw [hS.u x] at hx
  simp only [Bool.and_eq_true] at hx
  exact hx.1
 have hlive : ∀ x, LiveP g c.s c.pl x → s'.U x = true := fun x hx => hkeep x (h.lm hp x hx)
 have hpt : ∀ z, c.s.U z = true → PS g s' z = PS g c.s z := fun z hz => hS.ptrs h.gc.pl hz
 have l1 : ∀ x, LiveP g s' c.pl x → LiveP g c.s c.pl x := by
  intro x hx
  induction hx with
  |root x h1 h2 => exact .root x h1 (hsub x h2)
  |step z x h1 h2 h3 ih => exact .step z x ih (by rw [← hpt z ih.used]; exact h2) (hsub x h3)
 have l2 : ∀ x, LiveP g c.s c.pl x → LiveP g s' c.pl x := by
  intro x hx
  induction hx with
  |root x h1 h2 => exact .root x h1 (hlive x (.root x h1 h2))
  |step z x h1 h2 h3 ih => exact .step z x ih (by rw [hpt z h1.used]; exact h2) (hlive x (.step z x h1 h2 h3))
 refine ⟨fun x => ⟨l1 x, l2 x⟩, fun x hx => ?_, fun z hz x hx => ?_, hkeep⟩
 ·rcases h.rt x hx with q | q
  ·exact .inl q
  ·obtain ⟨n, rfl, hn⟩ := Ya4.1 q
   exact .inr (Ya4.2 ⟨n, rfl, hlive n (.root n hx hn)⟩)
 ·have hz' := l1 z hz
  rw [hpt z hz'.used] at hx
  rcases h.lp z hz' x hx with q | q
  ·exact .inl q
  ·obtain ⟨n, rfl, hn⟩ := Ya4.1 q
   exact .inr (Ya4.2 ⟨n, rfl, hlive n (.step z n hz' hx hn)⟩)
theorem J.step {g : Nat} {c c' : Cy} (h : J g c) (hs : StepR g c c') : J g c' := by
 have hU : ∀ y, c.s.U y = true → y < 512 * g := fun y hy => (h.off hy).2
 obtain ⟨g1, g2, g3, g4, g5, g6, g7, g8⟩ := h.gc
 cases hs with
 |begin m' st' hp hm =>
  have sp := hm.spec
  have hmu : ∀ x, m'.M x = true → c.s.U x = true := fun x hx => (sp.new x hx).elim (fun q => by cases q) (fun q => q.1)
  have hSf : ∀ x, m'.S x = false := fun x => by rw [sp.s]; rfl
  refine ⟨⟨g1, g2, fun y hy => hU y (hmu y hy), .inr (.inl rfl), fun q => (by cases q), fun q => (by cases q), g7, g8⟩, h.rt, h.lp, hmu, fun x hx => (by rw [hSf x] at hx; cases hx), fun _ x hx => ?_, fun _ z hz => (by rw [hSf z] at hz; cases hz), fun q => (by cases q)⟩
  rcases sp.fresh x (Yfg.1 hx).1 rfl with q | q
  ·exact .inl q
  ·exact .inr (.inr q)
 |mark m' st' hp hm =>
  have key : (∀ y, m'.M y = true → c.s.U y = true) ∧ (∀ y, m'.S y = true → m'.M y = true) ∧ (∀ y : Nat, gry m' y = true → (y : Int) ∈ m'.stk ∨ m'.cur ≤ y ∨ m'.again = true) ∧ (∀ z, m'.S z = true → ∀ x ∈ PS g c.s z, has c.s.U x = true → has m'.M x = true) := by
   cases hm with
   |stack x stk' junk _ a1 a2 a3 a4 =>
    have hq : ∀ z : Nat, gry c.m z = true → z ≠ x → (z : Int) ∈ stk' ∨ c.m.cur ≤ z ∨ c.m.again = true := by
     intro z hz hne
     rcases h.gf hp z hz with q | q | q
     ·rw [a2] at q
      rcases List.mem_append.1 q with q | q
      ·exact .inl q
      ·rcases List.mem_cons.1 q with q | q
       ·omega
       ·rw [a3 _ q z rfl] at hz; cases hz
     ·exact .inr (.inl q)
     ·exact .inr (.inr q)
    obtain ⟨k1, k2, k3, k4, _⟩ := Vay h hp a1 (stk' := stk') (cur' := c.m.cur) hq a4
    exact ⟨k1, k2, k3, k4⟩
   |look x _ a1 a2 a3 a4 a5 =>
    have hq : ∀ z : Nat, gry c.m z = true → z ≠ x → (z : Int) ∈ ([] : List Int) ∨ (x : Int) + 1 ≤ z ∨ c.m.again = true := by
     intro z hz hne
     rcases h.gf hp z hz with q | q | q
     ·rw [a3 _ q z rfl] at hz; cases hz
     ·refine .inr (.inl ?_)
      by_cases q2 : z < x
      ·rw [a4 z q q2] at hz; cases hz
      ·omega
     ·exact .inr (.inr q)
    obtain ⟨k1, k2, k3, k4, _⟩ := Vay h hp a1 (stk' := []) (cur' := (x : Int) + 1) hq a5
    exact ⟨k1, k2, k3, k4⟩
   |anew a1 a2 a3 =>
    refine ⟨h.mu, h.sm, fun y hy => .inr (.inl ?_), h.tri hp⟩
    show (0 : Int) ≤ y
    omega
  obtain ⟨k1, k2, k3, k4⟩ := key
  exact ⟨⟨g1, g2, fun y hy => hU y (k1 y hy), g4, g5, g6, g7, g8⟩, h.rt, h.lp, k1, k2, fun _ => k3, fun _ => k4, fun q => (by rw [hp] at q; cases q)⟩
 |more m' st' hp hn hm =>
  have sp := hm.toL.spec
  have hnone := h.none hp hn
  have hmu : ∀ x, m'.M x = true → c.s.U x = true := fun x hx => (sp.new x hx).elim (fun q => h.mu x q) (fun q => q.1)
  have hse : m'.S = c.m.S := sp.s
  refine ⟨⟨g1, g2, fun y hy => hU y (hmu y hy), g4, g5, g6, g7, g8⟩, h.rt, h.lp, hmu, fun x hx => ?_, fun _ x hx => ?_, fun _ z hz w hw hu => ?_, fun q => (by rw [hp] at q; cases q)⟩
  ·rw [hse] at hx; exact sp.mono x (h.sm x hx)
  ·obtain ⟨q1, q2⟩ := Yfg.1 hx
   rw [hse] at q2
   cases hM : c.m.M x with
   |true => rw [hnone x hM] at q2; cases q2
   |false =>
    rcases sp.fresh x q1 hM with q | q
    ·exact .inl q
    ·exact .inr (.inr q)
  ·rw [hse] at hz
   obtain ⟨n, rfl, hn2⟩ := Ya4.1 (h.tri hp z hz w hw hu)
   exact Ya4.2 ⟨n, rfl, sp.mono n hn2⟩
 |last st' hp hn hall =>
  have hnone := h.none hp hn
  have htwo := g1.two
  refine ⟨⟨g1, g2, g3, .inr (.inr rfl), fun _ => ⟨Nat.le_refl _, by show 1 < g; omega⟩, fun _ => by simp, g7, g8⟩, h.rt, h.lp, h.mu, h.sm, fun q => (by cases q), fun q => (by cases q), fun _ x hx => ?_⟩
  show c.m.M x = true
  induction hx with
  |root x h1 h2 =>
   have := hall x h1 (by rw [Ycd]; exact h2)
   rwa [Ycd] at this
  |step z x h1 h2 h3 ih =>
   have := h.tri hp z (hnone z ih) x h2 (by rw [Ycd]; exact h3)
   rwa [Ycd] at this
 |sweep s' l st' hp hw hS hll hb =>
  obtain ⟨k1, k2, k3, k4⟩ := Ywb h hp hw hS
  have := g6 hp
  refine ⟨⟨hS.inv, hS.pl, g3, g4, fun _ => ⟨by simp only; omega, hb⟩, fun _ => ?_, g7, g8⟩, k2, k3, k4, h.sm, fun q => (by rw [hp] at q; cases q), fun q => (by rw [hp] at q; cases q), fun _ x hx => h.lm hp x ((k1 x).1 hx)⟩
  show (c.gone ++ l).length ≤ 512 * g * (c.blk + 1)
  rw [List.length_append, Nat.mul_add]; omega
 |done s' l st' hp hw hS hll hb =>
  obtain ⟨k1, k2, k3, k4⟩ := Ywb h hp hw hS
  exact ⟨⟨hS.inv, hS.pl, g3, .inl rfl, fun q => (by cases q), fun q => (by cases q), g7, g8⟩, k2, k3, k4, h.sm, fun q => (by cases q), fun q => (by cases q), fun q => (by cases q)⟩
end
section
set_option maxHeartbeats 1000000
/-- D was dead when the cycle began; E is what is left of it -/
structure DD (g : Nat) (c : Cy) (D E : Nat → Prop) : Prop where
 eu : ∀ x, E x → c.s.U x = true ∧ c.m.M x = false
 er : ∀ x : Nat, (x : Int) ∈ c.pl → ¬ E x
 ep : ∀ z, c.s.U z = true → ¬ E z → ∀ x : Nat, (x : Int) ∈ PS g c.s z → ¬ E x
 eb : c.ph = 2 → ∀ x, E x → c.blk ≤ x / 512
 dd : ∀ x, D x → E x ∨ (c.ph = 2 ∧ (x : Int) ∈ c.gone)
theorem DD.begin {g : Nat} {c : Cy} (h : J g c) {m' : Mk} {st' : Int} (hm : ShdL c.s.U c.pl (m0 g) m') : DD g { c with m := m', ph := 1, st := st' } (fun x => c.s.U x = true ∧ ¬ LiveP g c.s c.pl x) (fun x => c.s.U x = true ∧ ¬ LiveP g c.s c.pl x) := by
 have sp := hm.spec
 refine ⟨fun x hx => ⟨hx.1, ?_⟩, fun x hx he => he.2 (.root x hx he.1), fun z hz hnz x hx he => ?_, fun q => (by cases q), fun x hx => .inl hx⟩
 ·show m'.M x = false
  cases hM : m'.M x with
  |false => rfl
  |true =>
   rcases sp.new x hM with q | q
   ·cases q
   ·exact absurd (.root x q.2 q.1) hx.2
 ·apply he.2
  by_cases hl : LiveP g c.s c.pl z
  ·exact .step z x hl hx he.1
  ·exact absurd ⟨hz, hl⟩ hnz
theorem DD.mono {g : Nat} {c : Cy} {D E : Nat → Prop} (h : DD g c D E) {m' : Mk} {st' : Int} (hp : c.ph = 1) (hM : ∀ x, m'.M x = true → c.m.M x = true ∨ ¬ E x) : DD g { c with m := m', st := st' } D E := by
 refine ⟨fun x hx => ⟨(h.eu x hx).1, ?_⟩, h.er, h.ep, h.eb, h.dd⟩
 show m'.M x = false
 cases q : m'.M x with
 |false => rfl
 |true =>
  rcases hM x q with r | r
  ·rw [(h.eu x hx).2] at r; cases r
  ·exact absurd hx r
theorem DD.step {g : Nat} {c c' : Cy} {D E : Nat → Prop} (hJ : J g c) (h : DD g c D E) (hs : StepR g c c') (hp0 : c.ph ≠ 0) : (c'.ph ≠ 0 ∧ c'.cyc = c.cyc ∧ ∃ E', DD g c' D E') ∨ (c'.ph = 0 ∧ c'.cyc = IntKind.wrap .i64 (c.cyc + 1) ∧ ∀ x, D x → (x : Int) ∈ c'.gone) := by
 have hsweep : ∀ (s' : St) (l : List Int), c.ph = 2 → WhL c.s c.m c.blk l → SwR g c.s s' l → ∀ (ph' cyc' st' : Int), ph' ≠ 1 → (ph' = 2 ∨ True) → (∀ x, D x → (E x ∧ ¬ (x : Int) ∈ l) ∨ (x : Int) ∈ c.gone ++ l) ∧ (∀ x, E x → ¬ (x : Int) ∈ l → c.blk + 1 ≤ x / 512) := by
  intro s' l hp hw hS ph' cyc' st' _ _
  refine ⟨fun x hx => ?_, fun x hx hl => ?_⟩
  ·rcases h.dd x hx with q | q
   ·by_cases hl : (x : Int) ∈ l
    ·exact .inr (List.mem_append_right _ hl)
    ·exact .inl ⟨q, hl⟩
   ·exact .inr (List.mem_append_left _ q.2)
  ·have h1 := h.eb hp x hx
   have h2 := h.eu x hx
   have hSf : c.m.S x = false := by
    cases q : c.m.S x with
    |false => rfl
    |true => rw [hJ.sm x q] at h2; cases h2.2
   by_cases e : x / 512 = c.blk
   ·exact absurd ((hw.2 _).2 ⟨x, rfl, e, h2.1, h2.2, hSf⟩) hl
   ·omega
 cases hs with
 |begin m' st' hp hm => exact absurd hp hp0
 |mark m' st' hp hm =>
  refine .inl ⟨hp0, rfl, E, h.mono hp fun x hx => ?_⟩
  have key : ∀ (y : Nat) (m1 : Mk), gry c.m y = true → m1.M = c.m.M → ShdL c.s.U (PS g c.s y) m1 m' → c.m.M x = true ∨ ¬ E x := by
   intro y m1 hy e hm
   have hy' := Yfg.1 hy
   rcases hm.spec.new x hx with q | q
   ·rw [e] at q; exact .inl q
   ·exact .inr (h.ep y (hJ.mu y hy'.1) (fun he => by rw [(h.eu y he).2] at hy'; cases hy'.1) x q.2)
  cases hm with
  |stack y stk' junk _ a1 a2 a3 a4 => exact key y { c.m with stk := stk', S := uAdd c.m.S y } a1 rfl a4
  |look y _ a1 a2 a3 a4 a5 => exact key y { c.m with stk := [], cur := (y : Int) + 1, S := uAdd c.m.S y } a1 rfl a5
  |anew a1 a2 a3 => exact .inl hx
 |more m' st' hp hn hm =>
  refine .inl ⟨hp0, rfl, E, h.mono hp fun x hx => ?_⟩
  rcases hm.toL.spec.new x hx with q | q
  ·exact .inl q
  ·exact .inr (h.er x q.2)
 |last st' hp hn hall =>
  refine .inl ⟨by show (2 : Int) ≠ 0; decide, rfl, E, ⟨h.eu, h.er, h.ep, fun _ x hx => ?_, fun x hx => ?_⟩⟩
  ·show 1 ≤ x / 512
   have := (hJ.off (h.eu x hx).1).1
   omega
  ·rcases h.dd x hx with q | q
   ·exact .inl q
   ·rw [hp] at q; cases q.1
 |sweep s' l st' hp hw hS hll hb =>
  obtain ⟨k1, k2⟩ := hsweep s' l hp hw hS 2 0 0 (by decide) (.inl rfl)
  refine .inl ⟨hp0, rfl, fun x => E x ∧ ¬ (x : Int) ∈ l, ⟨fun x hx => ⟨?_, (h.eu x hx.1).2⟩, fun x hx he => h.er x hx he.1, fun z hz hnz x hx he => ?_, fun _ x hx => k2 x hx.1 hx.2, fun x hx => (k1 x hx).imp id fun q => ⟨hp, q⟩⟩⟩
  ·show s'.U x = true
   rw [hS.u x, (h.eu x hx.1).1, decide_eq_false hx.2]; rfl
  ·have hzu : c.s.U z = true := by
    have hz : s'.U z = true := hz
    rw [hS.u z] at hz
    simp only [Bool.and_eq_true] at hz
    exact hz.1
   have hzl : ¬ (z : Int) ∈ l := by
    intro hl
    have hz : s'.U z = true := hz
    rw [hS.u z, decide_eq_true hl] at hz
    simp at hz
   have hx : (x : Int) ∈ PS g s' z := hx
   have e : PS g s' z = PS g c.s z := hS.ptrs hJ.gc.pl hzu
   rw [e] at hx
   exact h.ep z hzu (fun hE => hnz ⟨hE, hzl⟩) x hx he.1
 |done s' l st' hp hw hS hll hb =>
  obtain ⟨k1, k2⟩ := hsweep s' l hp hw hS 0 0 0 (by decide) (.inr trivial)
  refine .inr ⟨rfl, rfl, fun x hx => ?_⟩
  rcases k1 x hx with q | q
  ·exfalso
   have h1 := k2 x q.1 q.2
   have h2 := (hJ.off (h.eu x q.1).1).2
   omega
  ·exact q
def Phi (g : Nat) (c : Cy) : Nat := if c.ph = 1 then pot g c.s.U c.m + g else if c.ph = 2 then g - c.blk else 3 * cnN c.s.U (512 * g) + g + 1
theorem Ywc {g : Nat} {c c' : Cy} (hJ : J g c) (hs : StepR g c c') : (c'.cyc = c.cyc ∧ Phi g c' < Phi g c) ∨ (c'.cyc = IntKind.wrap .i64 (c.cyc + 1) ∧ c'.ph = 0) := by
 have hU : ∀ y, c.s.U y = true → y < 512 * g := fun y hy => (hJ.off hy).2
 have htwo := hJ.gc.inv.two
 cases hs with
 |begin m' st' hp hm =>
  left
  refine ⟨rfl, ?_⟩
  obtain ⟨b', hb⟩ := hm.toB Bool.false
  have := (hb.pot hU (fun y hy => by cases hy)).1
  have e : pot g c.s.U (m0 g) = 3 * cnN c.s.U (512 * g) := by
   unfold pot m0
   have e1 : cnN (fun x => c.s.U x && !Bool.false) (512 * g) = cnN c.s.U (512 * g) := Ysq fun x _ => by simp
   have e2 : cnN (fun _ => Bool.false && !Bool.false) (512 * g) = 0 := by
    generalize 512 * g = n
    induction n with
    |zero => rfl
    |succ n ih => unfold cnN; rw [ih]; rfl
   rw [e1, e2]; simp
  unfold Phi
  rw [if_pos (show (1 : Int) = 1 from rfl), if_neg (by omega), if_neg (by omega)]
  show X.pot g c.s.U m' + g < _
  omega
 |mark m' st' hp hm =>
  left
  refine ⟨rfl, ?_⟩
  unfold Phi
  rw [if_pos hp, if_pos hp]
  have key : pot g c.s.U m' < pot g c.s.U c.m := by
   cases hm with
   |stack x stk' junk _ a1 a2 a3 a4 =>
    refine (Vay hJ hp a1 (stk' := stk') (cur' := c.m.cur) (fun z hz hne => ?_) a4).2.2.2.2
    rcases hJ.gf hp z hz with q | q | q
    ·rw [a2] at q
     rcases List.mem_append.1 q with q | q
     ·exact .inl q
     ·rcases List.mem_cons.1 q with q | q
      ·omega
      ·rw [a3 _ q z rfl] at hz; cases hz
    ·exact .inr (.inl q)
    ·exact .inr (.inr q)
   |look x _ a1 a2 a3 a4 a5 =>
    refine (Vay hJ hp a1 (stk' := []) (cur' := (x : Int) + 1) (fun z hz hne => ?_) a5).2.2.2.2
    rcases hJ.gf hp z hz with q | q | q
    ·rw [a3 _ q z rfl] at hz; cases hz
    ·refine .inr (.inl ?_)
     by_cases q2 : z < x
     ·rw [a4 z q q2] at hz; cases hz
     ·omega
    ·exact .inr (.inr q)
   |anew a1 a2 a3 =>
    unfold pot
    simp only [a1]
    simp
  show X.pot g c.s.U m' + g < _
  omega
 |more m' st' hp hn hm =>
  left
  refine ⟨rfl, ?_⟩
  unfold Phi
  rw [if_pos hp, if_pos hp]
  have h1 := (hm.pot hU hJ.sm).2 rfl rfl
  show X.pot g c.s.U m' + g < _
  have e : pot g c.s.U { c.m with stk := [] } = pot g c.s.U c.m := rfl
  omega
 |last st' hp hn hall =>
  left
  refine ⟨rfl, ?_⟩
  unfold Phi
  rw [if_neg (show ¬ (2 : Int) = 1 by decide), if_pos (show (2 : Int) = 2 from rfl), if_pos hp]
  show g - 1 < _
  omega
 |sweep s' l st' hp hw hS hll hb =>
  left
  refine ⟨rfl, ?_⟩
  unfold Phi
  rw [if_neg (by rw [hp]; decide), if_pos hp, if_neg (by rw [hp]; decide), if_pos hp]
  show g - (c.blk + 1) < _
  omega
 |done s' l st' hp hw hS hll hb => exact .inr ⟨rfl, rfl⟩
theorem Vhx {g : Nat} {c : Cy} (hJ : J g c) : Phi g c ≤ 3 * cnN c.s.U (512 * g) + g + 1 := by
 unfold Phi
 split
 ·rename_i hp
  unfold pot
  have key : ∀ n, cnN (fun x => c.s.U x && !c.m.M x) n + cnN (fun x => c.m.M x && !c.m.S x) n ≤ cnN c.s.U n := by
   intro n
   induction n with
   |zero => exact Nat.le_refl _
   |succ n ih =>
    unfold cnN
    cases hM : c.m.M n with
    |false => simp; split <;> omega
    |true => rw [hJ.mu n hM]; simp; split <;> omega
  have := key (512 * g)
  split <;> omega
 ·split <;> omega
end
section
set_option maxHeartbeats 1000000
theorem J.zero {g : Nat} {c : Cy} (h : J g c) : has c.s.U 0 = false := by
 cases q : has c.s.U 0 with
 |false => rfl
 |true =>
  obtain ⟨n, e, hn⟩ := Ya4.1 q
  have := (h.off hn).1
  omega
theorem DD.live {g : Nat} {c : Cy} {D E : Nat → Prop} (h : DD g c D E) {x : Nat} (hx : LiveP g c.s c.pl x) : ¬ E x := by
 induction hx with
 |root x h1 h2 => exact h.er x h1
 |step z x h1 h2 h3 ih => exact h.ep z h1.used ih x h2
/-- places get what one comes to -/
theorem J.places {g : Nat} {c : Cy} (h : J g c) {pl' : List Int} (hl : pl'.length = 10) (hp : ∀ x ∈ pl', x = 0 ∨ ∃ n : Nat, x = n ∧ LiveP g c.s c.pl n) : J g { c with pl := pl' } := by
 have l1 : ∀ x, LiveP g c.s pl' x → LiveP g c.s c.pl x := by
  intro x hx
  induction hx with
  |root x h1 h2 =>
   rcases hp x h1 with q | ⟨n, e, hn⟩
   ·have := (h.off h2).1; omega
   ·have : n = x := by omega
    subst this; exact hn
  |step z x h1 h2 h3 ih => exact .step z x ih h2 h3
 obtain ⟨g1, g2, g3, g4, g5, g6, g7, g8⟩ := h.gc
 refine ⟨⟨g1, g2, g3, g4, g5, g6, hl, g8⟩, fun x hx => ?_, fun z hz => h.lp z (l1 z hz), h.mu, h.sm, h.gf, h.tri, fun q x hx => h.lm q x (l1 x hx)⟩
 rcases hp x hx with q | ⟨n, rfl, hn⟩
 ·exact .inl q
 ·exact .inr (Ya4.2 ⟨n, rfl, hn.used⟩)
theorem DD.places {g : Nat} {c : Cy} {D E : Nat → Prop} (hJ : J g c) (h : DD g c D E) {pl' : List Int} (hp : ∀ x ∈ pl', x = 0 ∨ ∃ n : Nat, x = n ∧ LiveP g c.s c.pl n) : DD g { c with pl := pl' } D E := by
 refine ⟨h.eu, fun x hx he => ?_, h.ep, h.eb, h.dd⟩
 rcases hp x hx with q | ⟨n, e, hn⟩
 ·have := (hJ.off (h.eu x he).1).1; omega
 ·have : n = x := by omega
  subst this
  exact h.live hn he
theorem J.rootLive {g : Nat} {c : Cy} (h : J g c) {x : Int} (hx : x ∈ c.pl) : x = 0 ∨ ∃ n : Nat, x = n ∧ LiveP g c.s c.pl n := by
 rcases h.rt x hx with q | q
 ·exact .inl q
 ·obtain ⟨n, rfl, hn⟩ := Ya4.1 q
  exact .inr ⟨n, rfl, .root n hx hn⟩
/-- a root is shaded -/
theorem J.shade {g : Nat} {c : Cy} (h : J g c) (hp : c.ph = 1) {v : Int} {m' : Mk} (hm : ShadeR c.s.U c.m v m') : J g { c with m := m' } := by
 have sp := hm.spec
 have hU : ∀ y, c.s.U y = true → y < 512 * g := fun y hy => (h.off hy).2
 obtain ⟨g1, g2, g3, g4, g5, g6, g7, g8⟩ := h.gc
 have hmu : ∀ x, m'.M x = true → c.s.U x = true := fun x hx => (sp.new x hx).elim (fun q => h.mu x q) (fun q => q.1)
 refine ⟨⟨g1, g2, fun y hy => hU y (hmu y hy), g4, g5, g6, g7, g8⟩, h.rt, h.lp, hmu, fun x hx => ?_, fun _ x hx => ?_, fun _ z hz w hw hu => ?_, fun q => (by rw [hp] at q; cases q)⟩
 ·rw [sp.s] at hx; exact sp.mono x (h.sm x hx)
 ·obtain ⟨q1, q2⟩ := Yfg.1 hx
  rw [sp.s] at q2
  rw [sp.cur]
  cases hM : c.m.M x with
  |true =>
   rcases h.gf hp x (Yfg.2 ⟨hM, q2⟩) with q | q | q
   ·exact .inl (sp.stk _ q)
   ·exact .inr (.inl q)
   ·exact .inr (.inr (sp.ag q))
  |false =>
   rcases sp.fresh x q1 hM with q | q
   ·exact .inl q
   ·exact .inr (.inr q)
 ·rw [sp.s] at hz
  obtain ⟨n, rfl, hn2⟩ := Ya4.1 (h.tri hp z hz w hw hu)
  exact Ya4.2 ⟨n, rfl, sp.mono n hn2⟩
theorem DD.shade {g : Nat} {c : Cy} {D E : Nat → Prop} (h : DD g c D E) (hp : c.ph = 1) {v : Int} (hv : v ∈ c.pl) {m' : Mk} (hm : ShadeR c.s.U c.m v m') : DD g { c with m := m' } D E := by
 refine h.mono (st' := c.st) hp fun x hx => ?_
 rcases hm.spec.new x hx with q | q
 ·exact .inl q
 ·right
  have := q.2
  simp only [List.mem_singleton] at this
  exact h.er x (this ▸ hv)
/-- a pointer of one in use leads to a root, or nowhere -/
theorem J.set {g : Nat} {c : Cy} (h : J g c) {z0 : Nat} (hz0 : c.s.U z0 = true) {i v : Int} (hi0 : 0 ≤ i) (hi : i < (oHead c.s.c (64 * g) z0).1.1) (hv : v ∈ c.pl) (hsh : c.ph = 1 → has c.s.U v = true → has c.m.M v = true) :
  J g { c with s := setS c.s ((z0 : Int) + 1 + i).toNat (IntKind.wrap .u64 v) } ∧ (∀ {D E : Nat → Prop}, DD g c D E → DD g { c with s := setS c.s ((z0 : Int) + 1 + i).toNat (IntKind.wrap .u64 v) } D E) := by
 have hg := h.gc.big
 have hvr : 0 ≤ v ∧ v ≤ 1099511627776 := by
  rcases h.rt v hv with q | q
  ·omega
  ·obtain ⟨n, rfl, hn⟩ := Ya4.1 q
   have := (h.off hn).2
   omega
 obtain ⟨k1, k2, k3, k4⟩ := Vax h.gc.pl h.gc.inv hg hz0 hi0 hi hvr.1 hvr.2
 generalize hs' : setS c.s ((z0 : Int) + 1 + i).toNat (IntKind.wrap .u64 v) = s' at *
 have eU : s'.U = c.s.U := by rw [← hs']; rfl
 have ehs : s'.hs = c.s.hs := by rw [← hs']; rfl
 have eL : s'.L = c.s.L := by rw [← hs']; rfl
 have ec : s'.c = c.s.c.set ((z0 : Int) + 1 + i).toNat (IntKind.wrap .u64 v) := by rw [← hs']; rfl
 have hps : ∀ z, c.s.U z = true → ∀ x ∈ PS g s' z, x ∈ PS g c.s z ∨ (z = z0 ∧ x = v) := by
  intro z hz x hx
  unfold PS at hx
  rw [ec] at hx
  by_cases e : z = z0
  ·subst e
   exact (k4 x hx).imp id fun q => ⟨rfl, q⟩
  ·rw [k3 z hz e] at hx
   exact .inl hx
 have l1 : ∀ x, LiveP g s' c.pl x → LiveP g c.s c.pl x := by
  intro x hx
  induction hx with
  |root x h1 h2 => exact .root x h1 (by rw [← eU]; exact h2)
  |step z x h1 h2 h3 ih =>
   rw [eU] at h3
   rcases hps z ih.used x h2 with q | ⟨_, q⟩
   ·exact .step z x ih q h3
   ·exact .root x (q ▸ hv) h3
 obtain ⟨g1, g2, g3, g4, g5, g6, g7, g8⟩ := h.gc
 refine ⟨⟨⟨by show Inv g s'.hs s'.U s'.L; rw [ehs, eU, eL]; exact g1, k2, g3, g4, g5, g6, g7, g8⟩, fun x hx => by rw [show ({ c with s := s' } : Cy).s.U = c.s.U from eU]; exact h.rt x hx, fun z hz x hx => ?_, fun x hx => by rw [show ({ c with s := s' } : Cy).s.U = c.s.U from eU]; exact h.mu x hx, h.sm, h.gf, fun q z hz x hx hu => ?_, fun q x hx => h.lm q x (l1 x hx)⟩, fun {D E} hD => ⟨fun x hx => by rw [show ({ c with s := s' } : Cy).s.U = c.s.U from eU]; exact hD.eu x hx, hD.er, fun z hz hnz x hx => ?_, hD.eb, hD.dd⟩⟩
 ·rw [show ({ c with s := s' } : Cy).s.U = c.s.U from eU]
  have hz' := l1 z hz
  rcases hps z hz'.used x hx with q | ⟨_, q⟩
  ·exact h.lp z hz' x q
  ·rw [q]; exact h.rt v hv
 ·rw [show ({ c with s := s' } : Cy).s.U = c.s.U from eU] at hu
  rcases hps z (h.mu z (h.sm z hz)) x hx with r | ⟨_, r⟩
  ·exact h.tri q z hz x r hu
  ·rw [r] at hu ⊢; exact hsh q hu
 ·have hz : c.s.U z = true := by rw [← eU]; exact hz
  rcases hps z hz x hx with q | ⟨_, q⟩
  ·exact hD.ep z hz hnz x q
  ·exact hD.er x (q ▸ hv)
end
section
set_option maxHeartbeats 1000000
def mMade (ph : Int) (m : Mk) (x : Nat) : Mk := if ph ≠ 0 then { m with M := uAdd m.M x, S := uAdd m.S x } else m
theorem Yzx {ph : Int} {m : Mk} {x y : Nat} (h : (mMade ph m x).M y = true) : y = x ∨ m.M y = true := by
 unfold mMade at h
 split at h
 ·exact Ybv.1 h
 ·exact .inr h
theorem Yup {ph : Int} {m : Mk} {x y : Nat} (h : m.M y = true) : (mMade ph m x).M y = true := by
 unfold mMade
 split
 ·exact Ybv.2 (.inr h)
 ·exact h
theorem Vg5 {g : Nat} {c : Cy} (h : J g c) {s1 : St} {o : Ob} {x : Nat} (tie : Tie g c.s.hs c.s.F) (hz : oSize o ≠ 0) (hr : RoomR g c.s o s1 x) (a : Nat) :
  J g { c with s := made s1 o x, m := mMade c.ph c.m x, pl := c.pl.set a (x : Int) } ∧ (∀ {D E : Nat → Prop}, DD g c D E → DD g { c with s := made s1 o x, m := mMade c.ph c.m x, pl := c.pl.set a (x : Int) } D E) := by
 obtain ⟨g1, g2, g3, g4, g5, g6, g7, g8⟩ := h.gc
 obtain ⟨m1, m2, m3, m4, m5, m6, m7⟩ := Yye g2 g1 tie g8 hz hr
 have pl' := g2.made g1 tie g8 hz hr
 generalize hs' : made s1 o x = s' at *
 have m1 : ∀ z : Nat, c.s.U z = true → PS g s' z = PS g c.s z := m1
 have m2 : ∀ p ∈ PS g s' x, p = 0 := m2
 have hx' : s'.U x = true := by rw [m6]; exact Ybv.2 (.inl rfl)
 have hup : ∀ y, c.s.U y = true → s'.U y = true := fun y hy => by rw [m6]; exact Ybv.2 (.inr hy)
 have hdn : ∀ y, s'.U y = true → y = x ∨ c.s.U y = true := fun y hy => by rw [m6] at hy; exact Ybv.1 hy
 have hup2 : ∀ v : Int, has c.s.U v = true → has s'.U v = true := fun v hv => by
  obtain ⟨n, rfl, hn⟩ := Ya4.1 hv
  exact Ya4.2 ⟨n, rfl, hup n hn⟩
 have hmx : ∀ y, c.m.M y = true → y ≠ x := fun y hy e => by subst e; have := h.mu y hy; rw [m5] at this; cases this
 have hpl : ∀ v ∈ c.pl.set a (x : Int), v ∈ c.pl ∨ v = x := fun v hv => List.mem_or_eq_of_mem_set hv
 have l1 : ∀ y, LiveP g s' (c.pl.set a (x : Int)) y → y = x ∨ LiveP g c.s c.pl y := by
  intro y hy
  induction hy with
  |root y h1 h2 =>
   rcases hpl y h1 with q | q
   ·rcases hdn y h2 with r | r
    ·exact .inl r
    ·exact .inr (.root y q r)
   ·exact .inl (by omega)
  |step z y h1 h2 h3 ih =>
   rcases ih with q | q
   ·subst q
    have := m2 y h2
    have h5 : y = 0 := by omega
    subst h5
    have := (h.off (x := 0))
    rcases hdn 0 h3 with r | r
    ·omega
    ·have := (this r).1; omega
   ·have h2 : (y : Int) ∈ PS g c.s z := by rw [← m1 z q.used]; exact h2
    rcases hdn y h3 with r | r
    ·-- a pointer of a live one leads to one in use
     subst r
     rcases h.lp z q y h2 with t | t
     ·omega
     ·rw [Ycd, m5] at t; cases t
    ·exact .inr (.step z y q h2 r)
 refine ⟨⟨⟨m7, pl', fun y hy => ?_, g4, g5, g6, by show (c.pl.set a _).length = 10; rw [List.length_set]; exact g7, g8⟩, fun v hv => ?_, fun z hz v hv => ?_, fun y hy => ?_, fun y hy => ?_, fun hp y hy => ?_, fun hp z hz v hv hu => ?_, fun hp y hy => ?_⟩, fun {D E} hD => ⟨fun y hy => ⟨hup y (hD.eu y hy).1, ?_⟩, fun y hy he => ?_, fun z hz hnz y hy he => ?_, hD.eb, hD.dd⟩⟩
 ·rcases Yzx hy with rfl | q
  ·exact m4
  ·exact g3 y q
 ·rcases hpl v hv with q | q
  ·exact (h.rt v q).imp id (hup2 v)
  ·exact .inr (Ya4.2 ⟨x, q, hx'⟩)
 ·rcases l1 z hz with q | q
  ·subst q; exact .inl (m2 v hv)
  ·have hv : v ∈ PS g c.s z := by rw [← m1 z q.used]; exact hv
   exact (h.lp z q v hv).imp id (hup2 v)
 ·rcases Yzx hy with rfl | q
  ·exact hx'
  ·exact hup y (h.mu y q)
 ·have hy : (mMade c.ph c.m x).S y = true := hy
  show (mMade c.ph c.m x).M y = true
  unfold mMade at *
  split at hy
  ·rename_i q
   rw [if_pos q]
   rcases Ybv.1 hy with r | r
   ·exact Ybv.2 (.inl r)
   ·exact Ybv.2 (.inr (h.sm y r))
  ·rename_i q
   rw [if_neg q]
   exact h.sm y hy
 ·have hp : c.ph = 1 := hp
  have hy : gry (mMade c.ph c.m x) y = true := hy
  show (y : Int) ∈ (mMade c.ph c.m x).stk ∨ (mMade c.ph c.m x).cur ≤ y ∨ (mMade c.ph c.m x).again = true
  have em : mMade c.ph c.m x = { c.m with M := uAdd c.m.M x, S := uAdd c.m.S x } := if_pos (by omega)
  rw [em] at hy ⊢
  obtain ⟨q1, q2⟩ := Yfg.1 hy
  have q1 : uAdd c.m.M x y = true := q1
  have q2 : uAdd c.m.S x y = false := q2
  have hne : y ≠ x := fun e => by subst e; rw [Ybv.2 (.inl rfl)] at q2; cases q2
  rw [Ysp hne] at q1 q2
  exact h.gf hp y (Yfg.2 ⟨q1, q2⟩)
 ·have hp : c.ph = 1 := hp
  have hz : (mMade c.ph c.m x).S z = true := hz
  show has (mMade c.ph c.m x).M v = true
  have hmono : has c.m.M v = true → has (mMade c.ph c.m x).M v = true := fun q => by
   obtain ⟨n, rfl, hn⟩ := Ya4.1 q
   exact Ya4.2 ⟨n, rfl, Yup hn⟩
  have hzS : z = x ∨ c.m.S z = true := by
   unfold mMade at hz
   split at hz
   ·exact Ybv.1 hz
   ·exact .inr hz
  rcases hzS with q | q
  ·subst q
   have := m2 v hv
   subst this
   exfalso
   obtain ⟨n, e, hn⟩ := Ya4.1 hu
   have : n = 0 := by omega
   subst this
   rcases hdn 0 hn with r | r
   ·omega
   ·have := (h.off r).1; omega
  ·have hv : v ∈ PS g c.s z := by rw [← m1 z (h.mu z (h.sm z q))]; exact hv
   obtain ⟨n, rfl, hn⟩ := Ya4.1 hu
   rcases hdn n hn with r | r
   ·subst r
    refine Ya4.2 ⟨n, rfl, ?_⟩
    unfold mMade
    rw [if_pos (by omega)]
    exact Ybv.2 (.inl rfl)
   ·exact hmono (h.tri hp z q n hv (by rw [Ycd]; exact r))
 ·have hp : c.ph = 2 := hp
  show (mMade c.ph c.m x).M y = true
  rcases l1 y hy with q | q
  ·subst q
   unfold mMade
   rw [if_pos (by omega)]
   exact Ybv.2 (.inl rfl)
  ·exact Yup (h.lm hp y q)
 ·show (mMade c.ph c.m x).M y = false
  cases q : (mMade c.ph c.m x).M y with
  |false => rfl
  |true =>
   rcases Yzx q with r | r
   ·subst r
    have := (hD.eu y hy).1
    rw [m5] at this; cases this
   ·rw [(hD.eu y hy).2] at r; cases r
 ·rcases hpl y hy with q | q
  ·exact hD.er y q he
  ·have : y = x := by omega
   subst this
   have := (hD.eu y he).1
   rw [m5] at this; cases this
 ·have hz : s'.U z = true := hz
  rcases hdn z hz with q | q
  ·subst q
   have := m2 y hy
   have h5 : y = 0 := by omega
   subst h5
   have := (h.off (hD.eu 0 he).1).1
   omega
  ·have hy : (y : Int) ∈ PS g c.s z := by rw [← m1 z q]; exact hy
   exact hD.ep z q hnz y hy he
/-- one that nobody comes to is freed -/
theorem J.free {g : Nat} {c : Cy} (h : J g c) {s' : St} {n : Nat} (hf : FreeR g c.s s' n) (hn : ¬ LiveP g c.s c.pl n) :
  J g { c with s := s', m := { c.m with M := uDrop c.m.M n, S := uDrop c.m.S n } } ∧ (∀ x, LiveP g s' c.pl x ↔ LiveP g c.s c.pl x) := by
 obtain ⟨g1, g2, g3, g4, g5, g6, g7, g8⟩ := h.gc
 have hS : SwR g c.s s' ([] ++ [(n : Int)]) := (SwR.refl g1 g2).free g8 hf
 have hdrop : ∀ (U : Nat → Bool) y, uDrop U n y = true ↔ y ≠ n ∧ U y = true := fun U y => by unfold uDrop; simp
 have hsub : ∀ x, s'.U x = true → c.s.U x = true := fun x hx => by rw [hf.u, hdrop] at hx; exact hx.2
 have hlive : ∀ x, LiveP g c.s c.pl x → s'.U x = true := fun x hx => by
  rw [hf.u, hdrop]
  exact ⟨fun e => hn (e ▸ hx), hx.used⟩
 have hpt : ∀ z, c.s.U z = true → PS g s' z = PS g c.s z := fun z hz => hS.ptrs g2 hz
 have l1 : ∀ x, LiveP g s' c.pl x → LiveP g c.s c.pl x := by
  intro x hx
  induction hx with
  |root x h1 h2 => exact .root x h1 (hsub x h2)
  |step z x h1 h2 h3 ih => exact .step z x ih (by rw [← hpt z ih.used]; exact h2) (hsub x h3)
 have l2 : ∀ x, LiveP g c.s c.pl x → LiveP g s' c.pl x := by
  intro x hx
  induction hx with
  |root x h1 h2 => exact .root x h1 (hlive x (.root x h1 h2))
  |step z x h1 h2 h3 ih => exact .step z x ih (by rw [hpt z h1.used]; exact h2) (hlive x (.step z x h1 h2 h3))
 refine ⟨⟨⟨hS.inv, hS.pl, fun y hy => g3 y ((hdrop _ _).1 hy).2, g4, g5, g6, g7, g8⟩, fun x hx => ?_, fun z hz x hx => ?_, fun x hx => ?_, fun x hx => ?_, fun hp x hx => ?_, fun hp z hz x hx hu => ?_, fun hp x hx => ?_⟩, fun x => ⟨l1 x, l2 x⟩⟩
 ·rcases h.rt x hx with q | q
  ·exact .inl q
  ·obtain ⟨k, rfl, hk⟩ := Ya4.1 q
   exact .inr (Ya4.2 ⟨k, rfl, hlive k (.root k hx hk)⟩)
 ·have hz' := l1 z hz
  have hx : x ∈ PS g c.s z := by rw [← hpt z hz'.used]; exact hx
  rcases h.lp z hz' x hx with q | q
  ·exact .inl q
  ·obtain ⟨k, rfl, hk⟩ := Ya4.1 q
   exact .inr (Ya4.2 ⟨k, rfl, hlive k (.step z k hz' hx hk)⟩)
 ·have hx := (hdrop _ _).1 hx
  show s'.U x = true
  rw [hf.u, hdrop]
  exact ⟨hx.1, h.mu x hx.2⟩
 ·have hx := (hdrop _ _).1 hx
  exact (hdrop _ _).2 ⟨hx.1, h.sm x hx.2⟩
 ·obtain ⟨q1, q2⟩ := Yfg.1 hx
  have q1 := (hdrop _ _).1 q1
  have q2 : c.m.S x = false := by
   cases q : c.m.S x with
   |false => rfl
   |true =>
    have q2 : uDrop c.m.S n x = false := q2
    rw [(hdrop _ _).2 ⟨q1.1, q⟩] at q2; cases q2
  exact h.gf hp x (Yfg.2 ⟨q1.2, q2⟩)
 ·have hz := (hdrop _ _).1 hz
  have hx : x ∈ PS g c.s z := by rw [← hpt z (h.mu z (h.sm z hz.2))]; exact hx
  obtain ⟨k, rfl, hk⟩ := Ya4.1 hu
  have hk : s'.U k = true := hk
  rw [hf.u, hdrop] at hk
  have := h.tri hp z hz.2 k hx (by rw [Ycd]; exact hk.2)
  rw [Ycd] at this
  exact Ya4.2 ⟨k, rfl, (hdrop _ _).2 ⟨hk.1, this⟩⟩
 ·have hx' := l1 x hx
  exact (hdrop _ _).2 ⟨fun e => hn (e ▸ hx'), h.lm hp x hx'⟩
end
section
set_option maxHeartbeats 2000000
inductive Walk (g : Nat) (c : Cy) : Nat → Cy → Prop
 |nil : Walk g c 0 c
 |cons (n : Nat) (c1 c2 : Cy) : Walk g c n c1 → StepR g c1 c2 → c2.cyc = c1.cyc → Walk g c (n + 1) c2
theorem Walk.J {g : Nat} {c c' : Cy} {n : Nat} (h : X.J g c) (w : Walk g c n c') : X.J g c' ∧ c'.cyc = c.cyc ∧ Phi g c' + n ≤ Phi g c := by
 induction w with
 |nil => exact ⟨h, rfl, Nat.le_refl _⟩
 |cons n c1 c2 w hs hc ih =>
  obtain ⟨h1, h2, h3⟩ := ih
  refine ⟨h1.step hs, hc.trans h2, ?_⟩
  rcases Ywc h1 hs with ⟨_, q⟩ | ⟨q, _⟩
  ·omega
  ·rw [wdef] at q
   split at q <;> omega
section
variable {B : World} {P R : SL} {t : K}
theorem Vg6 {g : Nat} {y : Lay} {most : Int} {c3 : Option Addr} {c : Cy} (h : X.J g c) (hc0 : 0 ≤ c.cyc) (hc1 : c.cyc < 2 ^ 62) {n : Int} {k : Bool × Int → K}
  (h0 : ∀ c' m, Walk g c m c' → (m : Int) = max2I (min2I n 1048576) 0 → T B (R * CW g y most c3 c') (k (false, 0)))
  (h1 : ∀ m c1 c', Walk g c m c1 → (m : Int) < n → StepR g c1 c' → c'.cyc = c.cyc + 1 → c'.ph = 0 → T B (R * CW g y most c3 c') (k (true, 0))) :
  T B (R * CW g y most c3 c) (Ya9 (da y.cl) n k) := by
 refine Yaq (Yj0 _ n k) ?_
 rw [Yg7, Zer11]
 have hN : max2I (min2I n 1048576) 0 ≤ 1048576 := by unfold max2I min2I; split <;> split <;> omega
 have hN2 : 0 ≤ max2I (min2I n 1048576) 0 := by unfold max2I; split <;> omega
 obtain ⟨N, hNe⟩ := Int.eq_ofNat_of_zero_le hN2
 have hNlt : ∀ i : Nat, (i : Int) < min2I n 1048576 ↔ i < N := by
  intro i
  rw [show min2I n 1048576 = min2I n 1048576 from rfl]
  unfold max2I at hNe
  split at hNe <;> omega
 refine Yl2 (fun _ (z : Int × Unit) => ex fun c1 : Cy => R * CW g y most c3 c1 * pu (Walk g c z.1.toNat c1)) (fun m (z : Int × Unit) => ∃ i : Nat, z.1 = i ∧ i ≤ N ∧ m = N - i) N (fun t ht => ?_) ⟨0, rfl, by omega, rfl⟩ ?_
 ·intro w hw
  exact ht w (Yds c (Sat.puI (Walk.nil) hw))
 rintro m ⟨z, uu⟩ cc ⟨i, e1, e2, e3⟩ hcc
 simp only at e1
 subst e1 e3
 simp only [Int.toNat_natCast]
 refine Ysw fun c1 hw => ?_
 obtain ⟨j1, j2, j3⟩ := hw.J h
 rw [Zer10, Zer9]
 refine Yai (fun hlt => ?_) (fun hge => ?_)
 ·have hi := (hNlt i).1 hlt
  rw [Zer8]
  refine Ycf ?_
  unfold colC da
  refine Yam ?_
  refine Yaf (i := 5) rfl Has.last rfl ?_
  rw [Zer7]
  have go : T B (R * CW g y most c3 c1) (Ycg (some ⟨y.cl, 0, none⟩) fun x17 => Zer6 (some ⟨y.cl, 0, none⟩) k i cc c1.cyc x17) := by
   refine Vfd j1.gc fun c2 hs => ?_
   rw [Zer6, Zer5]
   refine Yar (fun h => absurd rfl h) (fun _ => ?_)
   rw [Zer3]
   refine Ycf ?_
   unfold colC da
   refine Yam ?_
   refine Yaf (i := 5) rfl Has.last rfl ?_
   rw [Zer2]
   have close := fun t ht => @Ybn B R t g y most c3 c2.s c2.m c2.blk c2.gone c2.pl c2.ph c2.cyc c2.st ht
   unfold colC da at close
   refine Yai (fun hgt => ?_) (fun hle => ?_)
   ·rcases Ywc j1 hs with ⟨q, _⟩ | ⟨q, qp⟩
    ·rw [q] at hgt; omega
    ·rw [w64 (by omega) (by omega)] at q
     refine close _ (h1 i c1 c2 hw ?_ hs (by omega) qp)
     unfold min2I at hlt
     split at hlt <;> omega
   ·rcases Ywc j1 hs with ⟨q, _⟩ | ⟨q, _⟩
    ·refine close _ ?_
     intro w hw1
     have e : (IntKind.wrap .i64 ((i : Int) + 1)).toNat = i + 1 := by rw [w64 (by omega) (by omega)]; omega
     refine hcc (N - (i + 1)) (IntKind.wrap .i64 ((i : Int) + 1), ()) (by omega) ⟨i + 1, w64 (by omega) (by omega), by omega, rfl⟩ w (Yds c2 (Sat.puI ?_ hw1))
     simp only [e]
     exact .cons i c1 c2 hw hs q
    ·rw [w64 (by omega) (by omega)] at q; omega
  have close := @Ybn B R _ g y most c3 c1.s c1.m c1.blk c1.gone c1.pl c1.ph c1.cyc c1.st go
  unfold colC da at close
  exact close
 ·have : i = N := by
   have := (hNlt i).2
   by_cases q : i < N
   ·exact absurd (this q) hge
   ·omega
  subst this
  exact h0 c1 i hw hNe.symm
/-- numbers of it -/
theorem Vg7 {g : Nat} {y : Lay} {most : Int} {c3 : Option Addr} {c : Cy} {k : Int → K} (hk : T B (R * CW g y most c3 c) (k c.ph)) : T B (R * CW g y most c3 c) (Yda (da y.cl) k) := by
 refine Yaq (Yii _ k) ?_
 have close := @Ybn B R _ g y most c3 c.s c.m c.blk c.gone c.pl c.ph c.cyc c.st hk
 refine Ycf ?_
 unfold colC da at *
 (repeat (first | with_reducible refine Yam ?_ | ((with_reducible apply Yaf); (focus rfl); (focus exact hasA); (focus rfl))))
 exact close
theorem Vff {g : Nat} {y : Lay} {most : Int} {c3 : Option Addr} {c : Cy} {k : Int → K} (hk : T B (R * CW g y most c3 c) (k c.cyc)) : T B (R * CW g y most c3 c) (Yc1 (da y.cl) k) := by
 refine Yaq (Yhv _ k) ?_
 have close := @Ybn B R _ g y most c3 c.s c.m c.blk c.gone c.pl c.ph c.cyc c.st hk
 refine Ycf ?_
 unfold colC da at *
 (repeat (first | with_reducible refine Yam ?_ | ((with_reducible apply Yaf); (focus rfl); (focus exact hasA); (focus rfl))))
 exact close
theorem Vg8 {g : Nat} {y : Lay} {most : Int} {c3 : Option Addr} {c : Cy} {k : Int → K} (hk : T B (R * CW g y most c3 c) (k c.st)) : T B (R * CW g y most c3 c) (Ydd (da y.cl) k) := by
 refine Yaq (Yik _ k) ?_
 have close := @Ybn B R _ g y most c3 c.s c.m c.blk c.gone c.pl c.ph c.cyc c.st hk
 refine Ycf ?_
 unfold colC da at *
 (repeat (first | with_reducible refine Yam ?_ | ((with_reducible apply Yaf); (focus rfl); (focus exact hasA); (focus rfl))))
 exact close
theorem Vby {g : Nat} {y : Lay} {most x : Int} {c3 : Option Addr} {c : Cy} {k : Int → K} (hk : T B (R * CW g y most c3 c) (k (col c.m x))) : T B (R * CW g y most c3 c) (Yc2 (da y.cl) x k) := by
 refine Yaq (Yhw _ x k) ?_
 have close := @Ybn B R _ g y most c3 c.s c.m c.blk c.gone c.pl c.ph c.cyc c.st hk
 refine Ycf ?_
 unfold colC da at *
 (repeat (first | with_reducible refine Yam ?_ | ((with_reducible apply Yaj); (focus rfl); (focus exact hasA); (focus rfl))))
 refine Yaa (X := Mkr y.mr y.a (512 * g) most c.m) (by exact frmA) ?_
 refine Yvz ?_
 exact T.perm (by ac_rfl) close
theorem Vdi {g : Nat} {y : Lay} {most : Int} {x : Nat} {c3 : Option Addr} {c : Cy} {k : Unit → K} (hk : T B (R * CW g y most c3 { c with m := { c.m with M := uDrop c.m.M x, S := uDrop c.m.S x } }) (k ())) : T B (R * CW g y most c3 c) (Ydb (da y.cl) x k) := by
 refine Yaq (Yij _ x k) ?_
 have close := @Ybn B R _ g y most c3 c.s { c.m with M := uDrop c.m.M x, S := uDrop c.m.S x } c.blk c.gone c.pl c.ph c.cyc c.st hk
 refine Ycf ?_
 unfold colC da at *
 (repeat (first | with_reducible refine Yam ?_ | ((with_reducible apply Yaj); (focus rfl); (focus exact hasA); (focus rfl))))
 refine Yaa (X := Mkr y.mr y.a (512 * g) most c.m) (by exact frmA) ?_
 refine Ve4 ?_
 exact T.perm (by ac_rfl) close
theorem Vfg {g : Nat} {y : Lay} {most : Int} {x : Nat} (hx : x < 512 * g) {c3 : Option Addr} {c : Cy} {k : Unit → K} (hk : T B (R * CW g y most c3 { c with m := mMade c.ph c.m x }) (k ())) : T B (R * CW g y most c3 c) (Ydk (da y.cl) x k) := by
 refine Yaq (Yji _ x k) ?_
 have close := @Ybn B R _ g y most c3 c.s (mMade c.ph c.m x) c.blk c.gone c.pl c.ph c.cyc c.st hk
 refine Ycf ?_
 unfold colC da at *
 rw [Ygh]
 refine Yam ?_
 refine Yaf (i := 4) rfl Has.last rfl ?_
 rw [Zex1]
 unfold mMade at close
 refine Yar (fun h => ?_) (fun h => ?_)
 ·rw [if_pos h] at close
  rw [Zex0]
  (repeat (first | with_reducible refine Yam ?_ | ((with_reducible apply Yaj); (focus rfl); (focus exact hasA); (focus rfl))))
  refine Yaa (X := Mkr y.mr y.a (512 * g) most c.m) (by exact frmA) ?_
  refine Vc8 hx ?_
  exact T.perm (by ac_rfl) close
 ·rw [if_neg (by rw [h]; simp)] at close
  exact close
theorem Vbz {g : Nat} {y : Lay} {most x : Int} {c3 : Option Addr} {c : Cy} {k : Unit → K} (h0 : (c.ph = 1 → has c.s.U x = true → has c.m.M x = true) → T B (R * CW g y most c3 c) (k ())) (h1 : ∀ m', c.ph = 1 → ShadeR c.s.U c.m x m' → T B (R * CW g y most c3 { c with m := m' }) (k ())) :
  T B (R * CW g y most c3 c) (Yc3 (da y.cl) x k) := by
 refine Yaq (Yhx _ x k) ?_
 have close := fun m t ht => @Ybn B R t g y most c3 c.s m c.blk c.gone c.pl c.ph c.cyc c.st ht
 refine Ycf ?_
 unfold colC da at *
 rw [Yfi]
 refine Yam ?_
 refine Yaf (i := 4) rfl Has.last rfl ?_
 rw [Zey1]
 refine Ybr (fun h => ?_) (fun h => ?_)
 ·rw [Zey0]
  (repeat (first | with_reducible refine Yam ?_ | ((with_reducible apply Yaj); (focus rfl); (focus exact hasA); (focus rfl))))
  refine Yaa (X := Al y.a y.d g c.s) (by exact frmA) ?_
  refine Yaa (X := Mkr y.mr y.a (512 * g) most c.m) (by exact frmA) ?_
  refine Yzv (fun m' hm => ?_) (fun hn => ?_)
  ·exact T.perm (by ac_rfl) (close _ _ (h1 m' h hm))
  ·exact T.perm (by ac_rfl) (close _ _ (h0 fun _ => hn))
 ·exact close _ _ (h0 fun q => absurd q h)
theorem Ytw {a n u : Nat} {U : Nat → Bool} {p1 p2 p5 : Option Addr} {i3 : Int} {k : Sl → K} (hk : ∀ sl, T B (R * pt a (.cells [.pointer p1, .pointer p2, .int .i64 i3, .pointer (some ⟨u, 0, none⟩), .pointer p5].toArray 47) * Bm u n U * vec 3 1 sl (ints (uBel U n))) (k sl)) :
  T B (R * pt a (.cells [.pointer p1, .pointer p2, .int .i64 i3, .pointer (some ⟨u, 0, none⟩), .pointer p5].toArray 47) * Bm u n U) (Yan (some ⟨a, 0, none⟩) k) := by
 refine Yaq (Yd7 _ k) ?_
 (repeat (first | with_reducible refine Yam ?_ | ((with_reducible apply Yaj); (focus rfl); (focus exact hasA); (focus rfl))))
 exact Yoq hk
theorem Vdj {g : Nat} {y : Lay} {most : Int} {c3 : Option Addr} {c : Cy} (gc : GoodC g c) {k : Int → K} (hk : T B (R * CW g y most c3 c) (k (2 * (4 * ((uBel c.s.U (512 * g)).length : Int) + g) + 16))) : T B (R * CW g y most c3 c) (Yc9 (da y.cl) k) := by
 refine Yaq (Yih _ k) ?_
 have close := @Ybn B R _ g y most c3 c.s c.m c.blk c.gone c.pl c.ph c.cyc c.st hk
 have hbig := gc.big
 have ub := @Ylz c.s.U (512 * g)
 rw [Yf6, Zep1]
 refine Ycf ?_
 refine Yak ?_
 unfold colC da at *
 refine Yam ?_
 refine Yaj (i := 0) (n := some ⟨y.a, 0, none⟩) rfl Has.last rfl ?_
 refine Yam ?_
 refine Yaj (i := 0) (n := some ⟨y.a, 0, none⟩) rfl Has.last rfl ?_
 refine Yam ?_
 refine Yaa (X := Al y.a y.d g c.s) (by exact frmA) ?_
 refine Ycu fun mm u f => ?_
 have cl2 : ∀ t, T B (R * Mkr y.mr y.a (512 * g) most c.m * Swr y.sw y.a y.mr c.blk c.gone * RootsR y c3 c.pl * pt y.cl (.cells [.pointer (some ⟨y.a, 0, none⟩), .pointer (some ⟨y.mr, 0, none⟩), .pointer (some ⟨y.sw, 0, none⟩), (rootsF y.rb).v, .int .i64 c.ph, .int .i64 c.cyc, .int .i64 c.st].toArray 129) * Al y.a y.d g c.s) t → _ := fun t ht => Yax (m := mm) (u := u) (f := f) ht
 refine Yaa (X := Mg mm y.d g c.s.hs c.s.F) (by exact frmA) ?_
 refine Yhu fun tt xx tie => ?_
 unfold da at *
 refine Yaj (i := 0) (n := some ⟨mm, 0, none⟩) rfl (by exact hasA) rfl ?_
 refine Yam ?_
 refine Yaj (i := 0) (n := some ⟨tt, 0, none⟩) rfl (by exact hasA) rfl ?_
 refine Yaa (X := pt y.a _) (by exact frmA) ?_
 refine Yaa (X := Bm u (512 * g) c.s.U) (by exact frmA) ?_
 refine Ytw fun sl => ?_
 refine Yc0 .last fun hn => ?_
 rw [Yag, Nat.mul_one] at hn
 (repeat (first | with_reducible refine Ybe ?_ | ((with_reducible apply Ycm); (focus rfl); (focus exact hasA); (focus rfl))))
 refine Yaa (X := Tab tt y.d g c.s.hs) (by exact frmA) ?_
 refine Yk7 ?_
 rw [gc.inv.len, Zep0, hn]
 rw [w64 (n := 4 * ((uBel c.s.U (512 * g)).length : Int)) (by omega) (by omega), w64 (n := 4 * ((uBel c.s.U (512 * g)).length : Int) + g) (by omega) (by omega), w64 (n := 2 * (4 * ((uBel c.s.U (512 * g)).length : Int) + g)) (by omega) (by omega), w64 (n := 2 * (4 * ((uBel c.s.U (512 * g)).length : Int) + g) + 16) (by omega) (by omega)]
 refine Yac (by exact frmA : Frm _ (vec 3 1 sl _) _) ?_
 have h9 := cl2 _ (T.perm (by ac_rfl) close)
 have h10 : T B (R * Mkr y.mr y.a (512 * g) most c.m * Swr y.sw y.a y.mr c.blk c.gone * RootsR y c3 c.pl * pt y.cl (.cells [.pointer (some ⟨y.a, 0, none⟩), .pointer (some ⟨y.mr, 0, none⟩), .pointer (some ⟨y.sw, 0, none⟩), (rootsF y.rb).v, .int .i64 c.ph, .int .i64 c.cyc, .int .i64 c.st].toArray 129) * LDx y.d (64 * g) c.s.c * Bm u (512 * g) c.s.U * Fl f c.s.L * pt y.a (.cells [.pointer (some ⟨mm, 0, none⟩), .pointer (some ⟨y.d, 0, none⟩), .int .i64 g, .pointer (some ⟨u, 0, none⟩), .pointer (some ⟨f, 0, none⟩)].toArray 47) * Mg mm y.d g c.s.hs c.s.F) (k (2 * (4 * ((uBel c.s.U (512 * g)).length : Int) + g) + 16)) := T.perm (by ac_rfl) h9
 have h11 := Yfq (a := tt) (x := xx) tie h10
 unfold da at h11
 exact T.perm (by ac_rfl) h11
end
end
section
set_option maxHeartbeats 2000000
theorem StepR.gl {g : Nat} {c c' : Cy} (hJ : J g c) (hs : StepR g c c') (hp : c.ph ≠ 0) (hp' : c'.ph = 0) : c'.gone.length ≤ 512 * g * g := by
 have key : ∀ l : List Int, c.ph = 2 → l.length ≤ 512 * g → (c.gone ++ l).length ≤ 512 * g * g := by
  intro l h2 hl
  have h1 := hJ.gc.gl h2
  have h3 := (hJ.gc.blk h2).2
  have h4 : 512 * g * (c.blk + 1) ≤ 512 * g * g := Nat.mul_le_mul_left _ h3
  rw [Nat.mul_add] at h4
  rw [List.length_append]; omega
 cases hs with
 |begin m' st' hp hm => cases hp'
 |mark m' st' h hm => exact absurd hp' hp
 |more m' st' h hn hm => exact absurd hp' hp
 |last st' h hn hall => cases hp'
 |sweep s' l st' h hw hS hll hb => exact absurd hp' hp
 |done s' l st' h hw hS hll hb => exact key l h hll
def Eff (g : Nat) (c c' : Cy) : Prop := J g c' ∧ c.cyc ≤ c'.cyc ∧ c'.cyc ≤ c.cyc + 1 ∧ ∀ D E, DD g c D E → c.ph ≠ 0 → ((c'.ph ≠ 0 ∧ c'.cyc = c.cyc ∧ ∃ E', DD g c' D E') ∨ (c'.ph = 0 ∧ c'.cyc = c.cyc + 1 ∧ c'.gone.length ≤ 512 * g * g ∧ ∀ x, D x → (x : Int) ∈ c'.gone))
theorem Walk.DD {g : Nat} {c c' : Cy} {n : Nat} {D E : Nat → Prop} (hJ : X.J g c) (hc1 : c.cyc < 2 ^ 62) (hc0 : 0 ≤ c.cyc) (w : Walk g c n c') (h : X.DD g c D E) (hp : c.ph ≠ 0) : c'.ph ≠ 0 ∧ ∃ E', X.DD g c' D E' := by
 induction w with
 |nil => exact ⟨hp, E, h⟩
 |cons n c1 c2 w hs hc ih =>
  obtain ⟨q1, E1, q2⟩ := ih
  obtain ⟨j1, j2, _⟩ := w.J hJ
  rcases q2.step j1 hs q1 with ⟨r1, _, r2⟩ | ⟨_, r, _⟩
  ·exact ⟨r1, r2⟩
  ·rw [w64 (by omega) (by omega)] at r; omega
theorem Eff.walk {g : Nat} {c c' : Cy} {n : Nat} (hJ : J g c) (hc1 : c.cyc < 2 ^ 62) (hc0 : 0 ≤ c.cyc) (w : Walk g c n c') : Eff g c c' := by
 obtain ⟨j1, j2, _⟩ := w.J hJ
 refine ⟨j1, by omega, by omega, fun D E hD hp => ?_⟩
 obtain ⟨q1, q2⟩ := w.DD hJ hc1 hc0 hD hp
 exact .inl ⟨q1, j2, q2⟩
theorem Eff.ended {g : Nat} {c c1 c' : Cy} {n : Nat} (hJ : J g c) (hc1 : c.cyc < 2 ^ 62) (hc0 : 0 ≤ c.cyc) (w : Walk g c n c1) (hs : StepR g c1 c') (hcc : c'.cyc = c.cyc + 1) (hp0 : c'.ph = 0) : Eff g c c' := by
 obtain ⟨j1, j2, _⟩ := w.J hJ
 refine ⟨j1.step hs, by omega, by omega, fun D E hD hp => ?_⟩
 obtain ⟨q1, E1, q2⟩ := w.DD hJ hc1 hc0 hD hp
 rcases q2.step j1 hs q1 with ⟨r1, _, _⟩ | ⟨r0, r, r2⟩
 ·exact absurd hp0 r1
 ·exact .inr ⟨hp0, hcc, hs.gl j1 q1 hp0, r2⟩
theorem Eff.same {g : Nat} {c c' : Cy} (hJ : J g c') (hc : c'.cyc = c.cyc) (hp : c'.ph = c.ph) (hD : ∀ D E, DD g c D E → ∃ E', DD g c' D E') : Eff g c c' :=
 ⟨hJ, by omega, by omega, fun D E h hp0 => .inl ⟨by rw [hp]; exact hp0, hc, hD D E h⟩⟩
def rmV (y : Lay) : Option Addr × Option Addr × Sl × Option Addr × Option Addr := (da y.a, da y.d, nilS, da y.cl, da y.pb)
section
variable {B : World} {P R : SL} {t : K}
theorem Vdk {i : Int} {k : Int → K} (hk : ∀ p : Nat, p < 10 → T B R (k p)) : T B R (Ygj i k) := by
 refine Yaq (Ytt i k) ?_
 rw [Ysn, Zgr0]
 have h1 : -9 ≤ Int.tmod i 10 ∧ Int.tmod i 10 ≤ 9 := by
  rcases Int.le_total 0 i with h | h
  ·rw [Int.tmod_eq_emod_of_nonneg h]; omega
  ·have : Int.tmod i 10 = -((-i) % 10) := by
    rw [← Int.tmod_eq_emod_of_nonneg (by omega), Int.neg_tmod]; omega
   omega
 rw [w64 (by omega) (by omega), Int.tmod_eq_emod_of_nonneg (by omega)]
 obtain ⟨p, hp⟩ := Int.eq_ofNat_of_zero_le (show 0 ≤ (Int.tmod i 10 + 10) % 10 by omega)
 rw [hp]
 exact hk p (by omega)
theorem Ysr {g p : Nat} {y : Lay} {most : Int} {c3 : Option Addr} {c : Cy} (hl : c.pl.length = 10) (hp : p < 10) {k : Int → K} (hk : T B (R * CW g y most c3 c) (k (c.pl[p]'(by omega)))) :
  T B (R * CW g y most c3 c) (nn (da y.pb) fun x => ixA x 10 (p : Int) 1 fun x2 => ldI .i64 x2 k) := by
 have close := @Ybn B R _ g y most c3 c.s c.m c.blk c.gone c.pl c.ph c.cyc c.st hk
 refine Ycf ?_
 unfold RootsR at *
 unfold da at *
 simp only [← Yad] at *
 refine Yam ?_
 refine Yyo (by omega) (by omega) ?_
 refine Yaf (i := p) (by rw [Int.toNat_natCast, Nat.mul_one, Yay, Nat.zero_add]) (by exact hasA) (Ydn (by omega)) ?_
 exact close
theorem Vaz {g p : Nat} {y : Lay} {most v : Int} {c3 : Option Addr} {c : Cy} (hl : c.pl.length = 10) (hp : p < 10) {t : K} (hk : T B (R * CW g y most c3 { c with pl := c.pl.set p v }) t) :
  T B (R * CW g y most c3 c) (nn (da y.pb) fun x => ixA x 10 (p : Int) 1 fun x2 => stK (Addr.add x2 0) (.int .i64 v) t) := by
 have close := @Ybn B R _ g y most c3 c.s c.m c.blk c.gone (c.pl.set p v) c.ph c.cyc c.st hk
 refine Ycf ?_
 unfold RootsR at *
 unfold da at *
 simp only [← Yad] at *
 refine Yam ?_
 refine Yyo (by omega) (by omega) ?_
 refine Yaa (X := pt y.pb _) (by exact frmA) ?_
 refine Ybc (i := p) (by rw [Int.toNat_natCast, Nat.mul_one, Yay, Yay, Nat.zero_add]; rfl) Upd.last (by rw [Yag]; omega) ?_
 rw [Yz8]
 exact T.perm (by ac_rfl) close
/-- an object is asked for -/
theorem Vdl {g : Nat} {y : Lay} {most m p q : Int} {c3 : Option Addr} {c : Cy} (hJ : J g c) (hg : g ≤ 16) (hm : 0 ≤ m ∧ m < 4) (hpq : oSize (p, q) ≠ 0 ∧ oSize (p, q) ≤ ((g : Int) - 1) * 512) {k : Int × Int → K}
  (h0 : T B (R * CW g y most c3 c) (k (0, 4))) (h1 : ∀ (x : Nat) s1, Tie g c.s.hs c.s.F → RoomR g c.s (p, q) s1 x → T B (R * CW g y most c3 { c with s := made s1 (p, q) x }) (k ((x : Int), 0))) :
  T B (R * CW g y most c3 c) (Yb3 (da y.a) m p q k) := by
 have close := fun s t ht => @Ybn B R t g y most c3 s c.m c.blk c.gone c.pl c.ph c.cyc c.st ht
 refine Ycf ?_
 refine Yaa (X := Al y.a y.d g c.s) (by exact frmA) ?_
 refine Vhr fun tie => ?_
 refine Vgs hJ.gc.inv (by omega) (fun h => absurd hm h) (fun _ _ h => ?_) (fun _ _ _ _ _ => ?_) (fun _ _ _ _ x s1 hr => ?_)
 ·rcases h with h | h
  ·exact absurd h hpq.1
  ·omega
 ·exact T.perm (by ac_rfl) (close _ _ h0)
 ·exact T.perm (by ac_rfl) (close _ _ (h1 x s1 tie hr))
theorem Vg9 {g : Nat} {y : Lay} {most i : Int} {x : Nat} {c3 : Option Addr} {c : Cy} (hg : g ≤ 255) {k : Int × Int → K} (hk : ∀ v e, (e = 0 → v ∈ PS g c.s x) → T B (R * CW g y most c3 c) (k (v, e))) :
  T B (R * CW g y most c3 c) (Yfu (da y.d) x i k) := by
 have close := fun t ht => @Ybn B R t g y most c3 c.s c.m c.blk c.gone c.pl c.ph c.cyc c.st ht
 refine Ycf ?_
 refine Yaa (X := Al y.a y.d g c.s) (by exact frmA) ?_
 refine Vaq fun la Z cl => ?_
 refine Yqc (by omega) ?_
 refine cl c.s.c _ _ (fun h => h) ?_
 have fin : ∀ v e, (e = 0 → v ∈ PS g c.s x) → T B (R * Mkr y.mr y.a (512 * g) most c.m * Swr y.sw y.a y.mr c.blk c.gone * RootsR y c3 c.pl * pt y.cl (.cells (colC y c.ph c.cyc c.st).toArray 129) * Al y.a y.d g c.s) (k (v, e)) := fun v e h => T.perm (by ac_rfl) (close _ (hk v e h))
 unfold fieldP
 split
 ·rename_i h
  try rw [if_pos h]
  exact fin 0 _ (fun e => absurd e h)
 ·rename_i h
  simp only [ne_eq, Classical.not_not] at h
  split
  ·rename_i hi
   try rw [if_neg (by simp)]
   refine fin _ 0 fun _ => ?_
   show _ ∈ PtrsL c.s.c (64 * g) x
   unfold PtrsL
   rw [if_pos h]
   obtain ⟨j, rfl⟩ := Int.eq_ofNat_of_zero_le hi.1
   exact List.mem_map.2 ⟨j, by rw [List.mem_range]; omega, rfl⟩
  ·try rw [if_pos (by simp)]
   exact fin 0 _ (fun e => by cases e)
theorem Vb0 {g : Nat} {y : Lay} {most i v : Int} {x : Nat} {c3 : Option Addr} {c : Cy} (hJ : J g c) (hx : c.s.U x = true) (hv : v ∈ c.pl) (hsh : c.ph = 1 → has c.s.U v = true → has c.m.M v = true) {k : Int → K} (hk : ∀ c' e, Eff g c c' → T B (R * CW g y most c3 c') (k e)) :
  T B (R * CW g y most c3 c) (Ye1 (da y.d) x i v k) := by
 have close := fun s t ht => @Ybn B R t g y most c3 s c.m c.blk c.gone c.pl c.ph c.cyc c.st ht
 have hg := hJ.gc.big
 refine Ycf ?_
 refine Yaa (X := Al y.a y.d g c.s) (by exact frmA) ?_
 refine Vaq fun la Z cl => ?_
 refine Ysb (by omega) (fun e => ?_) (fun h1 h2 h3 h4 => ?_)
 ·refine cl c.s.c _ _ (fun h => h) ?_
  exact T.perm (by ac_rfl) (close c.s _ (hk c e (Eff.same hJ rfl rfl fun D E h => ⟨E, h⟩)))
 ·obtain ⟨j1, j2⟩ := hJ.set hx h2 h3 hv hsh
  have h512 := (Vax hJ.gc.pl hJ.gc.inv hg hx h2 h3 (to := v) h4 (by
   rcases hJ.rt v hv with q | q
   ·omega
   ·obtain ⟨n, rfl, hn⟩ := Ya4.1 q
    have := (hJ.off hn).2
    omega)).1
  refine cl _ _ _ (fun h i hi1 hi2 => ?_) ?_
  ·rw [List.getElem?_set_ne (by omega)]; exact h i hi1 hi2
  ·exact T.perm (by ac_rfl) (close (setS c.s ((x : Int) + 1 + i).toNat (IntKind.wrap .u64 v)) _ (hk { c with s := setS c.s ((x : Int) + 1 + i).toNat (IntKind.wrap .u64 v) } 0 (Eff.same j1 rfl rfl fun D E h => ⟨E, j2 h⟩)))
end
end
section
set_option maxHeartbeats 2000000
section
variable {B : World} {P R : SL} {t : K}
theorem Eff.places {g : Nat} {c : Cy} (hJ : J g c) {v : Int} (p : Nat) (hv : v = 0 ∨ ∃ n : Nat, v = n ∧ LiveP g c.s c.pl n) : Eff g c { c with pl := c.pl.set p v } := by
 have hp : ∀ x ∈ c.pl.set p v, x = 0 ∨ ∃ n : Nat, x = n ∧ LiveP g c.s c.pl n := fun x hx => by
  rcases List.mem_or_eq_of_mem_set hx with q | q
  ·exact hJ.rootLive q
  ·rw [q]; exact hv
 exact Eff.same (hJ.places (by rw [List.length_set]; exact hJ.gc.ten) hp) rfl rfl fun D E h => ⟨E, h.places hJ hp⟩
theorem do_c {g : Nat} {y : Lay} {most : Int} {c3 : Option Addr} {c : Cy} {op : Int × Int × Int × Int × Int} (hJ : J g c) (hg : g ≤ 16) (hc0 : 0 ≤ c.cyc) (hc1 : c.cyc < 2 ^ 62) {k : Bool → K}
  (hk : ∀ c', Eff g c c' → T B (R * CW g y most c3 c') (k true)) : T B (R * CW g y most c3 c) (Ygy (rmV y) op k) := by
 refine Yaq (Yqy _ _ k) ?_
 rw [Yos]
 refine Ya7 fun b => ?_
 refine Ya7 fun b1 => ?_
 rw [Zgm31]
 have htwo := hJ.gc.inv.two
 have hten := hJ.gc.ten
 refine Yaa (X := CW g y most c3 c) (by exact frmA) ?_
 -- what comes last
 have fin : ∀ c', Eff g c c' → T B (R * pt b (.cells [.pointer (rmV y).1, .pointer (rmV y).2.1, (rmV y).2.2.1.v, .pointer (rmV y).2.2.2.1, .pointer (rmV y).2.2.2.2].toArray 33) * pt b1 (.cells [.int .i64 op.1, .int .i64 op.2.1, .int .i64 op.2.2.1, .int .i64 op.2.2.2.1, .int .i64 op.2.2.2.2].toArray 38) * CW g y most c3 c') (k true) := by
  intro c' h
  refine Yac (.init .last) ?_
  refine Yac (.init .last) ?_
  exact hk c' h
 have here : Eff g c c := Eff.same hJ rfl rfl fun D E h => ⟨E, h⟩
 unfold rmV at *
 generalize hR : R * pt b _ * pt b1 _ = R' at *
 have h2 : ∀ {i : Nat} {n : Int} {X : SL} {k : Int → K}, [Value.int .i64 op.1, .int .i64 op.2.1, .int .i64 op.2.2.1, .int .i64 op.2.2.2.1, .int .i64 op.2.2.2.2][i]? = some (.int .i64 n) → T B (R' * X) (k n) → T B (R' * X) (ldI .i64 (Addr.add ⟨b1, 0, none⟩ i) k) := by
  intro i n X k hi hk
  rw [← hR] at hk ⊢
  exact Yaf (i := i) (by rw [Yay, Nat.zero_add]) (Has.init Has.last) hi hk
 have h3 : ∀ {i : Nat} {n : Option Addr} {X : SL} {k : Option Addr → K}, [Value.pointer (da y.a), .pointer (da y.d), nilS.v, .pointer (da y.cl), .pointer (da y.pb)][i]? = some (.pointer n) → T B (R' * X) (k n) → T B (R' * X) (ldP (Addr.add ⟨b, 0, none⟩ i) k) := by
  intro i n X k hi hk
  rw [← hR] at hk ⊢
  exact Yaj (i := i) (by rw [Yay, Nat.zero_add]) (Has.init (Has.init Has.last)) hi hk
 refine Yak ?_
 refine h2 rfl ?_
 refine h2 rfl ?_
 refine Vdk fun pa hpa => ?_
 have hchk : ∀ {X : SL} {k : Unit → K}, T B (R' * X) (k ()) → T B (R' * X) (chk [.cell (Addr.add ⟨b1, 0, none⟩ 2) (.int .i64 op.2.2.1)] k) := by
  intro X k hk
  rw [← hR] at hk ⊢
  exact Ycm (i := 2) rfl (Has.init Has.last) rfl (Ybe hk)
 refine hchk ?_
 refine Vdk fun pb hpb => ?_
 rw [Zgm30]
 refine h2 rfl ?_
 rw [Zgm29, Zgm28]
 refine Ybr (fun _ => ?_) (fun _ => ?_)
 ·-- an object is made
  rw [Zgm27]
  refine h3 (i := 0) rfl ?_
  refine h2 rfl ?_
  refine h2 rfl ?_
  have m1 : 0 ≤ min2I (max2I op.2.2.2.1 0) 6 ∧ min2I (max2I op.2.2.2.1 0) 6 ≤ 6 := by unfold min2I max2I; split <;> split <;> omega
  have m2 : 0 ≤ min2I (max2I op.2.2.2.2 0) 300 ∧ min2I (max2I op.2.2.2.2 0) 300 ≤ 300 := by unfold min2I max2I; split <;> split <;> omega
  generalize min2I (max2I op.2.2.2.1 0) 6 = pp at *
  generalize min2I (max2I op.2.2.2.2 0) 300 = dd at *
  have hsz : oSize (pp, dd) = 1 + pp + dd := if_pos (show oRight (pp, dd) by unfold oRight; simp only; omega)
  have hm : 0 ≤ Int.tmod (pa : Int) 4 ∧ Int.tmod (pa : Int) 4 < 4 := by rw [Int.tmod_eq_emod_of_nonneg (by omega)]; omega
  refine Vdl hJ hg hm ⟨by omega, by omega⟩ ?_ (fun x s1 tie hr => ?_)
  ·rw [Zgm6, Zgm5]
   refine Ybr (fun h => by cases h) (fun _ => ?_)
   rw [Zgm2]
   refine Ybr (fun h => by cases h) (fun _ => ?_)
   exact fin c here
  ·obtain ⟨j1, j2⟩ := Vg5 hJ tie (by omega) hr pa
   have hx := (Yye hJ.gc.pl hJ.gc.inv tie hJ.gc.big (by omega) hr).2.2.2.1
   rw [Zgm6, Zgm5]
   refine Ybr (fun _ => ?_) (fun h => absurd rfl h)
   rw [Zgm4]
   refine h3 (i := 3) rfl ?_
   refine Vfg (c := { c with s := made s1 (pp, dd) x }) hx ?_
   rw [Zgm3]
   refine h3 (i := 4) rfl ?_
   refine Vaz (c := { c with s := made s1 (pp, dd) x, m := mMade c.ph c.m x }) hten hpa ?_
   rw [Zgm2]
   refine Ybr (fun _ => ?_) (fun h => absurd rfl h)
   exact fin _ (Eff.same j1 rfl rfl fun D E h => ⟨E, j2 h⟩)
 ·rw [Zgm26]
  refine Ybr (fun _ => ?_) (fun _ => ?_)
  ·rw [Zgm25]
   refine Yak ?_
   refine h3 (i := 4) rfl ?_
   refine h3 (i := 4) rfl ?_
   refine Ysr hten hpb ?_
   refine Vaz hten hpa ?_
   exact fin _ (Eff.places hJ pa (hJ.rootLive (List.getElem_mem _)))
  ·rw [Zgm24]
   refine Ybr (fun _ => ?_) (fun _ => ?_)
   ·rw [Zgm23]
    refine h3 (i := 4) rfl ?_
    refine Vaz hten hpa ?_
    exact fin _ (Eff.places hJ pa (.inl rfl))
   ·rw [Zgm22]
    refine Ybr (fun _ => ?_) (fun _ => ?_)
    ·rw [Zgm21]
     refine h3 (i := 4) rfl ?_
     refine Ysr hten hpb ?_
     rw [Zgm11]
     refine Yai (fun hpos => ?_) (fun _ => fin c here)
     rw [Zgm10]
     refine Yak ?_
     rw [show Addr.add (Addr.add ⟨b, 0, none⟩ 0) 1 = Addr.add ⟨b, 0, none⟩ 1 by rw [Yay]]
     refine h3 (i := 1) rfl ?_
     refine h3 (i := 4) rfl ?_
     refine Ysr hten hpb ?_
     refine h2 rfl ?_
     rcases hJ.rootLive (List.getElem_mem (show pb < c.pl.length by omega)) with q | ⟨n, q, hn⟩
     ·omega
     ·rw [q]
      refine Vg9 hJ.gc.big fun v e hv => ?_
      rw [Zgm9, Zgm8]
      refine Ybr (fun he => ?_) (fun _ => fin c here)
      rw [Zgm7]
      refine h3 (i := 4) rfl ?_
      refine Vaz hten hpa ?_
      refine fin _ (Eff.places hJ pa ?_)
      rcases hJ.lp n hn v (hv he) with r | r
      ·exact .inl r
      ·obtain ⟨m, rfl, hm⟩ := Ya4.1 r
       exact .inr ⟨m, rfl, .step n m hn (hv he) hm⟩
    ·rw [Zgm20]
     refine Ybr (fun _ => ?_) (fun _ => ?_)
     ·rw [Zgm19]
      refine h3 (i := 4) rfl ?_
      refine Ysr hten hpa ?_
      rw [Zgm14]
      refine Yai (fun hpos => ?_) (fun _ => fin c here)
      rw [Zgm13]
      refine Yak ?_
      refine h3 (i := 3) rfl ?_
      refine h3 (i := 4) rfl ?_
      refine Ysr hten hpb ?_
      have hmem : c.pl[pb]'(by omega) ∈ c.pl := List.getElem_mem _
      have two : ∀ c2 : Cy, c2.pl = c.pl → c2.s = c.s → J g c2 → (c2.ph = 1 → has c2.s.U (c.pl[pb]'(by omega)) = true → has c2.m.M (c.pl[pb]'(by omega)) = true) → (∀ c', Eff g c2 c' → Eff g c c') → T B (R' * CW g y most c3 c2) (Zgm12 k ⟨b, 0, none⟩ ⟨b1, 0, none⟩ pa pb) := by
       intro c2 e1 e2 hJ2 hsh hE
       have hten2 : c2.pl.length = 10 := by rw [e1]; exact hten
       rw [Zgm12]
       refine Yak ?_
       rw [show Addr.add (Addr.add ⟨b, 0, none⟩ 0) 1 = Addr.add ⟨b, 0, none⟩ 1 by rw [Yay]]
       refine h3 (i := 1) rfl ?_
       refine h3 (i := 4) rfl ?_
       refine Ysr hten2 hpa ?_
       refine h2 rfl ?_
       refine h3 (i := 4) rfl ?_
       refine Ysr hten2 hpb ?_
       have ea : c2.pl[pa]'(by omega) = c.pl[pa]'(by omega) := by simp only [e1]
       have eb : c2.pl[pb]'(by omega) = c.pl[pb]'(by omega) := by simp only [e1]
       rw [ea, eb]
       rcases hJ.rootLive (List.getElem_mem (show pa < c.pl.length by omega)) with q | ⟨n, q, hn⟩
       ·omega
       ·rw [q]
        refine Vb0 hJ2 (by rw [e2]; exact hn.used) (by rw [e1]; exact hmem) hsh fun c' e he => ?_
        exact fin c' (hE c' he)
      refine Vbz (fun hn => ?_) (fun m' hp hm => ?_)
      ·exact two c rfl rfl hJ hn fun c' h => h
      ·refine two { c with m := m' } rfl rfl (hJ.shade hp hm) (fun _ hu => ?_) fun c' h => ?_
       ·exact hm.spec.cov _ (by simp) hu
       ·obtain ⟨q1, q2, q3, q4⟩ := h
        exact ⟨q1, q2, q3, fun D E hD hp0 => q4 D E (hD.shade hp hmem hm) hp0⟩
     ·rw [Zgm18]
      refine Ybr (fun _ => ?_) (fun _ => fin c here)
      rw [Zgm17]
      refine h3 (i := 3) rfl ?_
      refine h2 rfl ?_
      refine Vg6 hJ hc0 hc1 (fun c' m w _ => ?_) (fun m c1 c' w _ hs hcc hp => ?_)
      ·rw [Zgm16]
       exact fin c' (Eff.walk hJ hc1 hc0 w)
      ·rw [Zgm16]
       exact fin c' (Eff.ended hJ hc1 hc0 w hs hcc hp)
end
end
section
set_option maxHeartbeats 2000000
section
variable {B : World} {P R : SL} {t : K}
theorem Yf9 {x : Sl} {l : List Int} {v : Int} (hl : l.length ≤ 2 ^ 40) (hx : Rd R x 1 (ints l)) {k : Bool → K} (hk : T B R (k (decide (v ∈ l)))) : T B R (Ydv x v k) := by
 refine Yaq (Yv5 x v k) ?_
 refine Ya1 hx fun hn => ?_
 rw [Yag, Nat.mul_one] at hn
 rw [Yul, Zga6]
 refine Ycz (fun _ _ => R) (fun n (s : Int × Unit) => ∃ i : Nat, i ≤ l.length ∧ s.1 = i ∧ n = l.length - i ∧ v ∉ l.take i) l.length rfl ⟨0, by omega, rfl, by omega, by simp⟩ ?_
 rintro n ⟨s1, u⟩ c ⟨i, hi, e1, e2, hv⟩ hc
 simp only at e1
 subst e1 e2
 rw [Zga5, Zga4]
 refine Yai (fun hlt => ?_) (fun hge => ?_)
 ·have hlt' : i < l.length := by omega
  rw [Zga3]
  refine Yej hx (by omega) (n := l[i]) (by rw [Int.toNat_natCast]; exact Ydn hlt') ?_
  rw [Zga2]
  refine Ybr (fun h => ?_) (fun h => ?_)
  ·rw [decide_eq_true (h ▸ List.getElem_mem hlt')] at hk
   exact hk
  ·refine hc (l.length - (i + 1)) _ (by omega) ⟨i + 1, by omega, w64 (by omega) (by omega), rfl, ?_⟩
   rw [List.take_succ_eq_append_getElem hlt', List.mem_append, List.mem_singleton]
   exact fun q => q.elim hv fun q => h q.symm
 ·have : i = l.length := by omega
  subst this
  rw [List.take_length] at hv
  rw [decide_eq_false hv] at hk
  exact hk
theorem Yzy {w : Int} {k : Int → K} (hk : T B R (k (ptrW w))) : T B R (Ymv w k) := by
 refine Yaq (Yx8 w k) ?_
 rw [Yx7, Zge2]
 unfold ptrW min2I at hk
 refine Yai (fun h => ?_) (fun h => ?_)
 ·rw [if_pos (by omega), w64 (by omega) (by omega)] at hk; exact hk
 ·rw [if_neg (by omega)] at hk; exact hk
theorem Yyf {dd : Sl × Sl × Sl × Sl × Sl × Int × Int × Bool} {ws : List Int} {a : Int} {n : Nat} {o : Ob} (hx : Rd R dd.1 8 (wds ws)) (hl : ws.length = 8 * n) (hn : n ≤ 2 ^ 30) (ho : oHead ws n a = (o, 0)) {k : Sl → K}
  (hk : ∀ s, T B (R * vec 3 1 s (ints (PtrsL ws n a))) (k s)) : T B R (Ykh dd a k) := by
 refine Yaq (Yv6 dd a k) ?_
 obtain ⟨g1, g2, g3, g4⟩ := Yfr (c := ws) (n := n) (a := a) (by rw [ho])
 rw [ho] at g3 g4
 simp only at g3 g4
 have hsz : oSize o = 1 + o.1 + o.2 := if_pos g4
 unfold oRight at g4
 unfold PtrsL at hk
 rw [ho] at hk
 simp only [if_true] at hk
 rw [Yum]
 refine Ya7 fun b => ?_
 rw [Zgb9]
 refine Yaz (i := 0) rfl Has.last rfl ?_
 refine Yaz (i := 1) rfl Has.last rfl ?_
 refine Yaz (i := 2) rfl Has.last rfl ?_
 refine Yaz (i := 3) rfl Has.last rfl ?_
 refine Yaz (i := 4) rfl Has.last rfl ?_
 refine Yaf (i := 5) rfl Has.last rfl ?_
 refine Yaf (i := 6) rfl Has.last rfl ?_
 refine Ynv (i := 7) rfl Has.last rfl ?_
 refine Yyd hx.init hl hn ho ?_
 refine Ya7 fun b1 => ?_
 refine Ybc (i := 0) rfl Upd.last (by show _ < 2; omega) ?_
 refine Ybc (i := 1) rfl Upd.last (by show _ < 2; omega) ?_
 rw [Zgb8, Zgb7, Zgb6]
 generalize hp : o.1.toNat = p at *
 have hp2 : o.1 = p := by omega
 refine Ydh (E := 3) (sz := 1) (s := ⟨none, 0, 0⟩) rfl rfl ?_
 refine Ycz (fun _ z => R * pt b (.cells [dd.1.v, dd.2.1.v, dd.2.2.1.v, dd.2.2.2.1.v, dd.2.2.2.2.1.v, .int .i64 dd.2.2.2.2.2.1, .int .i64 dd.2.2.2.2.2.2.1, .bool dd.2.2.2.2.2.2.2].toArray 103) * pt b1 (.cells (([Value.int .i64 0, .int .i64 0].set 0 (.int .i64 o.1)).set 1 (.int .i64 o.2)).toArray 74) * vec 3 1 z.1 (ints ((List.range z.2.1.toNat).map fun (i : Nat) => ptrW (getI ws (a + 1 + (i : Int)))))) (fun m (z : Sl × Int × Unit) => ∃ i : Nat, i ≤ p ∧ z.2.1 = i ∧ m = p - i) p rfl ⟨0, by omega, rfl, by omega⟩ ?_
 rintro m ⟨s0, z, uu⟩ cc ⟨i, hi, e1, e2⟩ hcc
 simp only at e1
 subst e1 e2
 simp only [Int.toNat_natCast]
 rw [Zgb5]
 refine Yal ?_
 refine Yaf (i := 0) (n := o.1) rfl (Has.init Has.last) rfl ?_
 rw [Zgb4, hp2]
 refine Yai (fun hlt => ?_) (fun hge => ?_)
 ·rw [Zgb3]
  refine Yaz (i := 0) (n := dd.1) rfl (Has.init (Has.init Has.last)) rfl ?_
  rw [w64 (n := a + 1) (by omega) (by omega), w64 (n := a + 1 + i) (by omega) (by omega)]
  refine Yso hx.init.init.init (by omega) (by omega) (by omega) (by omega) ?_
  refine Yzy ?_
  refine Ya7 fun b3 => ?_
  refine Yaa (X := vec 3 1 s0 _) (.init .last) ?_
  refine Ybs (x := ⟨some ⟨b3, 0, none⟩, 1, 1⟩) (new := ints [ptrW (getI ws (a + 1 + i))]) Yeo (Rd.one Has.last rfl (Nat.le_refl _)) (Yct _) (by simp [ints]; omega) fun s' => ?_
  refine Yac (.init .last) ?_
  rw [Zgb2]
  have e : (IntKind.wrap .i64 ((i : Int) + 1)).toNat = i + 1 := by rw [w64 (by omega) (by omega)]; omega
  refine T.perm ?_ (hcc (p - (i + 1)) (s', IntKind.wrap .i64 ((i : Int) + 1), ()) (by omega) ⟨i + 1, by omega, w64 (by omega) (by omega), rfl⟩)
  simp only [e, List.range_succ, List.map_append, List.map_cons, List.map_nil]
  unfold ints
  rw [List.map_append, hp2]
 ·have : i = p := by omega
  subst this
  rw [Zgb1]
  refine Yac (.init .last) ?_
  refine Yac (.init .last) ?_
  exact hk s0
end
end
section
set_option maxHeartbeats 2000000
/-- the lists of a walk: those to come to, those seen -/
structure Rch (g : Nat) (s : St) (pl op seen : List Int) (i : Nat) : Prop where
 le : i ≤ op.length
 src : ∀ x ∈ op, x ∈ pl ∨ ∃ z : Nat, (z : Int) ∈ seen ∧ x ∈ PS g s z
 live : ∀ x ∈ seen, ∃ n : Nat, x = n ∧ LiveP g s pl n
 done : ∀ x ∈ op.take i, has s.U x = true → x ∈ seen
 from_ : ∀ x ∈ pl, x ∈ op
 ptr : ∀ z : Nat, (z : Int) ∈ seen → ∀ x ∈ PS g s z, x ∈ op
 nd : seen.Nodup
 len : op.length ≤ pl.length + 63 * seen.length
theorem Yyg : ∀ {l m : List Int}, l.Nodup → (∀ x ∈ l, x ∈ m) → l.length ≤ m.length
 |[], _, _, _ => by simp
 |x :: l, m, hn, hs => by
  rw [List.nodup_cons] at hn
  have h1 := hs x (List.mem_cons_self ..)
  have h2 := Yyg (l := l) (m := m.erase x) hn.2 fun z hz => (List.mem_erase_of_ne (fun e : z = x => hn.1 (by rw [← e]; exact hz))).2 (hs z (List.mem_cons_of_mem _ hz))
  rw [List.length_erase_of_mem h1] at h2
  have := List.length_pos_of_mem h1
  simp only [List.length_cons]; omega
theorem Rch.seen_le {g : Nat} {s : St} {pl op seen : List Int} {i : Nat} (h : Rch g s pl op seen i) (hoff : ∀ x, s.U x = true → x < 512 * g) : seen.length ≤ (uBel s.U (512 * g)).length := by
 have hsub : ∀ x ∈ seen, x ∈ uBel s.U (512 * g) := fun x hx => by
  obtain ⟨n, rfl, hn⟩ := h.live x hx
  exact Yoz.2 ⟨n, hoff n hn.used, hn.used, rfl⟩
 exact Yyg h.nd hsub
theorem Rch.skip {g : Nat} {s : St} {pl op seen : List Int} {i : Nat} (h : Rch g s pl op seen i) (hi : i < op.length) (hx : has s.U op[i] = true → op[i] ∈ seen) : Rch g s pl op seen (i + 1) := by
 refine ⟨hi, h.src, h.live, fun x hx2 hu => ?_, h.from_, h.ptr, h.nd, h.len⟩
 rw [List.take_succ_eq_append_getElem hi, List.mem_append, List.mem_singleton] at hx2
 rcases hx2 with q | q
 ·exact h.done x q hu
 ·subst q; exact hx hu
theorem Rch.add {g : Nat} {s : St} {pl op seen : List Int} {i : Nat} (h : Rch g s pl op seen i) (hi : i < op.length) {n : Nat} (hn : op[i] = (n : Int)) (hu : s.U n = true) (hs : ¬ (n : Int) ∈ seen) (hl : (PS g s n).length ≤ 63) : Rch g s pl (op ++ PS g s n) (seen ++ [(n : Int)]) (i + 1) := by
 have hlive : LiveP g s pl n := by
  rcases h.src _ (List.getElem_mem hi) with q | ⟨z, q1, q2⟩
  ·exact .root n (hn ▸ q) hu
  ·obtain ⟨m, e, hm⟩ := h.live _ q1
   have : m = z := by omega
   subst this
   exact .step m n hm (hn ▸ q2) hu
 refine ⟨by rw [List.length_append]; omega, fun x hx => ?_, fun x hx => ?_, fun x hx hux => ?_, fun x hx => List.mem_append_left _ (h.from_ x hx), fun z hz x hx => ?_, ?_, ?_⟩
 ·rcases List.mem_append.1 hx with q | q
  ·rcases h.src x q with r | ⟨z, r1, r2⟩
   ·exact .inl r
   ·exact .inr ⟨z, List.mem_append_left _ r1, r2⟩
  ·exact .inr ⟨n, List.mem_append_right _ (by simp), q⟩
 ·rcases List.mem_append.1 hx with q | q
  ·exact h.live x q
  ·rw [List.mem_singleton] at q
   exact ⟨n, q, hlive⟩
 ·rw [List.take_append_of_le_length (by omega), List.take_succ_eq_append_getElem hi, List.mem_append, List.mem_singleton] at hx
  rcases hx with q | q
  ·exact List.mem_append_left _ (h.done x q hux)
  ·exact List.mem_append_right _ (by rw [q, hn]; simp)
 ·rcases List.mem_append.1 hz with q | q
  ·exact List.mem_append_left _ (h.ptr z q x hx)
  ·rw [List.mem_singleton] at q
   have : z = n := by omega
   subst this
   exact List.mem_append_right _ hx
 ·rw [List.nodup_append]
  refine ⟨h.nd, by simp, fun a ha b hb e => ?_⟩
  rw [List.mem_singleton] at hb
  subst hb e
  exact hs ha
 ·have := h.len
  rw [List.length_append, List.length_append, List.length_singleton]; omega
theorem Rch.all {g : Nat} {s : St} {pl op seen : List Int} {i : Nat} (h : Rch g s pl op seen i) (hi : i = op.length) {n : Nat} : (n : Int) ∈ seen ↔ LiveP g s pl n := by
 have hd : ∀ x ∈ op, has s.U x = true → x ∈ seen := by
  have := h.done
  rw [hi, List.take_length] at this
  exact this
 constructor
 ·intro hx
  obtain ⟨m, e, hm⟩ := h.live _ hx
  have : m = n := by omega
  subst this
  exact hm
 ·intro hx
  induction hx with
  |root x h1 h2 => exact hd _ (h.from_ _ h1) (by rw [Ycd]; exact h2)
  |step z x h1 h2 h3 ih => exact hd _ (h.ptr z ih _ h2) (by rw [Ycd]; exact h3)
/-- those that one comes to, rising -/
noncomputable def liveL (g : Nat) (s : St) (pl : List Int) : List Int := (uBel s.U (512 * g)).filter fun v => @decide (∃ n : Nat, v = n ∧ LiveP g s pl n) (Classical.propDecidable _)
theorem Vdm {g : Nat} {s : St} {pl : List Int} (hoff : ∀ x, s.U x = true → x < 512 * g) {v : Int} : v ∈ liveL g s pl ↔ ∃ n : Nat, v = n ∧ LiveP g s pl n := by
 unfold liveL
 rw [List.mem_filter, @decide_eq_true_iff _ (Classical.propDecidable _)]
 constructor
 ·exact fun h => h.2
 ·rintro ⟨n, rfl, hn⟩
  exact ⟨Yoz.2 ⟨n, hoff n hn.used, hn.used, rfl⟩, n, rfl, hn⟩
theorem Vfh {g : Nat} {s : St} {pl op seen : List Int} {i : Nat} (h : Rch g s pl op seen i) (hi : i = op.length) : (uBel s.U (512 * g)).filter (fun v => decide (v ∈ seen)) = liveL g s pl := by
 unfold liveL
 refine List.filter_congr fun v hv => ?_
 obtain ⟨n, _, _, rfl⟩ := Yoz.1 hv
 rw [decide_eq_decide, h.all hi]
 exact ⟨fun q => ⟨n, rfl, q⟩, fun ⟨m, e, q⟩ => by
  have : m = n := by omega
  subst this
  exact q⟩
end
section
set_option maxHeartbeats 2000000
section
variable {B : World} {P R : SL} {t : K}
theorem Vha {dd : Sl × Sl × Sl × Sl × Sl × Int × Int × Bool} {x1 x2 : Sl} {g : Nat} {s : St} {pl : List Int} (pls : Pl g s) (hg : g ≤ 16) (hpl : pl.length = 10) (hx : Rd R dd.1 8 (wds s.c)) (h1 : Rd R x1 1 (ints (uBel s.U (512 * g)))) (h2 : Rd R x2 1 (ints pl)) {k : Sl → K}
  (hk : ∀ sl, T B (R * vec 3 1 sl (ints (liveL g s pl))) (k sl)) : T B R (Yis dd x1 x2 ⟨none, 0, 0⟩ k) := by
 refine Yaq (Ytn dd x1 x2 _ k) ?_
 have hoff : ∀ x, s.U x = true → x < 512 * g := fun x hx => by
  obtain ⟨o, ho⟩ := pls.obj x hx
  exact ho.fit.2.2.2.2
 have hcl := pls.len
 have ub := @Ylz s.U (512 * g)
 have humem : ∀ v : Int, v ∈ uBel s.U (512 * g) ↔ has s.U v = true := fun v => by
  rw [Yoz, Ya4]
  exact ⟨fun ⟨n, _, q, e⟩ => ⟨n, e, q⟩, fun ⟨n, e, q⟩ => ⟨n, hoff n q, q, e⟩⟩
 refine Ya1 h1 fun hn1 => ?_
 rw [Yag, Nat.mul_one] at hn1
 refine Ya1 h2 fun hn2 => ?_
 rw [Yag, Nat.mul_one] at hn2
 rw [Ysd]
 refine Ya7 fun b3 => ?_
 rw [Zfx21]
 refine Ya7 fun b2 => ?_
 refine Ydh (E := 3) (sz := 1) (s := ⟨some ⟨b2, 0, none⟩, 0, 0⟩) rfl rfl ?_
 refine Ybs (s := ⟨some ⟨b2, 0, none⟩, 0, 0⟩) (x := x2) (vs := []) Yeo h2.init.init (Yct pl) (by simp; omega) fun x9 => ?_
 refine Yac (.init .last) ?_
 simp only [List.nil_append]
 rw [Zfx20, Zfx19, Zfx18]
 refine Ydh (E := 3) (sz := 1) (s := ⟨none, 0, 0⟩) rfl rfl ?_
 refine Yl2 (fun m (z : Sl × Sl × Int × Unit) => ex fun q : List Int × List Int => R * pt b3 (.cells [dd.1.v, dd.2.1.v, dd.2.2.1.v, dd.2.2.2.1.v, dd.2.2.2.2.1.v, .int .i64 dd.2.2.2.2.2.1, .int .i64 dd.2.2.2.2.2.2.1, .bool dd.2.2.2.2.2.2.2].toArray 103) * vec 3 1 z.1 (ints q.1) * vec 3 1 z.2.1 (ints q.2) * pu (Rch g s pl q.1 q.2 z.2.2.1.toNat ∧ m = ((uBel s.U (512 * g)).length - q.2.length) * 64 + (q.1.length - z.2.2.1.toNat))) (fun m (z : Sl × Sl × Int × Unit) => ∃ i : Nat, z.2.2.1 = i ∧ i ≤ 2 ^ 30) ((uBel s.U (512 * g)).length * 64 + 10) (fun t ht => ?_) ⟨0, rfl, by omega⟩ ?_
 ·intro w hw
  exact ht w (Yds (pl, []) (Sat.puI ⟨⟨by simp, fun x hx => .inl hx, by simp, by simp, fun x hx => hx, by simp, by simp, by simp⟩, by simp [hpl]⟩ hw))
 rintro m ⟨x9, x10, z, uu⟩ cc ⟨i, e1, e2⟩ hcc
 simp only at e1
 subst e1
 simp only [Int.toNat_natCast]
 refine Ysw fun q hq => ?_
 obtain ⟨op, seen⟩ := q
 simp only at hq ⊢
 obtain ⟨hr, hm⟩ := hq
 have hsl := hr.seen_le hoff
 have hlen := hr.len
 have hle := hr.le
 refine Yc0 (E := 3) (sz := 1) (s := x9) (vs := ints op) (.init .last) fun hn9 => ?_
 rw [Yag, Nat.mul_one] at hn9
 rw [Zfx17, Zfx16]
 refine Yai (fun hlt => ?_) (fun hge => ?_)
 ·have hi : i < op.length := by omega
  have hw64 : IntKind.wrap .i64 ((i : Int) + 1) = ((i + 1 : Nat) : Int) := by rw [w64 (by omega) (by omega)]; omega
  -- on
  have nx : ∀ x9' x10' op' seen', Rch g s pl op' seen' (i + 1) → ((uBel s.U (512 * g)).length - seen'.length) * 64 + (op'.length - (i + 1)) < m → T B (R * pt b3 (.cells [dd.1.v, dd.2.1.v, dd.2.2.1.v, dd.2.2.2.1.v, dd.2.2.2.2.1.v, .int .i64 dd.2.2.2.2.2.1, .int .i64 dd.2.2.2.2.2.2.1, .bool dd.2.2.2.2.2.2.2].toArray 103) * vec 3 1 x9' (ints op') * vec 3 1 x10' (ints seen')) (Zfx11 i cc x9' x10') := by
   intro x9' x10' op' seen' hr' hlt' w hw
   rw [Zfx11, hw64]
   have := hr'.le
   have := hr'.len
   have := hr'.seen_le hoff
   exact hcc _ (x9', x10', ((i + 1 : Nat) : Int), ()) hlt' ⟨i + 1, rfl, by omega⟩ w (Yds (op', seen') (Sat.puI ⟨hr', rfl⟩ hw))
  have skip : (has s.U op[i] = true → op[i] ∈ seen) → T B (R * pt b3 (.cells [dd.1.v, dd.2.1.v, dd.2.2.1.v, dd.2.2.2.1.v, dd.2.2.2.2.1.v, .int .i64 dd.2.2.2.2.2.1, .int .i64 dd.2.2.2.2.2.2.1, .bool dd.2.2.2.2.2.2.2].toArray 103) * vec 3 1 x9 (ints op) * vec 3 1 x10 (ints seen)) (Zfx11 i cc x9 x10) := fun h => nx x9 x10 op seen (hr.skip hi h) (by omega)
  have hop : ∀ {k : Int → K}, T B (R * pt b3 (.cells [dd.1.v, dd.2.1.v, dd.2.2.1.v, dd.2.2.2.1.v, dd.2.2.2.2.1.v, .int .i64 dd.2.2.2.2.2.1, .int .i64 dd.2.2.2.2.2.2.1, .bool dd.2.2.2.2.2.2.2].toArray 103) * vec 3 1 x9 (ints op) * vec 3 1 x10 (ints seen)) (k op[i]) → T B (R * pt b3 (.cells [dd.1.v, dd.2.1.v, dd.2.2.1.v, dd.2.2.2.1.v, dd.2.2.2.2.1.v, .int .i64 dd.2.2.2.2.2.1, .int .i64 dd.2.2.2.2.2.2.1, .bool dd.2.2.2.2.2.2.2].toArray 103) * vec 3 1 x9 (ints op) * vec 3 1 x10 (ints seen)) (ixS x9.p x9.n (i : Int) 1 fun x26 => ldI .i64 x26 k) :=
   fun hk => Yej (Rd.vec (.init .last)) (by omega) (n := op[i]) (by rw [Int.toNat_natCast]; exact Ydn hi) hk
  rw [Zfx15]
  refine hop ?_
  refine Yf9 (by omega) h1.init.init.init ?_
  by_cases hu : has s.U op[i] = true
  ·rw [decide_eq_true ((humem _).2 hu)]
   refine Yfh (Yal ?_)
   refine hop ?_
   refine Yf9 (by omega) (Rd.vec .last) ?_
   by_cases hs : op[i] ∈ seen
   ·rw [decide_eq_true hs]
    refine Yal ?_
    rw [Zfx14]
    exact Yal (skip fun _ => hs)
   ·rw [decide_eq_false hs]
    refine Yau ?_
    refine hop ?_
    refine Ydh (E := 3) (sz := 1) (s := ⟨none, 0, 0⟩) rfl rfl ?_
    refine Yf9 (l := []) (by simp) (Rd.vec .last) ?_
    refine Yac .last ?_
    rw [decide_eq_false (by simp), Zfx14]
    refine Yau ?_
    rw [Zfx13]
    refine hop ?_
    obtain ⟨n, hn, hun⟩ := Ya4.1 hu
    obtain ⟨o, ho⟩ := pls.obj n hun
    refine Ya7 fun b1 => ?_
    refine Yaa (X := vec 3 1 x10 (ints seen)) (.init .last) ?_
    refine Ybs (x := ⟨some ⟨b1, 0, none⟩, 1, 1⟩) (new := ints [op[i]]) Yeo (Rd.one Has.last rfl (Nat.le_refl _)) (Yct _) (by rw [Yag]; simp only; omega) fun x10' => ?_
    refine Yac (.init .last) ?_
    rw [Zfx12]
    refine Yak ?_
    refine Yaz (i := 0) rfl (Has.init (Has.init Has.last)) rfl ?_
    refine Yaz (i := 1) rfl (Has.init (Has.init Has.last)) rfl ?_
    refine Yaz (i := 2) rfl (Has.init (Has.init Has.last)) rfl ?_
    refine Yaz (i := 3) rfl (Has.init (Has.init Has.last)) rfl ?_
    refine Yaz (i := 4) rfl (Has.init (Has.init Has.last)) rfl ?_
    refine Yaf (i := 5) rfl (Has.init (Has.init Has.last)) rfl ?_
    refine Yaf (i := 6) rfl (Has.init (Has.init Has.last)) rfl ?_
    refine Ynv (i := 7) rfl (Has.init (Has.init Has.last)) rfl ?_
    refine Yej (Rd.vec (.init .last)) (by omega) (n := op[i]) (by rw [Int.toNat_natCast]; exact Ydn hi) ?_
    rw [hn]
    have hpl63 : (PS g s n).length ≤ 63 := Yx5 s.c (64 * g) n
    refine Yyf (ws := s.c) (n := 64 * g) (o := o) hx.init.init.init (by omega) (by omega) ho.fit.2.2.1 fun x59 => ?_
    refine Yc0 .last fun hn59 => ?_
    rw [Yag, Nat.mul_one] at hn59
    have hn59 : x59.n = (PS g s n).length := hn59
    refine Yaa (X := vec 3 1 x9 (ints op)) (.init (.init .last)) ?_
    refine Ybs (x := x59) (new := ints (PS g s n)) Yeo (Rd.vec .last) (Yct _) (by rw [Yag]; omega) fun x9' => ?_
    refine Yac (.init .last) ?_
    have hs' : ¬ (n : Int) ∈ seen := by rw [← hn]; exact hs
    have hr' := hr.add hi hn hun hs' hpl63
    have := hr'.seen_le hoff
    rw [List.length_append, List.length_singleton] at this
    have h9 := nx x9' x10' _ _ hr' (by rw [List.length_append, List.length_append, List.length_singleton]; omega)
    rw [show ints (op ++ PS g s n) = ints op ++ ints (PS g s n) from List.map_append, show ints (seen ++ [(n : Int)]) = ints seen ++ ints [(n : Int)] from List.map_append] at h9
    exact T.perm (by ac_rfl) h9
  ·rw [decide_eq_false (fun q => hu ((humem _).1 q))]
   refine Yfh (Yau ?_)
   rw [Zfx14]
   exact Yal (skip fun h => absurd h hu)
 ·have hio : i = op.length := by omega
  rw [Zfx10, Zfx9, Zfx8]
  refine Yac (.init .last) ?_
  refine Yac (.init .last) ?_
  rw [← Vfh hr hio] at hk
  generalize uBel s.U (512 * g) = us at *
  refine Ydh (E := 3) (sz := 1) (s := ⟨none, 0, 0⟩) rfl rfl ?_
  refine Ycz (fun _ z => R * vec 3 1 x10 (ints seen) * vec 3 1 z.1 (ints ((us.take z.2.1.toNat).filter fun v => decide (v ∈ seen)))) (fun m (z : Sl × Int × Unit) => ∃ j : Nat, z.2.1 = j ∧ j ≤ us.length ∧ m = us.length - j) us.length rfl ⟨0, rfl, by omega, rfl⟩ ?_
  rintro m2 ⟨x12, z, uu⟩ c2 ⟨j, e1, e2, e3⟩ hc2
  simp only at e1
  subst e1 e3
  simp only [Int.toNat_natCast]
  rw [Zfx7, Zfx6]
  refine Yai (fun hlt => ?_) (fun hge => ?_)
  ·have hj : j < us.length := by omega
   have hfl : ((us.take j).filter fun v => decide (v ∈ seen)).length ≤ us.length := by
    have h5 := List.length_filter_le (fun v => decide (v ∈ seen)) (us.take j)
    rw [List.length_take] at h5; omega
   have nx : ∀ out', T B (R * vec 3 1 x10 (ints seen) * vec 3 1 out' (ints ((us.take (j + 1)).filter fun v => decide (v ∈ seen)))) (Zfx2 j c2 out') := by
    intro out'
    rw [Zfx2]
    have e : (IntKind.wrap .i64 ((j : Int) + 1)).toNat = j + 1 := by rw [w64 (by omega) (by omega)]; omega
    have := hc2 (us.length - (j + 1)) (out', IntKind.wrap .i64 ((j : Int) + 1), ()) (by omega) ⟨j + 1, w64 (by omega) (by omega), by omega, rfl⟩
    simp only [e] at this
    exact this
   rw [List.take_succ_eq_append_getElem hj, List.filter_append] at nx
   have hus : ∀ {X : SL} {k : Int → K}, T B (R * vec 3 1 x10 (ints seen) * X) (k us[j]) → T B (R * vec 3 1 x10 (ints seen) * X) (ixS x1.p x1.n (j : Int) 1 fun x26 => ldI .i64 x26 k) :=
    fun hk => Yej h1.init.init (by omega) (n := us[j]) (by rw [Int.toNat_natCast]; exact Ydn hj) hk
   rw [Zfx5]
   refine hus ?_
   refine Yf9 (by omega) (Rd.vec (.init .last)) ?_
   have app : us[j] ∈ seen → T B (R * vec 3 1 x10 (ints seen) * vec 3 1 x12 (ints ((us.take j).filter fun v => decide (v ∈ seen)))) (Zfx4 x1 x12 j c2 true) := by
    intro hs
    rw [Zfx4]
    refine Yal ?_
    rw [Zfx3]
    refine hus ?_
    refine Ya7 fun b1 => ?_
    refine Yaa (X := vec 3 1 x12 _) (.init .last) ?_
    refine Ybs (x := ⟨some ⟨b1, 0, none⟩, 1, 1⟩) (new := ints [us[j]]) Yeo (Rd.one Has.last rfl (Nat.le_refl _)) (Yct _) (by rw [Yag]; simp only; omega) fun x12' => ?_
    refine Yac (.init .last) ?_
    have h9 := nx x12'
    rw [show ([us[j]].filter fun v => decide (v ∈ seen)) = [us[j]] by simp [hs]] at h9
    rw [show ints ((us.take j).filter (fun v => decide (v ∈ seen)) ++ [us[j]]) = ints ((us.take j).filter fun v => decide (v ∈ seen)) ++ ints [us[j]] from List.map_append] at h9
    exact h9
   by_cases hs : us[j] ∈ seen
   ·rw [decide_eq_true hs]
    exact Yal (app hs)
   ·rw [decide_eq_false hs]
    refine Yau ?_
    refine hus ?_
    refine Ydh (E := 3) (sz := 1) (s := ⟨none, 0, 0⟩) rfl rfl ?_
    refine Yf9 (l := []) (by simp) (Rd.vec .last) ?_
    refine Yac .last ?_
    rw [decide_eq_false (by simp), Zfx4]
    refine Yau ?_
    have h9 := nx x12
    rw [show ([us[j]].filter fun v => decide (v ∈ seen)) = [] by simp [hs], List.append_nil] at h9
    exact h9
  ·have : j = us.length := by omega
   subst this
   rw [List.take_length]
   refine Yac (.init .last) ?_
   rw [Zfx1]
   exact hk x12
theorem Vhy {dd : Sl × Sl × Sl × Sl × Sl × Int × Int × Bool} {x1 x2 : Sl} {g : Nat} {s : St} {pl : List Int} (pls : Pl g s) (hg : g ≤ 16) (hpl : pl.length = 10) (hx : Rd R dd.1 8 (wds s.c)) (h1 : Rd R x1 1 (ints (uBel s.U (512 * g)))) (h2 : Rd R x2 1 (ints pl)) {k : Sl → K}
  (hk : ∀ sl, T B (R * vec 3 1 sl (ints (liveL g s pl))) (k sl)) : T B R (Ykb dd x1 x2 k) := by
 refine Yaq (Yv2 dd x1 x2 k) ?_
 rw [Yuk]
 refine Ya7 fun b => ?_
 rw [Zfu1]
 refine Yaz (i := 0) rfl Has.last rfl ?_
 refine Yaz (i := 1) rfl Has.last rfl ?_
 refine Yaz (i := 2) rfl Has.last rfl ?_
 refine Yaz (i := 3) rfl Has.last rfl ?_
 refine Yaz (i := 4) rfl Has.last rfl ?_
 refine Yaf (i := 5) rfl Has.last rfl ?_
 refine Yaf (i := 6) rfl Has.last rfl ?_
 refine Ynv (i := 7) rfl Has.last rfl ?_
 refine Vha pls hg hpl hx.init h1.init h2.init fun sl => ?_
 exact Yac (.init .last) (hk sl)
/-- what one comes to in a room -/
theorem Vfw {g : Nat} {y : Lay} {most : Int} {c3 : Option Addr} {c : Cy} (hJ : J g c) (hg : g ≤ 16) {k : Sl → K} (hk : ∀ sl, T B (R * CW g y most c3 c * vec 3 1 sl (ints (liveL g c.s c.pl))) (k sl)) : T B (R * CW g y most c3 c) (Yd1 (rmV y) k) := by
 refine Yaq (Yot _ k) ?_
 rw [Ylp]
 refine Ya7 fun b => ?_
 rw [Zgn1]
 unfold rmV
 refine Yak ?_
 rw [Yay, Nat.zero_add]
 refine Yaj (i := 0) (n := da y.a) (by rw [Yay]) Has.last rfl ?_
 refine Yaj (i := 1) (n := da y.d) (by rw [Yay]) Has.last rfl ?_
 refine Yaz (i := 2) (n := nilS) (by rw [Yay]) Has.last rfl ?_
 refine Yaj (i := 0) (n := da y.a) (by rw [Yay]) Has.last rfl ?_
 refine Yaj (i := 4) (n := da y.pb) (by rw [Yay, Nat.zero_add]) Has.last rfl ?_
 unfold da
 refine Yam ?_
 refine Yaa (X := CW g y most c3 c) (.init .last) ?_
 refine Ycf ?_
 refine Yaa (X := Al y.a y.d g c.s) (by exact frmA) ?_
 refine Vg0 hg fun sl r => ?_
 refine Ycm (i := 4) (by rw [Yay, Nat.zero_add]) (by exact hasA) rfl ?_
 refine Ycm (i := 0) (by rw [Yay]) (by exact hasA) rfl ?_
 refine Ybe ?_
 refine Yaa (X := Al y.a y.d g c.s) (by exact frmA) ?_
 refine Yx2 fun s54 => ?_
 refine Ycm (i := 4) (by rw [Yay, Nat.zero_add]) (by exact hasA) rfl ?_
 refine Ybe ?_
 refine Yaa (X := RootsR y c3 c.pl) (by exact frmA) ?_
 have hten := hJ.gc.ten
 unfold RootsR
 simp only [← Yad]
 refine Vhy (x2 := ⟨some ⟨y.pb, 0, none⟩, 10, 10⟩) hJ.gc.pl hg hten (Rd.vec (by exact frmA)) (Rd.vec (by exact frmA)) (Rd.one (by exact hasA) (by rw [Yag, hten]) (Nat.le_refl _)) fun s14 => ?_
 have h := @Ybn B (R * vec 3 1 s14 (ints (liveL g c.s c.pl))) _ g y most c3 c.s c.m c.blk c.gone c.pl c.ph c.cyc c.st (T.perm (by ac_rfl) (hk s14))
 refine Yac (by exact frmA : Frm _ (vec 219 8 sl _) _) ?_
 refine Yac (by exact frmA : Frm _ (vec 3 1 s54 _) _) ?_
 refine Yac (by exact frmA : Frm _ (pt b _) _) ?_
 unfold RootsR at h
 simp only [← Yad] at h
 exact T.perm (by unfold da; ac_rfl) h
end
end
section
set_option maxHeartbeats 2000000
section
variable {Pg : Program} {B : World} {P R : SL} {t : K}
end
section
variable {B : World} {P R : SL} {t : K}
theorem Vdn {x1 x2 : Sl} {l m : List Int} (hl : l.length ≤ 2 ^ 30) (hm : m.length ≤ 2 ^ 30) (h1 : Rd R x1 1 (ints l)) (h2 : Rd R x2 1 (ints m)) {k : Sl → K} (hk : ∀ s, T B (R * vec 3 1 s (ints (l.filter fun v => !decide (v ∈ m)))) (k s)) : T B R (Ygz x1 x2 k) := by
 refine Yaq (Yqx x1 x2 k) ?_
 refine Ya1 h1 fun hn1 => ?_
 rw [Yag, Nat.mul_one] at hn1
 refine Ya1 h2 fun hn2 => ?_
 rw [Yag, Nat.mul_one] at hn2
 rw [Yor, Zfr15, Zfr14]
 refine Ydh (E := 3) (sz := 1) (s := ⟨none, 0, 0⟩) rfl rfl ?_
 refine Ycz (fun _ z => R * vec 3 1 z.1 (ints ((l.take z.2.1.toNat).filter fun v => !decide (v ∈ m)))) (fun n (z : Sl × Int × Unit) => ∃ i : Nat, z.2.1 = i ∧ i ≤ l.length ∧ n = l.length - i) l.length rfl ⟨0, rfl, by omega, rfl⟩ ?_
 rintro n ⟨out, z, uu⟩ c ⟨i, e1, e2, e3⟩ hc
 simp only at e1
 subst e1 e3
 simp only [Int.toNat_natCast]
 rw [Zfr13, Zfr12]
 refine Yai (fun hlt => ?_) (fun hge => ?_)
 ·have hi : i < l.length := by omega
  rw [Zfr11, Zfr10]
  refine Ycz (fun _ _ => R * vec 3 1 out (ints ((l.take i).filter fun v => !decide (v ∈ m)))) (fun n (z : Bool × Int × Unit) => ∃ j : Nat, z.2.1 = j ∧ j ≤ m.length ∧ n = m.length - j ∧ z.1 = decide (l[i] ∈ m.take j)) m.length rfl ⟨0, rfl, by omega, rfl, by simp⟩ ?_
  rintro n2 ⟨is, z, uu⟩ c2 ⟨j, e1, e2, e3, e4⟩ hc2
  simp only at e1 e4
  subst e1 e3 e4
  dsimp only
  rw [Zfr9, Zfr8]
  refine Yai (fun hlt2 => ?_) (fun hge2 => ?_)
  ·have hj : j < m.length := by omega
   have nx : ∀ b, b = decide (l[i] ∈ m.take (j + 1)) → T B (R * vec 3 1 out (ints ((l.take i).filter fun v => !decide (v ∈ m)))) (Zfr6 j c2 b) := fun b hb => by
    rw [Zfr6]
    exact hc2 (m.length - (j + 1)) _ (by omega) ⟨j + 1, w64 (by omega) (by omega), by omega, rfl, hb⟩
   rw [Zfr7]
   refine Yak ?_
   by_cases hin : l[i] ∈ m.take j
   ·rw [decide_eq_true hin]
    refine Yal (nx true ?_)
    rw [List.take_succ_eq_append_getElem hj]
    exact (decide_eq_true (List.mem_append_left _ hin)).symm
   ·rw [decide_eq_false hin]
    refine Yau ?_
    refine Yej h2.init (by omega) (n := m[j]) (by rw [Int.toNat_natCast]; exact Ydn hj) ?_
    refine Yej h1.init (by omega) (n := l[i]) (by rw [Int.toNat_natCast]; exact Ydn hi) ?_
    refine nx _ ?_
    rw [List.take_succ_eq_append_getElem hj]
    by_cases e : m[j] = l[i]
    ·rw [e, beq_self_eq_true, decide_eq_true (by simp)]
    ·rw [decide_eq_false (by rw [List.mem_append, List.mem_singleton]; exact fun q => q.elim hin fun q => e q.symm)]
     simpa using e
  ·have : j = m.length := by omega
   subst this
   rw [List.take_length, Zfr5, Zfr4]
   have hfl : ((l.take i).filter fun v => !decide (v ∈ m)).length ≤ l.length := by
    have h5 := List.length_filter_le (fun v => !decide (v ∈ m)) (l.take i)
    rw [List.length_take] at h5; omega
   have nx : ∀ out', T B (R * vec 3 1 out' (ints ((l.take (i + 1)).filter fun v => !decide (v ∈ m)))) (Zfr2 i c out') := by
    intro out'
    rw [Zfr2]
    have e : (IntKind.wrap .i64 ((i : Int) + 1)).toNat = i + 1 := by rw [w64 (by omega) (by omega)]; omega
    have := hc (l.length - (i + 1)) (out', IntKind.wrap .i64 ((i : Int) + 1), ()) (by omega) ⟨i + 1, w64 (by omega) (by omega), by omega, rfl⟩
    simp only [e] at this
    exact this
   rw [List.take_succ_eq_append_getElem hi, List.filter_append] at nx
   by_cases hin : l[i] ∈ m
   ·rw [decide_eq_true hin]
    refine Yfh (Yal ?_)
    have h9 := nx out
    rw [show ([l[i]].filter fun v => !decide (v ∈ m)) = [] by simp [hin], List.append_nil] at h9
    exact h9
   ·rw [decide_eq_false hin]
    refine Yfh (Yau ?_)
    rw [Zfr3]
    refine Yej h1.init (by omega) (n := l[i]) (by rw [Int.toNat_natCast]; exact Ydn hi) ?_
    refine Ya7 fun b => ?_
    refine Yaa (X := vec 3 1 out _) (.init .last) ?_
    refine Ybs (x := ⟨some ⟨b, 0, none⟩, 1, 1⟩) (new := ints [l[i]]) Yeo (Rd.one Has.last rfl (Nat.le_refl _)) (Yct _) (by rw [Yag]; simp only; omega) fun out' => ?_
    refine Yac (.init .last) ?_
    have h9 := nx out'
    rw [show ([l[i]].filter fun v => !decide (v ∈ m)) = [l[i]] by simp [hin]] at h9
    rw [show ints ((l.take i).filter (fun v => !decide (v ∈ m)) ++ [l[i]]) = ints ((l.take i).filter fun v => !decide (v ∈ m)) ++ ints [l[i]] from List.map_append] at h9
    exact h9
 ·have : i = l.length := by omega
  subst this
  rw [List.take_length, Zfr1]
  exact hk out
theorem Vhz {x1 x2 : Sl} {l : List Int} (hl : l.length ≤ 2 ^ 30) (h1 : Rd R x1 1 (ints l)) (h2 : Rd R x2 1 (ints l)) {k : Bool → K} (hk : T B R (k true)) : T B R (Yj9 x1 x2 k) := by
 refine Yaq (Yv0 x1 x2 k) ?_
 refine Ya1 h1 fun hn1 => ?_
 rw [Yag, Nat.mul_one] at hn1
 refine Ya1 h2 fun hn2 => ?_
 rw [Yag, Nat.mul_one] at hn2
 rw [Yuj, Zfs8]
 refine Yar (fun h => by omega) (fun _ => ?_)
 rw [Zfs6]
 refine Ycz (fun _ _ => R) (fun n (z : Int × Unit) => ∃ i : Nat, z.1 = i ∧ i ≤ l.length ∧ n = l.length - i) l.length rfl ⟨0, rfl, by omega, rfl⟩ ?_
 rintro n ⟨z, uu⟩ c ⟨i, e1, e2, e3⟩ hc
 simp only at e1
 subst e1 e3
 rw [Zfs5, Zfs4]
 refine Yai (fun hlt => ?_) (fun hge => hk)
 have hi : i < l.length := by omega
 rw [Zfs3]
 refine Yak ?_
 refine Yej h1 (by omega) (n := l[i]) (by rw [Int.toNat_natCast]; exact Ydn hi) ?_
 refine Yej h2 (by omega) (n := l[i]) (by rw [Int.toNat_natCast]; exact Ydn hi) ?_
 rw [Zfs2]
 refine Yar (fun h => absurd rfl h) (fun _ => ?_)
 exact hc (l.length - (i + 1)) _ (by omega) ⟨i + 1, w64 (by omega) (by omega), by omega, rfl⟩
end
end
section
set_option maxHeartbeats 2000000
section
variable {B : World} {P R : SL} {t : K}
theorem Rd.pre {x y : Sl} {vs : List Value} {n : Nat} (h : Rd P x 1 vs) (hn : n ≤ vs.length) (h1 : y.p = x.p) (h2 : y.n = n) (h3 : y.c = n) : Rd P y 1 (vs.take n) := by
 intro B w s
 obtain ⟨e1, e2, e3⟩ := h B w s
 refine ⟨by rw [List.length_take, h2]; omega, by rw [h2, h3]; exact Nat.le_refl _, ?_⟩
 rcases e3 with ⟨p1, rfl⟩ | ⟨a, p1, p2⟩
 ·exact .inl ⟨by rw [h1, p1], by simp⟩
 ·refine .inr ⟨a, by rw [h1, p1], fun j v hj => p2 j v ?_⟩
  rw [List.getElem?_take] at hj
  split at hj
  ·exact hj
  ·cases hj
end
end
section
set_option maxHeartbeats 2000000
def c00 (g : Nat) (F : RF) : Cy := ⟨st0 g F, m0 g, g, [], 0, 0, 0, List.replicate 10 0⟩
theorem J.begun {g : Nat} {F : RF} (h1 : 2 ≤ g) (h2 : g ≤ 255) : J g (c00 g F) := by
 have nol : ∀ x, ¬ LiveP g (st0 g F) (List.replicate 10 0) x := fun x hx => by have := hx.used; cases this
 refine ⟨⟨Inv.begun h1 (by omega), Pl.begun h1 h2, fun y hy => (by cases hy), .inl rfl, fun q => (by cases q), fun q => (by cases q), rfl, h2⟩, fun x hx => .inl (List.eq_of_mem_replicate hx), fun z hz => absurd hz (nol z), fun x hx => (by cases hx), fun x hx => (by cases hx), fun q => (by cases q), fun q => (by cases q), fun q => (by cases q)⟩
section
variable {B : World} {P R : SL} {t : K}
theorem Vhb {a d g rb : Nat} {s : St} {most : Int} (inv : Inv g s.hs s.U s.L) (hg : g ≤ 2 ^ 20) (hm : most ≤ 2 ^ 30) {k : Option Addr → K}
  (hk : ∀ mk sw cl, T B (R * Al a d g s * Mkr mk a (512 * g) (max2I most 0) (m0 g) * Swr sw a mk g [] * pt cl (.cells [.pointer (da a), .pointer (da mk), .pointer (da sw), (rootsF rb).v, .int .i64 0, .int .i64 0, .int .i64 0].toArray 129)) (k (da cl))) :
  T B (R * Al a d g s) (Ymo (da a) most (rootsF rb) k) := by
 refine Yaq (Yxy _ most _ k) ?_
 rw [Yxx, Zew2]
 refine Vgw hg hm fun mk => ?_
 rw [Zew1]
 refine Yaa (X := Al a d g s) (.init .last) ?_
 refine Vg1 inv fun sw => ?_
 refine Ya7 fun cl => ?_
 rw [Zew0]
 exact T.perm (by unfold m0; ac_rfl) (hk mk sw cl)
theorem Vdo {g : Nat} {most : Int} (h1 : 2 ≤ g) (h2 : g ≤ 16) (hm : most ≤ 2 ^ 30) {k : (Option Addr × Option Addr × Sl × Option Addr × Option Addr) × Bool → K}
  (hk : ∀ y F, T B (R * CW g y (max2I most 0) (da y.cl) (c00 g F)) (k (rmV y, true))) : T B R (Ygi g most k) := by
 refine Yaq (Ytr _ most k) ?_
 rw [Ysl]
 refine Ya7 fun b3 => ?_
 rw [Zgl8]
 refine Vgy (n := g) h1 (by omega) fun a d F => ?_
 refine Ya7 fun b2 => ?_
 refine Ybc (i := 0) rfl Upd.last (by show _ < 3; omega) ?_
 refine Ybc (i := 1) rfl Upd.last (by show _ < 3; omega) ?_
 refine Ybc (i := 2) rfl Upd.last (by show _ < 3; omega) ?_
 rw [Zgl7]
 refine Yaj (i := 0) (n := da a) rfl Has.last rfl ?_
 refine Yaj (i := 1) (n := da d) rfl Has.last rfl ?_
 refine Yaz (i := 2) (n := nilS) rfl Has.last rfl ?_
 refine Ya7 fun pb => ?_
 refine Ya7 fun rb => ?_
 refine Ybc (i := 0) rfl Upd.last (by show _ < 5; omega) ?_
 refine Ybc (i := 1) rfl Upd.last (by show _ < 5; omega) ?_
 refine Ybc (i := 2) rfl Upd.last (by show _ < 5; omega) ?_
 refine Ybc (i := 3) rfl Upd.last (by show _ < 5; omega) ?_
 refine Ybc (i := 4) rfl Upd.last (by show _ < 5; omega) ?_
 rw [Zgl6, Zgl5]
 refine Yfh (Yal ?_)
 rw [Zgl2]
 refine Yaj (i := 0) (n := da a) rfl (Has.init (Has.init Has.last)) rfl ?_
 have inv : Inv g (st0 g F).hs (st0 g F).U (st0 g F).L := Inv.begun h1 (by omega)
 refine Yaa (X := Al a d g (st0 g F)) (by exact frmA) ?_
 refine Vhb (rb := rb) inv (by omega) hm fun mk sw cl => ?_
 refine Ybc (i := 3) rfl (by exact updA) (by show _ < 5; omega) ?_
 rw [Zgl1]
 refine Yak ?_
 refine Yaj (i := 0) (n := da a) rfl (by exact hasA) rfl ?_
 refine Yaj (i := 1) (n := da d) rfl (by exact hasA) rfl ?_
 refine Yaz (i := 2) (n := nilS) rfl (by exact hasA) rfl ?_
 refine Yaj (i := 3) (n := da cl) rfl (by exact hasA) rfl ?_
 refine Yaj (i := 4) (n := da pb) rfl (by exact hasA) rfl ?_
 refine Yaj (i := 3) (n := da cl) rfl (by exact hasA) rfl ?_
 refine Ybc (i := 0) rfl (by exact updA) (by show _ < 5; omega) ?_
 refine Ybc (i := 1) rfl (by exact updA) (by show _ < 5; omega) ?_
 refine Ybc (i := 2) rfl (by exact updA) (by show _ < 5; omega) ?_
 refine Ybc (i := 3) rfl (by exact updA) (by show _ < 5; omega) ?_
 refine Ybc (i := 4) rfl (by exact updA) (by show _ < 5; omega) ?_
 refine Ycm (i := 3) (v := .pointer (da cl)) rfl (by exact hasA) rfl ?_
 refine Ybe ?_
 rw [Zgl0]
 refine Yaj (i := 0) (n := da a) rfl (by exact hasA) rfl ?_
 refine Yaj (i := 1) (n := da d) rfl (by exact hasA) rfl ?_
 refine Yaz (i := 2) (n := nilS) rfl (by exact hasA) rfl ?_
 refine Yaj (i := 3) (n := da cl) rfl (by exact hasA) rfl ?_
 refine Yaj (i := 4) (n := da pb) rfl (by exact hasA) rfl ?_
 have h := @Ybn B R _ g ⟨a, d, mk, sw, cl, rb, pb⟩ (max2I most 0) (da cl) (st0 g F) (m0 g) g [] (List.replicate 10 0) 0 0 0 (hk ⟨a, d, mk, sw, cl, rb, pb⟩ F)
 refine Yac (by exact frmA : Frm _ (pt b3 _) _) ?_
 refine Yac (by exact frmA : Frm _ (pt b2 _) _) ?_
 unfold RootsR colC at h
 simp only [← Yad] at h
 exact T.perm (by ac_rfl) h
end
end
section
set_option maxHeartbeats 2000000
theorem ShdL.none {U : Nat → Bool} (hU : ∀ x, U x = false) : ∀ {l : List Int} {m m' : Mk}, ShdL U l m m' → m' = m
 |[], _, _, h => h
 |x :: l, m, m', ⟨m1, h1, h2⟩ => by
  rcases h1 with ⟨n, _, h, _⟩ | ⟨e, _⟩
  ·rw [hU n] at h; cases h
  ·rw [h2.none hU, e]
theorem Yuq {c c' : Cy} {n : Nat} (hU : ∀ x, c.s.U x = false) (h : (n = 0 ∧ c.ph = 0) ∨ (n = 1 ∧ c.ph = 1 ∧ c.st = 1 ∧ c.m.again = false ∧ ∀ x, c.m.M x = false) ∨ (n = 2 ∧ c.ph = 2 ∧ c.st = 2 ∧ c.blk = 1) ∨ (n = 3 ∧ c.ph = 2 ∧ c.st = 3 ∧ c.blk = 2)) (hs : StepR 3 c c') :
  (∀ x, c'.s.U x = false) ∧ ((n + 1 = 1 ∧ c'.ph = 1 ∧ c'.st = 1 ∧ c'.m.again = false ∧ ∀ x, c'.m.M x = false) ∨ (n + 1 = 2 ∧ c'.ph = 2 ∧ c'.st = 2 ∧ c'.blk = 1) ∨ (n + 1 = 3 ∧ c'.ph = 2 ∧ c'.st = 3 ∧ c'.blk = 2) ∨ (c'.ph = 0 ∧ c'.st = 4 ∧ c'.cyc = IntKind.wrap .i64 (c.cyc + 1))) := by
 have hgry : c.ph = 1 → ∀ x, gry c.m x = true → False := fun hp x hx => by
  rcases h with ⟨_, q⟩ | ⟨_, _, _, _, q⟩ | ⟨_, q, _⟩ | ⟨_, q, _⟩
  ·rw [hp] at q; cases q
  ·have := (Yfg.1 hx).1; rw [q x] at this; cases this
  ·rw [hp] at q; cases q
  ·rw [hp] at q; cases q
 cases hs with
 |begin m' st' hp hm hst =>
  rcases h with ⟨q, _⟩ | ⟨_, q, _⟩ | ⟨_, q, _⟩ | ⟨_, q, _⟩
  ·refine ⟨hU, .inl ⟨by omega, rfl, hst, ?_, ?_⟩⟩ <;> simp only [hm.none hU]
   ·rfl
   ·exact fun _ => rfl
  all_goals rw [hp] at q; cases q
 |mark m' st' hp hm hst =>
  exfalso
  cases hm with
  |stack x stk' junk _ a1 a2 a3 a4 => exact hgry hp x a1
  |look x _ a1 a2 a3 a4 a5 => exact hgry hp x a1
  |anew a1 a2 a3 =>
   rcases h with ⟨_, q⟩ | ⟨_, _, _, q, _⟩ | ⟨_, q, _⟩ | ⟨_, q, _⟩
   ·rw [hp] at q; cases q
   ·rw [a1] at q; cases q
   ·rw [hp] at q; cases q
   ·rw [hp] at q; cases q
 |more m' st' hp hn hm hst =>
  exfalso
  have : ∀ {l : List Int} {m m' : Mk} {b b' : Bool}, ShB c.s.U l m b m' b' → b' = b := by
   intro l
   induction l with
   |nil => intro m m' b b' h; exact h.2
   |cons x l ih =>
    intro m m' b b' h
    obtain ⟨m1, b1, h1, h2⟩ := h
    rcases h1 with ⟨⟨k, _, q, _⟩, _⟩ | ⟨_, e, _⟩
    ·rw [hU k] at q; cases q
    ·rw [ih h2, e]
  have := this hm
  cases this
 |last st' hp hn hall hst =>
  rcases h with ⟨_, q⟩ | ⟨e, _, q, _⟩ | ⟨_, q, _⟩ | ⟨_, q, _⟩
  ·rw [hp] at q; cases q
  ·refine ⟨hU, .inr (.inl ⟨by omega, rfl, ?_, rfl⟩)⟩
   show st' = 2
   rw [hst, q]; rfl
  ·rw [hp] at q; cases q
  ·rw [hp] at q; cases q
 |sweep s' l st' hp hw hS hll hb hst =>
  have hU' : ∀ x, s'.U x = false := fun x => by rw [hS.u x, hU x]; rfl
  rcases h with ⟨_, q⟩ | ⟨_, q, _⟩ | ⟨e, _, q, q2⟩ | ⟨_, _, _, q2⟩
  ·rw [hp] at q; cases q
  ·rw [hp] at q; cases q
  ·refine ⟨hU', .inr (.inr (.inl ⟨by omega, hp, ?_, ?_⟩))⟩
   ·show st' = 3
    rw [hst, q]; rfl
   ·show c.blk + 1 = 2
    omega
  ·omega
 |done s' l st' hp hw hS hll hb hst =>
  have hU' : ∀ x, s'.U x = false := fun x => by rw [hS.u x, hU x]; rfl
  rcases h with ⟨_, q⟩ | ⟨_, q, _⟩ | ⟨_, _, _, q2⟩ | ⟨e, _, q, q2⟩
  ·rw [hp] at q; cases q
  ·rw [hp] at q; cases q
  ·omega
  ·refine ⟨hU', .inr (.inr (.inr ⟨rfl, ?_, rfl⟩))⟩
   show st' = 4
   rw [hst, q]; rfl
theorem Yur {c c' : Cy} {n : Nat} (hc : c.cyc = 0) (h0 : c.ph = 0) (hU : ∀ x, c.s.U x = false) (w : Walk 3 c n c') : c'.cyc = 0 ∧ (∀ x, c'.s.U x = false) ∧ ((n = 0 ∧ c'.ph = 0) ∨ (n = 1 ∧ c'.ph = 1 ∧ c'.st = 1 ∧ c'.m.again = false ∧ ∀ x, c'.m.M x = false) ∨ (n = 2 ∧ c'.ph = 2 ∧ c'.st = 2 ∧ c'.blk = 1) ∨ (n = 3 ∧ c'.ph = 2 ∧ c'.st = 3 ∧ c'.blk = 2)) := by
 induction w with
 |nil => exact ⟨hc, hU, .inl ⟨rfl, h0⟩⟩
 |cons n c1 c2 w hs he ih =>
  obtain ⟨i1, i2, i3⟩ := ih
  obtain ⟨j1, j2⟩ := Yuq i2 i3 hs
  refine ⟨he.trans i1, j1, ?_⟩
  rcases j2 with q | q | q | ⟨_, _, q⟩
  ·exact .inr (.inl q)
  ·exact .inr (.inr (.inl q))
  ·exact .inr (.inr (.inr q))
  ·rw [he, i1] at q; exact absurd q (by decide)
section
variable {B : World} {P R : SL} {t : K}
theorem Ywd {k : Bool → K} (hk : T B R (k true)) : T B R (Yip k) := by
 refine Yaq (Ytq k) ?_
 rw [Ysk, Zgk6]
 refine Vdo (g := 3) (by omega) (by omega) (by decide) fun y F => ?_
 refine Ya7 fun b => ?_
 refine Ybc (i := 0) rfl Upd.last (by show _ < 5; omega) ?_
 refine Ybc (i := 1) rfl Upd.last (by show _ < 5; omega) ?_
 refine Ybc (i := 2) rfl Upd.last (by show _ < 5; omega) ?_
 refine Ybc (i := 3) rfl Upd.last (by show _ < 5; omega) ?_
 refine Ybc (i := 4) rfl Upd.last (by show _ < 5; omega) ?_
 rw [Zgk5, Zgk4]
 refine Yfh (Yal ?_)
 rw [Zgk2]
 refine Yaj (i := 3) (n := da y.cl) rfl Has.last rfl ?_
 refine Yaa (X := CW 3 y _ _ _) (.init .last) ?_
 have hJ : J 3 (c00 3 F) := J.begun (by omega) (by omega)
 have hU : ∀ x, (c00 3 F).s.U x = false := fun _ => rfl
 refine Vg6 hJ (Int.le_refl 0) (show (0 : Int) < 2 ^ 62 by decide) (fun c' m w hm => ?_) (fun m c1 c' w _ hs hcc hp => ?_)
 ·exfalso
  have hm2 : m = 100 := by
   have : max2I (min2I 100 1048576) 0 = 100 := by decide
   omega
  rcases (Yur rfl rfl hU w).2.2 with ⟨q, _⟩ | ⟨q, _⟩ | ⟨q, _⟩ | ⟨q, _⟩ <;> omega
 ·obtain ⟨i1, i2, i3⟩ := Yur rfl rfl hU w
  have hst : c'.st = 4 := by
   rcases (Yuq i2 i3 hs).2 with ⟨_, q, _⟩ | ⟨_, q, _⟩ | ⟨_, q, _⟩ | ⟨_, q, _⟩
   ·rw [hp] at q; cases q
   ·rw [hp] at q; cases q
   ·rw [hp] at q; cases q
   ·exact q
  have hcy : c'.cyc = 1 := by rw [hcc]; rfl
  rw [Zgk1]
  refine Yal ?_
  refine Ybr (fun _ => ?_) (fun h => absurd rfl h)
  refine Yaj (i := 3) (n := da y.cl) rfl (by exact hasA) rfl ?_
  refine Vff ?_
  refine Ybr (fun _ => ?_) (fun h => absurd hcy h)
  refine Yaj (i := 3) (n := da y.cl) rfl (by exact hasA) rfl ?_
  refine Vg7 ?_
  refine Ybr (fun _ => ?_) (fun h => absurd hp h)
  refine Yaj (i := 3) (n := da y.cl) rfl (by exact hasA) rfl ?_
  refine Vg8 ?_
  rw [Zgk0, hst]
  exact hk.weak.weak
end
end
section
set_option maxHeartbeats 2000000
/-- a script of five numbers each, in the world of the law's call -/
def Scr5 (B : World) (x : Sl) : Prop := ∀ i : Nat, i < x.n → ∃ a, x.p = some a ∧ ∃ k m p q d : Int, B.cell? ((a.add (i * 5)).add 0) = some (.int .i64 k) ∧ B.cell? ((a.add (i * 5)).add 1) = some (.int .i64 m) ∧ B.cell? ((a.add (i * 5)).add 2) = some (.int .i64 p) ∧ B.cell? ((a.add (i * 5)).add 3) = some (.int .i64 q) ∧ B.cell? ((a.add (i * 5)).add 4) = some (.int .i64 d)
theorem Vfi (U : Nat → Bool) (n : Nat) : cnN U n = (uBel U n).length := by
 unfold uBel
 rw [List.length_map]
 induction n with
 |zero => rfl
 |succ n ih =>
  rw [List.range_succ, List.filter_append, List.length_append, ← ih]
  show cnN U n + (if U n = true then 1 else 0) = _
  cases h : U n <;> simp [h]
def bndC (g : Nat) (c : Cy) : Int := 2 * (4 * ((uBel c.s.U (512 * g)).length : Int) + g) + 16
theorem Vhc {g : Nat} {c : Cy} (h : J g c) : (Phi g c : Int) < bndC g c := by
 have h1 := Vhx h
 rw [Vfi] at h1
 unfold bndC
 omega
def rmC (y : Lay) : List Value := [.pointer (da y.a), .pointer (da y.d), nilS.v, .pointer (da y.cl), .pointer (da y.pb)]
section
variable {B : World} {P R : SL} {t : K}
theorem Vfj {x : Sl} (h : Scr5 B x) {i : Int} {k : Addr → K} (h0 : 0 ≤ i) (h1 : i < x.n) (ht : ∀ a kd m p q d, B.cell? (a.add 0) = some (.int .i64 kd) → B.cell? (a.add 1) = some (.int .i64 m) → B.cell? (a.add 2) = some (.int .i64 p) → B.cell? (a.add 3) = some (.int .i64 q) → B.cell? (a.add 4) = some (.int .i64 d) → T B P (k a)) :
  T B P (ixS x.p x.n i 5 k) := by
 obtain ⟨a, ha, kd, m, p, q, d, e0, e1, e2, e3, e4⟩ := h i.toNat (by omega)
 exact Vcb ha h0 h1 (ht _ kd m p q d e0 e1 e2 e3 e4)
/-- it runs to its end -/
theorem Vfk {g : Nat} {y : Lay} {most : Int} {c3 : Option Addr} {c : Cy} (h : J g c) (hg : g ≤ 16) (hc0 : 0 ≤ c.cyc) (hc1 : c.cyc < 2 ^ 62) {k : Bool × Int → K}
  (h1 : ∀ m c1 c', Walk g c m c1 → StepR g c1 c' → Eff g c c' → c'.cyc = c.cyc + 1 → c'.ph = 0 → T B (R * CW g y most c3 c') (k (true, 0))) :
  T B (R * CW g y most c3 c) (Ya9 (da y.cl) (bndC g c) k) := by
 refine Vg6 h hc0 hc1 (fun c' m w hm => ?_) (fun m c1 c' w _ hs hcc hp => h1 m c1 c' w hs (Eff.ended h hc1 hc0 w hs hcc hp) hcc hp)
 exfalso
 obtain ⟨_, _, q⟩ := w.J h
 have h2 := Vhc h
 have ub := @Ylz c.s.U (512 * g)
 have h3 : max2I (min2I (bndC g c) 1048576) 0 = bndC g c := by
  unfold bndC max2I min2I
  rw [if_neg (by omega), if_neg (by omega)]
 omega
theorem Vdp {g : Nat} {y : Lay} {most : Int} {c3 : Option Addr} {c : Cy} {k : Sl → K} (hk : ∀ sl, T B (R * CW g y most c3 c * vec 3 1 sl (ints (uBel c.s.U (512 * g)))) (k sl)) : T B (R * CW g y most c3 c) (Yan (da y.a) k) := by
 refine Ycf ?_
 refine Yaa (X := Al y.a y.d g c.s) (by exact frmA) ?_
 refine Yx2 fun sl => ?_
 have h := @Ybn B (R * vec 3 1 sl (ints (uBel c.s.U (512 * g)))) _ g y most c3 c.s c.m c.blk c.gone c.pl c.ph c.cyc c.st (T.perm (by ac_rfl) (hk sl))
 exact T.perm (by ac_rfl) h
end
section
variable {B : World} {P R : SL} {t : K}
end
end
section
set_option maxHeartbeats 2000000
/-- a cycle under way, or ended -/
def Und (g : Nat) (c : Cy) (D : Nat → Prop) (cy : Int) : Prop := J g c ∧ ((c.cyc = cy ∧ c.ph ≠ 0 ∧ ∃ E, DD g c D E) ∨ (c.cyc = cy + 1 ∧ c.gone.length ≤ 512 * g * g ∧ ∀ x, D x → (x : Int) ∈ c.gone))
theorem Und.eff {g : Nat} {c c' : Cy} {D : Nat → Prop} {cy : Int} (h : Und g c D cy) (hc : c.cyc = cy) (he : Eff g c c') : Und g c' D cy := by
 obtain ⟨hJ, h⟩ := h
 obtain ⟨e1, e2, e3, e4⟩ := he
 rcases h with ⟨q1, q2, E, q3⟩ | ⟨q, _⟩
 ·rcases e4 D E q3 q2 with ⟨r1, r2, r3⟩ | ⟨_, r2, r3, r4⟩
  ·exact ⟨e1, .inl ⟨by omega, r1, r3⟩⟩
  ·exact ⟨e1, .inr ⟨by omega, r3, r4⟩⟩
 ·omega
section
variable {B : World} {P R : SL} {t : K}
end
end
section
set_option maxHeartbeats 2000000
section
variable {B : World} {P R : SL} {t : K}
end
end
section
set_option maxHeartbeats 2000000
def Keep (g : Nat) (c c' : Cy) : Prop := (∀ x, LiveP g c'.s c'.pl x ↔ LiveP g c.s c.pl x) ∧ c'.pl = c.pl ∧ ∀ x, c'.s.U x = true → c.s.U x = true
theorem Keep.refl {g : Nat} {c : Cy} : Keep g c c := ⟨fun _ => Iff.rfl, rfl, fun _ h => h⟩
theorem Keep.trans {g : Nat} {a b c : Cy} (h1 : Keep g a b) (h2 : Keep g b c) : Keep g a c := ⟨fun x => (h2.1 x).trans (h1.1 x), h2.2.1.trans h1.2.1, fun x h => h1.2.2 x (h2.2.2 x h)⟩
theorem SwR.sub {g : Nat} {s s' : St} {l : List Int} (h : SwR g s s' l) {x : Nat} (hx : s'.U x = true) : s.U x = true := by
 rw [h.u x] at hx
 simp only [Bool.and_eq_true] at hx
 exact hx.1
theorem Keep.step {g : Nat} {c c' : Cy} (hJ : J g c) (hs : StepR g c c') : Keep g c c' := by
 cases hs with
 |begin m' st' h hm hst => exact ⟨fun _ => Iff.rfl, rfl, fun _ h => h⟩
 |mark m' st' h hm hst => exact ⟨fun _ => Iff.rfl, rfl, fun _ h => h⟩
 |more m' st' h hn hm hst => exact ⟨fun _ => Iff.rfl, rfl, fun _ h => h⟩
 |last st' h hn hall hst => exact ⟨fun _ => Iff.rfl, rfl, fun _ h => h⟩
 |sweep s' l st' h hw hS hll hb hst => exact ⟨(Ywb hJ h hw hS).1, rfl, fun x hx => hS.sub hx⟩
 |done s' l st' h hw hS hll hb hst => exact ⟨(Ywb hJ h hw hS).1, rfl, fun x hx => hS.sub hx⟩
theorem Keep.walk {g : Nat} {c c' : Cy} {n : Nat} (hJ : J g c) (w : Walk g c n c') : Keep g c c' := by
 induction w with
 |nil => exact Keep.refl
 |cons n c1 c2 w hs hc ih => exact ih.trans (Keep.step (w.J hJ).1 hs)
def GU (c : Cy) : Prop := ∀ n : Nat, (n : Int) ∈ c.gone → c.s.U n = false
theorem GU.step {g : Nat} {c c' : Cy} (h : c.ph = 2 → GU c) (hs : StepR g c c') : (c'.ph = 2 → GU c') ∧ (c.ph ≠ 0 → c'.ph = 0 → GU c') := by
 have key : ∀ (s' : St) (l : List Int), c.ph = 2 → SwR g c.s s' l → ∀ n : Nat, (n : Int) ∈ c.gone ++ l → s'.U n = false := by
  intro s' l hp hS n hn
  rw [hS.u n]
  rcases List.mem_append.1 hn with q | q
  ·rw [h hp n q]; rfl
  ·rw [decide_eq_true q]; simp
 cases hs with
 |begin m' st' h hm hst => exact ⟨fun q => (by cases q), fun q _ => absurd h q⟩
 |mark m' st' hp hm hst => exact ⟨fun q => (by rw [show ({ c with m := m', st := st' } : Cy).ph = c.ph from rfl, hp] at q; cases q), fun q q2 => absurd q2 q⟩
 |more m' st' hp hn hm hst => exact ⟨fun q => (by rw [show ({ c with m := m', st := st' } : Cy).ph = c.ph from rfl, hp] at q; cases q), fun q q2 => absurd q2 q⟩
 |last st' h hn hall hst => exact ⟨fun _ n hn => (by cases hn), fun _ q => (by cases q)⟩
 |sweep s' l st' h hw hS hll hb hst => exact ⟨fun _ n hn => key s' l h hS n hn, fun q q2 => absurd q2 q⟩
 |done s' l st' h hw hS hll hb hst => exact ⟨fun q => (by cases q), fun _ _ n hn => key s' l h hS n hn⟩
/-- under way, without others -/
theorem Vhd {g : Nat} {c c' : Cy} {n : Nat} (hJ : J g c) (hc0 : 0 ≤ c.cyc) (hc1 : c.cyc < 2 ^ 62) (hp : c.ph = 0) (w : Walk g c n c') :
  (c'.ph = 2 → GU c') ∧ (c' = c ∨ (c'.ph ≠ 0 ∧ ∃ E, DD g c' (fun x => c.s.U x = true ∧ ¬ LiveP g c.s c.pl x) E)) := by
 induction w with
 |nil => exact ⟨fun q => (by rw [hp] at q; cases q), .inl rfl⟩
 |cons n c1 c2 w hs hc ih =>
  obtain ⟨i1, i2⟩ := ih
  obtain ⟨j1, j2, _⟩ := w.J hJ
  refine ⟨(GU.step i1 hs).1, .inr ?_⟩
  rcases i2 with rfl | ⟨q1, E, q2⟩
  ·cases hs with
   |begin m' st' h hm hst => exact ⟨by show (1 : Int) ≠ 0; decide, _, DD.begin hJ hm⟩
   |mark m' st' h hm hst => rw [hp] at h; cases h
   |more m' st' h hn hm hst => rw [hp] at h; cases h
   |last st' h hn hall hst => rw [hp] at h; cases h
   |sweep s' l st' h hw hS hll hb hst => rw [hp] at h; cases h
   |done s' l st' h hw hS hll hb hst => rw [hp] at h; cases h
  ·rcases q2.step j1 hs q1 with ⟨r1, _, r2⟩ | ⟨_, r, _⟩
   ·exact ⟨r1, r2⟩
   ·rw [w64 (by omega) (by omega)] at r; omega
/-- a whole cycle without others leaves what one comes to -/
theorem Vdq {g : Nat} {c c1 c' : Cy} {n : Nat} (hJ : J g c) (hc0 : 0 ≤ c.cyc) (hc1 : c.cyc < 2 ^ 62) (hp : c.ph = 0) (w : Walk g c n c1) (hs : StepR g c1 c') (hp' : c'.ph = 0) : ∀ x, c'.s.U x = true ↔ LiveP g c.s c.pl x := by
 obtain ⟨i1, i2⟩ := Vhd hJ hc0 hc1 hp w
 obtain ⟨j1, j2, _⟩ := w.J hJ
 have hk := (Keep.walk hJ w).trans (Keep.step j1 hs)
 intro x
 constructor
 ·intro hx
  by_cases hl : LiveP g c.s c.pl x
  ·exact hl
  ·exfalso
   rcases i2 with rfl | ⟨q1, E, q2⟩
   ·cases hs with
    |begin m' st' h hm hst => cases hp'
    |mark m' st' h hm hst => rw [hp] at h; cases h
    |more m' st' h hn hm hst => rw [hp] at h; cases h
    |last st' h hn hall hst => rw [hp] at h; cases h
    |sweep s' l st' h hw hS hll hb hst => rw [hp] at h; cases h
    |done s' l st' h hw hS hll hb hst => rw [hp] at h; cases h
   ·rcases q2.step j1 hs q1 with ⟨r1, _⟩ | ⟨_, _, r⟩
    ·exact r1 hp'
    ·have h1 := r x ⟨hk.2.2 x hx, hl⟩
     have h2 := (GU.step i1 hs).2 q1 hp' x h1
     rw [hx] at h2; cases h2
 ·intro hl
  exact ((hk.1 x).2 hl).used
theorem Vdr {g : Nat} {U : Nat → Bool} {s : St} {pl : List Int} (hoff : ∀ x, s.U x = true → x < 512 * g) (h : ∀ x, U x = true ↔ LiveP g s pl x) : uBel U (512 * g) = liveL g s pl := by
 unfold liveL uBel
 rw [List.filter_map, List.filter_filter]
 congr 1
 refine List.filter_congr fun x _ => ?_
 rw [Bool.eq_iff_iff, h x]
 simp only [Function.comp, Bool.and_eq_true]
 rw [@decide_eq_true_iff _ (Classical.propDecidable _)]
 exact ⟨fun q => ⟨⟨x, rfl, q⟩, q.used⟩, fun ⟨⟨m, e, q⟩, _⟩ => by
  have : m = x := by omega
  subst this
  exact q⟩
section
variable {B : World} {P R : SL} {t : K}
/-- one in use is freed -/
theorem Vfl {g n : Nat} {y : Lay} {most m : Int} {c3 : Option Addr} {c : Cy} (hJ : J g c) (hn : c.s.U n = true) {k : Int → K} (hk : ∀ s', FreeR g c.s s' n → T B (R * CW g y most c3 { c with s := s' }) (k 0)) : T B (R * CW g y most c3 c) (Ybo (da y.a) m n k) := by
 have close := fun s t ht => @Ybn B R t g y most c3 s c.m c.blk c.gone c.pl c.ph c.cyc c.st ht
 refine Ycf ?_
 refine Yaa (X := Al y.a y.d g c.s) (by exact frmA) ?_
 refine Vft hJ.gc.inv (fun hbad => ?_) (fun n' s' o hnn _ hf => ?_)
 ·exfalso
  rcases hbad with hbad | hbad
  ·obtain ⟨o, ho⟩ := hJ.gc.pl.obj n hn
   exact hbad o ho
  ·rw [Ycd, hn] at hbad; cases hbad
 ·have : n' = n := by omega
  subst this
  exact T.perm (by ac_rfl) (close s' _ (hk s' hf))
theorem Vfm {g : Nat} {y : Lay} {most x : Int} {c3 : Option Addr} {c : Cy} {k : Bool → K} (hk : T B (R * CW g y most c3 c) (k (has c.s.U x))) : T B (R * CW g y most c3 c) (Ybp (da y.a) x k) := by
 have close := @Ybn B R _ g y most c3 c.s c.m c.blk c.gone c.pl c.ph c.cyc c.st hk
 refine Ycf ?_
 refine Yaa (X := Al y.a y.d g c.s) (by exact frmA) ?_
 refine Vfu ?_
 exact T.perm (by ac_rfl) close
end
end
section
set_option maxHeartbeats 2000000
def U8s (B : World) (x : Sl) : Prop := ∀ i : Nat, i < x.n → ∃ a, x.p = some a ∧ ∃ v : Int, (0 ≤ v ∧ v ≤ 255) ∧ B.cell? (a.add (i * 1)) = some (.int .u8 v)
section
variable {B : World} {P R : SL} {t : K}
theorem Vfx {x : Sl} (h : U8s B x) {i : Int} {k : Int → K} (h0 : 0 ≤ i) (h1 : i < x.n) (ht : ∀ v, 0 ≤ v → v ≤ 255 → T B P (k v)) : T B P (ixS x.p x.n i 1 fun a => ldI .u8 a k) := by
 obtain ⟨a, ha, v, hv, e⟩ := h i.toNat (by omega)
 exact Vcb ha h0 h1 (Yl1 e (ht v hv.1 hv.2))
theorem Vb1 {g b : Nat} {y : Lay} {most : Int} {c3 : Option Addr} {c : Cy} {x12 : Sl} {l : List Int} (hl : l.length ≤ 2 ^ 30) (he : uBel c.s.U (512 * g) = l) {k : Bool → K} (hk : T B R (k true)) :
  T B (R * pt b (.cells (rmC y).toArray 33) * vec 3 1 x12 (ints l) * CW g y most c3 c) (Zgj1 k ⟨b, 0, none⟩ x12) := by
 rw [Zgj1]
 unfold rmC
 refine Yaj (i := 0) (n := da y.a) (by rw [Yay, Yay]) (by exact hasA) rfl ?_
 refine Vdp fun x122 => ?_
 rw [he]
 refine Vhz hl (Rd.vec .last) (Rd.vec (by exact frmA)) ?_
 exact hk.weak.weak.weak.weak
theorem Yzz {g b : Nat} {y : Lay} {most : Int} {c3 : Option Addr} {c : Cy} (hJ : J g c) (hc0 : 0 ≤ c.cyc) (hc1 : c.cyc < 2 ^ 60) (hg : g ≤ 16) {k : Bool → K} (hk : T B R (k true)) :
  T B (R * pt b (.cells (rmC y).toArray 33) * CW g y most c3 c) (Zgj10 k ⟨b, 0, none⟩) := by
 have hoff : ∀ x, c.s.U x = true → x < 512 * g := fun x hx => (hJ.off hx).2
 have ub := @Ylz c.s.U (512 * g)
 have hll : (liveL g c.s c.pl).length ≤ 512 * g := Nat.le_trans (List.length_filter_le _ _) ub
 rw [Zgj10]
 have hend : ∀ c' x12, uBel c'.s.U (512 * g) = liveL g c.s c.pl → T B (R * pt b (.cells (rmC y).toArray 33) * vec 3 1 x12 (ints (liveL g c.s c.pl)) * CW g y most c3 c') (Zgj1 k ⟨b, 0, none⟩ x12) := fun c' x12 he => Vb1 (by omega) he hk
 have hloop : ∀ x12, T B (R * pt b (.cells (rmC y).toArray 33) * vec 3 1 x12 (ints (liveL g c.s c.pl)) * CW g y most c3 c) (Zgj9 k ⟨b, 0, none⟩ x12) := by
  intro x12
  rw [Zgj9, Zgj8]
  refine Yl2 (fun _ (z : Int × Unit) => ex fun c1 : Cy => R * pt b (.cells (rmC y).toArray 33) * vec 3 1 x12 (ints (liveL g c.s c.pl)) * CW g y most c3 c1 * pu (J g c1 ∧ 0 ≤ c1.cyc ∧ c1.cyc ≤ c.cyc + z.1 ∧ Keep g c c1 ∧ (1 ≤ z.1 → c1.ph = 0) ∧ (2 ≤ z.1 → ∀ x, c1.s.U x = true ↔ LiveP g c.s c.pl x))) (fun n (z : Int × Unit) => ∃ i : Nat, z.1 = i ∧ i ≤ 2 ∧ n = 2 - i) 2 (fun t ht => ?_) ⟨0, rfl, by omega, rfl⟩ ?_
  ·intro w hw
   exact ht w (Yds c (Sat.puI ⟨hJ, hc0, by simp only; omega, Keep.refl, fun q => (by simp only at q; omega), fun q => (by simp only at q; omega)⟩ hw))
  rintro n ⟨z, uu⟩ cc ⟨i, e1, e2, e3⟩ hcc
  simp only at e1
  subst e1 e3
  dsimp only
  refine Ysw fun c1 hc => ?_
  obtain ⟨q1, q2, q3, q4, q5, q6⟩ := hc
  rw [Zgj7, Zgj6]
  refine Yai (fun hlt => ?_) (fun hge => ?_)
  ·rw [Zgj5]
   unfold rmC at hcc ⊢
   refine Yak ?_
   refine Yaj (i := 3) (n := da y.cl) rfl (by exact hasA) rfl ?_
   refine Yaj (i := 3) (n := da y.cl) rfl (by exact hasA) rfl ?_
   refine Vdj q1.gc ?_
   refine Ycm (i := 3) rfl (by exact hasA) rfl ?_
   refine Ybe ?_
   refine Vfk q1 hg q2 (by omega) fun m cX c' w hs he hcy hp => ?_
   rw [Zgj4]
   refine Yau ?_
   rw [Zgj3]
   refine Yar (fun h => absurd rfl h) (fun _ => ?_)
   have hw64 : IntKind.wrap .i64 ((i : Int) + 1) = (i : Int) + 1 := w64 (by omega) (by omega)
   have hk2 := (Keep.walk q1 w).trans (Keep.step (w.J q1).1 hs)
   intro w1 hw1
   refine hcc (2 - (i + 1)) (IntKind.wrap .i64 ((i : Int) + 1), ()) (by omega) ⟨i + 1, hw64, by omega, rfl⟩ w1 (Yds c' (Sat.puI ⟨he.1, by omega, by simp only [hw64]; omega, q4.trans hk2, fun _ => hp, fun h2 => ?_⟩ hw1))
   ·simp only [hw64] at h2
    have hp1 := q5 (by omega)
    intro x
    rw [Vdq q1 q2 (by omega) hp1 w hs hp x]
    exact q4.1 x
  ·have h2 := q6 (by omega)
   exact hend c1 x12 (Vdr hoff h2)
 unfold rmC at *
 refine Yaj (i := 0) (n := da y.a) rfl (by exact hasA) rfl ?_
 refine Yaj (i := 1) (n := da y.d) rfl (by exact hasA) rfl ?_
 refine Yaz (i := 2) (n := nilS) rfl (by exact hasA) rfl ?_
 refine Yaj (i := 3) (n := da y.cl) rfl (by exact hasA) rfl ?_
 refine Yaj (i := 4) (n := da y.pb) rfl (by exact hasA) rfl ?_
 refine Vfw hJ hg fun x99 => ?_
 exact T.perm (by ac_rfl) (hloop x99)
theorem Yyh {x0 : Int} {x1 x2 : Sl} (h0 : -128 ≤ x0) (h1 : x0 ≤ 127) (hx1 : Scr5 B x1) (hx2 : U8s B x2) {k : Bool → K} (hk : T B R (k true)) : T B R (Yez x0 x1 x2 k) := by
 refine Yaq (Ynr x0 x1 x2 k) ?_
 rw [Yjs, Zgj37]
 refine Ywd ?_
 rw [Zgj36]
 refine Yfh (Yal ?_)
 rw [Zgj34, w64 (n := x0) (by omega) (by omega)]
 refine Vdo (g := 5) (by omega) (by omega) (by omega) fun y F => ?_
 have hJ0 : J 5 (c00 5 F) := J.begun (by omega) (by omega)
 refine Ya7 fun b => ?_
 refine Ybc (i := 0) rfl Upd.last (by show _ < 5; omega) ?_
 refine Ybc (i := 1) rfl Upd.last (by show _ < 5; omega) ?_
 refine Ybc (i := 2) rfl Upd.last (by show _ < 5; omega) ?_
 refine Ybc (i := 3) rfl Upd.last (by show _ < 5; omega) ?_
 refine Ybc (i := 4) rfl Upd.last (by show _ < 5; omega) ?_
 rw [Zgj33, Zgj32]
 refine Yfh (Yal ?_)
 rw [Zgj30]
 refine Yaa (X := CW 5 y _ _ _) (.init .last) ?_
 refine Yl2 (fun _ (z : Int × Unit) => ex fun c1 : Cy => R * pt b (.cells (rmC y).toArray 33) * CW 5 y (max2I x0 0) (da y.cl) c1 * pu (J 5 c1 ∧ 0 ≤ c1.cyc ∧ c1.cyc ≤ z.1)) (fun n (z : Int × Unit) => ∃ i : Nat, z.1 = i ∧ i ≤ 60 ∧ n = 60 - i) 60 (fun t ht => ?_) ⟨0, rfl, by omega, rfl⟩ ?_
 ·intro w hw
  exact ht w (Yds (c00 5 F) (Sat.puI ⟨hJ0, Int.le_refl 0, Int.le_refl 0⟩ hw))
 rintro n ⟨z, uu⟩ cc ⟨i, e1, e2, e3⟩ hcc
 simp only at e1
 subst e1 e3
 dsimp only
 refine Ysw fun c1 hc1 => ?_
 obtain ⟨hJ, q0, q1⟩ := hc1
 have fin := Yzz (R := R) (b := b) (y := y) (most := max2I x0 0) (c3 := da y.cl) hJ q0 (by omega) (by omega) hk
 rw [Zgj29]
 refine Yai (fun hlt => ?_) (fun _ => ?_)
 rotate_left
 ·rw [Zgj28]
  exact Yau fin
 rw [Zgj28]
 refine Yai (fun h60 => ?_) (fun _ => fin)
 have hw64 : IntKind.wrap .i64 ((i : Int) + 1) = (i : Int) + 1 := w64 (by omega) (by omega)
 have nx : ∀ c', J 5 c' → 0 ≤ c'.cyc → c'.cyc ≤ i + 1 → T B (R * pt b (.cells (rmC y).toArray 33) * CW 5 y (max2I x0 0) (da y.cl) c') (cc (IntKind.wrap .i64 ((i : Int) + 1), ())) := by
  intro c' j1 j2 j3 w hw
  exact hcc (60 - (i + 1)) (IntKind.wrap .i64 ((i : Int) + 1), ()) (by omega) ⟨i + 1, hw64, by omega, rfl⟩ w (Yds c' (Sat.puI ⟨j1, j2, by simp only [hw64]; omega⟩ hw))
 clear hcc fin
 rw [Zgj27]
 unfold rmC at *
 refine Yak ?_
 refine Yaj (i := 0) (n := da y.a) rfl (by exact hasA) rfl ?_
 refine Yaj (i := 1) (n := da y.d) rfl (by exact hasA) rfl ?_
 refine Yaz (i := 2) (n := nilS) rfl (by exact hasA) rfl ?_
 refine Yaj (i := 3) (n := da y.cl) rfl (by exact hasA) rfl ?_
 refine Yaj (i := 4) (n := da y.pb) rfl (by exact hasA) rfl ?_
 refine Vfj hx1 (by omega) (by omega) fun a kd m p q d e0 e1 e2 e3 e4 => ?_
 refine Yl1 e0 ?_
 refine Yl1 e1 ?_
 refine Yl1 e2 ?_
 refine Yl1 e3 ?_
 refine Yl1 e4 ?_
 refine do_c (op := (kd, m, p, q, d)) hJ (by omega) q0 (by omega) fun c' he => ?_
 obtain ⟨hJ', he2, he3, _⟩ := he
 have on := nx c' hJ' (by omega) (by omega)
 rw [Zgj26]
 refine Yfh (Yal ?_)
 rw [Zgj24]
 refine Yai (fun _ => on) (fun hlf => ?_)
 have hoff : ∀ x, c'.s.U x = true → x < 512 * 5 := fun x hx => (hJ'.off hx).2
 have ub := @Ylz c'.s.U (512 * 5)
 have hll : (liveL 5 c'.s c'.pl).length ≤ 512 * 5 := Nat.le_trans (List.length_filter_le _ _) ub
 rw [Zgj23]
 refine Yak ?_
 refine Yaj (i := 0) (n := da y.a) (by rw [Yay, Yay]) (by exact hasA) rfl ?_
 refine Yaj (i := 0) (n := da y.a) rfl (by exact hasA) rfl ?_
 refine Yaj (i := 1) (n := da y.d) rfl (by exact hasA) rfl ?_
 refine Yaz (i := 2) (n := nilS) rfl (by exact hasA) rfl ?_
 refine Yaj (i := 3) (n := da y.cl) rfl (by exact hasA) rfl ?_
 refine Yaj (i := 4) (n := da y.pb) rfl (by exact hasA) rfl ?_
 refine Vdp fun x92 => ?_
 refine Ycm (i := 0) rfl (by exact hasA) rfl ?_
 refine Ycm (i := 1) rfl (by exact hasA) rfl ?_
 refine Ycm (i := 2) rfl (by exact hasA) rfl ?_
 refine Ycm (i := 3) rfl (by exact hasA) rfl ?_
 refine Ycm (i := 4) rfl (by exact hasA) rfl ?_
 refine Ybe ?_
 refine Yaa (X := CW 5 y _ _ c') (by exact frmA) ?_
 refine Vfw hJ' (by omega) fun x94 => ?_
 refine Vdn (l := uBel c'.s.U (512 * 5)) (m := liveL 5 c'.s c'.pl) (by omega) (by omega) (Rd.vec (by exact frmA)) (Rd.vec .last) fun x95 => ?_
 refine Yac (by exact frmA : Frm _ (vec 3 1 x94 _) _) ?_
 refine Yac (by exact frmA : Frm _ (vec 3 1 x92 _) _) ?_
 have hdead : ∀ v ∈ (uBel c'.s.U (512 * 5)).filter (fun v => !decide (v ∈ liveL 5 c'.s c'.pl)), ∃ n : Nat, v = n ∧ (c'.s.U n = true ∧ ¬ LiveP 5 c'.s c'.pl n) := by
  intro v hv
  rw [List.mem_filter] at hv
  obtain ⟨n, _, h2, rfl⟩ := Yoz.1 hv.1
  refine ⟨n, rfl, h2, fun hl => ?_⟩
  have := (Vdm (pl := c'.pl) hoff).2 ⟨n, rfl, hl⟩
  simp [this] at hv
 generalize (uBel c'.s.U (512 * 5)).filter (fun v => !decide (v ∈ liveL 5 c'.s c'.pl)) = dead at *
 refine Yc0 .last fun hnd => ?_
 rw [Yag, Nat.mul_one] at hnd
 rw [Zgj22, Zgj21]
 have on2 := T.weak (Q := vec 3 1 x95 (ints dead)) on
 refine Yai (fun hpos => ?_) (fun _ => ?_)
 rotate_left
 ·rw [Zgj19, Zgj18]
  exact Yal on2
 rw [Zgj20]
 refine Vfx hx2 (by omega) (by omega) fun u hu0 hu1 => ?_
 refine Vh1 (by omega) ?_
 rw [w64 (n := u) (by omega) (by omega), Int.tmod_eq_emod_of_nonneg hu0]
 have hm1 := Int.emod_nonneg u (show (x95.n : Int) ≠ 0 by omega)
 have hm2 := Int.emod_lt_of_pos u (show (0 : Int) < x95.n by omega)
 have hlt3 : (u % (x95.n : Int)).toNat < dead.length := by omega
 refine Yej (Rd.vec .last) hm1 (Ydn hlt3) ?_
 obtain ⟨v, hv1, hv2, hv3⟩ := hdead _ (List.getElem_mem hlt3)
 rw [hv1]
 refine T.weak ?_
 have hv512 := (hJ'.off hv2).1
 rw [Zgj19, Zgj18]
 refine Ybr (fun h => by omega) (fun _ => ?_)
 rw [Zgj17]
 refine Yak ?_
 refine Yaj (i := 0) (n := da y.a) (by rw [Yay, Yay]) (by exact hasA) rfl ?_
 refine Vfx hx2 (by omega) (by omega) fun u2 _ _ => ?_
 refine Vfl hJ' hv2 fun s' hf => ?_
 obtain ⟨f1, _⟩ := hJ'.free hf hv3
 rw [Zgj16]
 refine Yar (fun h => absurd rfl h) (fun _ => ?_)
 rw [Zgj14]
 refine Yaj (i := 3) (n := da y.cl) rfl (by exact hasA) rfl ?_
 refine Vdi (c := { c' with s := s' }) ?_
 rw [Zgj13]
 refine Yaj (i := 3) (n := da y.cl) rfl (by exact hasA) rfl ?_
 refine Vby ?_
 have hdr : ∀ U : Nat → Bool, has (uDrop U v) (v : Int) = false := fun U => by rw [Ycd]; unfold uDrop; simp
 have hcol : col ⟨uDrop c'.m.M v, uDrop c'.m.S v, c'.m.stk, c'.m.again, c'.m.cur⟩ (v : Int) = 0 := by
  unfold col
  simp only
  rw [hdr, hdr]; rfl
 refine Yar (fun h => absurd hcol h) (fun _ => ?_)
 refine Yaj (i := 0) (n := da y.a) (by rw [Yay, Yay]) (by exact hasA) rfl ?_
 refine Vfm ?_
 have hus : has s'.U (v : Int) = false := by rw [hf.u]; exact hdr _
 rw [show has ({ ({ c' with s := s' } : Cy) with m := _ } : Cy).s.U (v : Int) = false from hus, Zgj12]
 refine Yau ?_
 exact nx _ f1 (by show 0 ≤ c'.cyc; omega) (by show c'.cyc ≤ _; omega)
end
end
end Go.Proofs.YtdgcbapclnnkkaaGreat.X
