/- Part 4 of the proof that the law holds for every input: the theorems of this part. Conditions: each theorem bears its own; the last has none. -/
import Derived.Test.YtdgcbapclnnkkaaGreatKc
import Derived.Maps.RangeRun
set_option linter.all false
section
/- Contracts: the table of blocks' headers, opened, read and told. Conditions: at most 2^20 blocks. -/
set_option linter.unusedVariables false
set_option maxRecDepth 4000
namespace Go.Proofs.YtdgcbapclnnkkaaGreat.X
open Go
/-- a device's words tell these headers -/
def Tells (c : List Int) (hs : List Hd) : Prop := hs[0]? = some (0, 0, 0) ∧ ∀ b : Nat, 1 ≤ b → ∀ h, hs[b]? = some h → bdec b (getI c (256 + b)) = (h, 0)
def Tab (t d : Nat) (g : Int) (hs : List Hd) : SL := ex fun s : Sl => vec 143 3 s (hds hs) * pt t (.cells [.pointer (da d), .int .i64 g, s.v].toArray 125)
section
variable {B : World} {P R : SL} {t : K}
theorem T_drop1 {X : SL} (h : Frm P X R) (ht : T B R t) : T B P t := by unfold Frm at h; subst h; exact ht.weak
theorem Tab_open {a d : Nat} {g : Int} {hs : List Hd} (h : ∀ s : Sl, T B (R * vec 143 3 s (hds hs) * pt a (.cells [.pointer (da d), .int .i64 g, s.v].toArray 125)) t) : T B (R * Tab a d g hs) t := by
  refine T_ex fun q => T.perm ?_ (h q)
  simp only [sep_assoc]
theorem Tab_close {a d : Nat} {g : Int} {hs : List Hd} {s : Sl} (h : T B (R * Tab a d g hs) t) : T B (R * vec 143 3 s (hds hs) * pt a (.cells [.pointer (da d), .int .i64 g, s.v].toArray 125)) t := by
  refine T.perm ?_ (T_exI s h)
  simp only [sep_assoc]
theorem blocks_Read_c {d n g : Nat} {c la : List Int} {hs : List Hd} (hg : 1 ≤ g) (hg2 : g ≤ 2 ^ 20) (hl : hs.length = g) (ht : Tells c hs) {k : Sl × (Int × Int) → K}
    (hk : ∀ s, T B (R * LDev d n c la * vec 143 3 s (hds hs)) (k (s, (0, 0)))) : T B (R * LDev d n c la) (c_blocks_Read (da d) g k) := by
  refine T_of (blocks_Read_ok _ g k) ?_
  (repeat (first | ((with_reducible apply T_ldI); (focus rfl); (focus exact hasA); (focus rfl)) | (with_reducible refine T_al ?_; intro _)))
  rename_i b4
  have em : max2I 0 (g : Int) = g := by unfold max2I; rw [if_pos (by omega)]
  rw [em]
  refine T_mkV kd_hd (by omega) (by omega) (by omega) fun b => ?_
  rw [Int.toNat_natCast, repZ_hds]
  have e0 : List.replicate g ((0, 0, 0) : Hd) = hs.take 1 ++ List.replicate (g - 1) (0, 0, 0) := by
    obtain ⟨x, xs, rfl⟩ := List.exists_cons_of_length_pos (l := hs) (by omega)
    have := ht.1
    simp only [List.getElem?_cons_zero, Option.some.injEq] at this
    subst this
    rw [show g = (g - 1) + 1 by omega, List.replicate_succ]; simp
  rw [e0]
  refine T_lpX (fun _ s => R * LDev d n c la * pt b4 (.cells [.int .i64 g].toArray 43) * vec 143 3 ⟨some ⟨b, 0, none⟩, g, g⟩ (hds (hs.take s.1.toNat ++ List.replicate (g - s.1.toNat) (0, 0, 0))))
    (fun m (s : Int × Unit) => ∃ i : Nat, 1 ≤ i ∧ i ≤ g ∧ s.1 = i ∧ m = g - i) (g - 1) rfl ⟨1, by omega, by omega, rfl, rfl⟩ ?_
  rintro m ⟨s1, u⟩ cc ⟨i, h1, h2, h3, h4⟩ hc
  simp only at h3
  subst h3 h4
  simp only [Int.toNat_natCast]
  (repeat' (first | ((with_reducible apply T_ldI); (focus rfl); (focus exact hasA); (focus rfl)) | with_reducible refine T_brD (fun _ => ?_) (fun _ => ?_)))
  · rename_i hlt
    have hlt' : i < hs.length := by omega
    refine geom_Header_c (by omega) ?_
    have hh : header g i = 256 + i := by unfold header; rw [if_neg (by omega)]
    rw [hh]
    refine T_bring (X := LDev d n c la) (.init (.init .last)) ?_
    refine LGet_c ?_
    refine bhead_Decode_c (by omega) (by omega) ?_
    rw [ht.2 i h1 hs[i] (List.getElem?_eq_getElem hlt')]
    (repeat' (first | ((with_reducible apply T_ldI); (focus rfl); (focus exact hasA); (focus rfl)) | (with_reducible refine T_al ?_; intro _) | ((with_reducible apply T_st); (focus rfl); (focus exact updA); (focus simp); simp only [List.set, Nat.zero_add, Nat.reduceAdd]) | with_reducible refine T_brNE (fun _ => ?_) (fun _ => ?_)))
    · rename_i hx; exact absurd rfl hx
    · refine T_stH (i := i) (x := hs[i]) (s := ⟨some ⟨b, 0, none⟩, g, g⟩) (l := hs.take i ++ List.replicate (g - i) (0, 0, 0)) (.init (.init .last)) (by omega) (by simp; omega) ?_
      have hx := hc (g - (i + 1)) (IntKind.wrap .i64 ((i : Int) + 1), ()) (by omega) ⟨i + 1, by omega, by omega, w64 (by omega) (by omega), rfl⟩
      have e : (IntKind.wrap .i64 ((i : Int) + 1)).toNat = i + 1 := by rw [w64 (by omega) (by omega)]; omega
      simp only [e] at hx
      have e2 : (hs.take i ++ List.replicate (g - i) ((0, 0, 0) : Hd)).set (i : Int).toNat hs[i] = hs.take (i + 1) ++ List.replicate (g - (i + 1)) (0, 0, 0) := by
        rw [Int.toNat_natCast, List.set_append_right _ _ (by simp; omega), List.take_succ_eq_append_getElem hlt']
        have e5 : i - (hs.take i).length = 0 := by simp; omega
        rw [e5, show g - i = (g - (i + 1)) + 1 by omega, List.replicate_succ, List.set_cons_zero, List.append_assoc]; rfl
      rw [e2]
      refine T_drop1 (.init .last) ?_
      refine T.perm ?_ hx
      ac_rfl
  · rename_i hge
    have : i = g := by omega
    subst this
    simp only [Nat.sub_self, List.replicate_zero, List.append_nil]
    rw [List.take_of_length_le (by omega)]
    refine T_drop1 (.init .last) ?_
    exact hk ⟨some ⟨b, 0, none⟩, i, i⟩
theorem blocks_Open_c {d n g : Nat} {c la : List Int} {hs : List Hd} (hg : 1 ≤ g) (hg2 : g ≤ 2 ^ 20) (hl : hs.length = g) (ht : Tells c hs) {k : Option Addr × Int → K}
    (hk : ∀ a, T B (R * LDev d n c la * Tab a d g hs) (k (da a, 0))) : T B (R * LDev d n c la) (c_blocks_Open (da d) g k) := by
  refine T_of (blocks_Open_ok _ g k) ?_
  (repeat (first | ((with_reducible apply T_ldI); (focus rfl); (focus exact hasA); (focus rfl)) | (with_reducible refine T_al ?_; intro _)))
  rename_i b1
  refine T_bring (X := LDev d n c la) (.init .last) ?_
  refine blocks_Read_c hg hg2 hl ht fun s => ?_
  (repeat' (first | ((with_reducible apply T_ldI); (focus rfl); (focus exact hasA); (focus rfl)) | (with_reducible refine T_al ?_; intro _) | with_reducible refine T_brNE (fun _ => ?_) (fun _ => ?_)))
  · rename_i hx; exact absurd rfl hx
  · rename_i b
    refine Tab_close ?_
    refine T_drop1 (.init (.init .last)) ?_
    exact hk b
theorem blocks_Len_c {a d : Nat} {g : Int} {hs : List Hd} {k : Int → K} (hk : T B (R * Tab a d g hs) (k hs.length)) : T B (R * Tab a d g hs) (c_blocks_Table_Len (da a) k) := by
  refine T_of (blocks_Table_Len_ok _ k) ?_
  unfold da
  refine Tab_open fun s => ?_
  (repeat (first | with_reducible refine T_nn ?_ | ((with_reducible apply T_ldS); (focus rfl); (focus exact hasA); (focus rfl))))
  refine T_vlen (E := 143) (sz := 3) (s := s) (vs := hds hs) (.init .last) fun hn => ?_
  rw [hds_len] at hn
  have : s.n = hs.length := by omega
  rw [this]
  exact Tab_close hk
theorem blocks_Get_c {a d : Nat} {g : Int} {hs : List Hd} {b : Int} {k : Hd → K} (hk : T B (R * Tab a d g hs) (k (if b < 1 then (0, 0, 0) else hs.getD b.toNat (0, 0, 0)))) : T B (R * Tab a d g hs) (c_blocks_Table_Get (da a) b k) := by
  refine T_of (blocks_Table_Get_ok _ b k) ?_
  unfold da
  (repeat' (first | with_reducible refine T_nn ?_ | with_reducible refine T_brT ?_ | ((with_reducible apply T_ldI); (focus rfl); (focus exact hasA); (focus rfl)) | (with_reducible refine T_al ?_; intro _) | ((with_reducible apply T_st); (focus rfl); (focus exact updA); (focus simp); simp only [List.set, Nat.zero_add, Nat.reduceAdd]) | with_reducible refine T_brD (fun _ => ?_) (fun _ => ?_)))
  · rename_i h
    rw [if_pos h] at hk
    skip
    refine T_drop1 .last ?_
    exact hk
  · rename_i bb h
    rw [if_neg h] at hk
    refine T_bring (X := Tab a d g hs) (.init .last) ?_
    refine Tab_open fun s => ?_
    (repeat (((with_reducible apply T_ldS); (focus rfl); (focus exact hasA); (focus rfl))))
    refine T_vlen (E := 143) (sz := 3) (s := s) (vs := hds hs) (.init .last) fun hn => ?_
    rw [hds_len] at hn
    (repeat' (first | with_reducible refine T_nn ?_ | ((with_reducible apply T_ldI); (focus rfl); (focus exact hasA); (focus rfl)) | ((with_reducible apply T_ldS); (focus rfl); (focus exact hasA); (focus rfl)) | ((with_reducible apply T_st); (focus rfl); (focus exact updA); (focus simp); simp only [List.set, Nat.zero_add, Nat.reduceAdd]) | with_reducible refine T_brD (fun _ => ?_) (fun _ => ?_)))
    · rename_i h2
      rw [List.getD_eq_getElem?_getD, List.getElem?_eq_none (by omega)] at hk
      refine Tab_close ?_
      refine T_drop1 (.init .last) ?_
      exact hk
    · rename_i h2
      have hlt : b.toNat < hs.length := by omega
      rw [List.getD_eq_getElem?_getD, List.getElem?_eq_getElem hlt] at hk
      refine T_ixH (l := hs) (Rd.vec (E := 143) (s := s) (.init .last)) (by omega) hlt fun x hx => ?_
      refine T_ldAt hx rfl ?_
      refine T_ldAt hx rfl ?_
      refine T_ldAt hx rfl ?_
      (repeat (first | ((with_reducible apply T_ldI); (focus rfl); (focus exact hasA); (focus rfl)) | ((with_reducible apply T_st); (focus rfl); (focus exact updA); (focus simp); simp only [List.set, Nat.zero_add, Nat.reduceAdd])))
      refine T_drop1 (.init (.init .last)) ?_
      exact Tab_close hk
theorem blocks_All_c {a d : Nat} {g : Int} {hs : List Hd} (hl : hs.length ≤ 2 ^ 30) {k : Sl → K} (hk : ∀ s, T B (R * Tab a d g hs * vec 143 3 s (hds hs)) (k s)) : T B (R * Tab a d g hs) (c_blocks_Table_All (da a) k) := by
  refine T_of (blocks_Table_All_ok _ k) ?_
  unfold da
  refine Tab_open fun s => ?_
  (repeat (first | with_reducible refine T_nn ?_ | ((with_reducible apply T_ldS); (focus rfl); (focus exact hasA); (focus rfl)) | (with_reducible refine T_al ?_; intro _)))
  rename_i b
  refine T_vlen (E := 143) (sz := 3) (s := s) (vs := hds hs) (.init (.init .last)) fun hn => ?_
  rw [hds_len] at hn
  refine T_vecN (E := 143) (sz := 3) (s := ⟨some ⟨b, 0, none⟩, 0, 0⟩) rfl rfl ?_
  refine T_append (s := ⟨some ⟨b, 0, none⟩, 0, 0⟩) kd_hd (Rd.vec (E := 143) (s := s) (.init (.init .last))) (hds_scal hs) (by simp; omega) fun s' => ?_
  rw [List.nil_append]
  refine T_drop1 (.init .last) ?_
  have := hk s'
  refine T_bring (X := vec 143 3 s (hds hs)) (.init (.init .last)) ?_
  refine T_bring (X := pt a (.cells [.pointer (da d), .int .i64 g, s.v].toArray 125)) (.init (.init .last)) ?_
  refine Tab_close ?_
  refine T.perm ?_ this
  ac_rfl
end
end Go.Proofs.YtdgcbapclnnkkaaGreat.X
end
section
/- Contracts: headers put. Conditions: at most 2^20 blocks. -/
set_option linter.unusedVariables false
set_option maxRecDepth 4000
namespace Go.Proofs.YtdgcbapclnnkkaaGreat.X
open Go
theorem splice_snoc {α : Type} {l new : List α} {o : Nat} {x : α} (h : o + new.length < l.length) : splice l o (new ++ [x]) = (splice l o new).set (o + new.length) x := by
  unfold splice
  have e : (l.take o ++ new).length = o + new.length := by simp; omega
  rw [List.set_append_right _ _ (by omega), e, Nat.sub_self, List.drop_eq_getElem_cons h, List.set_cons_zero]
  simp [Nat.add_assoc]
section
variable {B : World} {P R : SL} {t : K}
theorem blocks_Put_c {a d n g b : Nat} {c la : List Int} {hs xs : List Hd} {x : Sl} (hg : 2 ≤ g) (hg2 : g ≤ 2 ^ 20) (hn : n = 64 * g) (hl : hs.length = g) (hb : 1 ≤ b) (hbx : b + xs.length ≤ g) (hne : xs ≠ []) (hr : ∀ h ∈ xs, hRight h)
    (hx : Rd R x 3 (hds xs)) {k : Int → K}
    (hk : ∀ la', Pst n ((256 + (b : Int)) / 8).toNat (((256 + (b : Int)) + xs.length - 1) / 8 + 1).toNat (wrH c b xs) la la' → T B (R * LDev d n (wrH c b xs) la' * Tab a d g (splice hs b xs)) (k 0)) :
    T B (R * LDev d n c la * Tab a d g hs) (c_blocks_Table_Put (da a) b x k) := by
  refine T_of (blocks_Table_Put_ok _ b x k) ?_
  refine T_rdlen (hx.init.init) fun hxn => ?_
  rw [hds_len] at hxn
  have hxn' : x.n = xs.length := by omega
  have hpos : 0 < xs.length := List.length_pos_iff.2 hne
  unfold da
  (repeat' (first | with_reducible refine T_nn ?_ | with_reducible refine T_brT ?_ | with_reducible refine T_brD (fun _ => ?_) (fun _ => ?_)))
  · exfalso; omega
  refine Tab_open fun s => ?_
  (repeat (((with_reducible apply T_ldS); (focus rfl); (focus exact hasA); (focus rfl))))
  refine T_vlen (E := 143) (sz := 3) (s := s) (vs := hds hs) (.init .last) fun hsn => ?_
  rw [hds_len] at hsn
  (repeat' (first | with_reducible refine T_nn ?_ | with_reducible refine T_brT ?_ | ((with_reducible apply T_ldS); (focus rfl); (focus exact hasA); (focus rfl)) | with_reducible refine T_brD (fun _ => ?_) (fun _ => ?_)))
  · exfalso; omega
  · rename_i h; exfalso; rw [w64 (by omega) (by omega)] at h; omega
  refine Tab_close ?_
  refine T_lpX (fun _ s => R * LDev d n c la * Tab a d g hs) (fun m (s : Int × Unit) => ∃ i : Nat, i ≤ xs.length ∧ s.1 = i ∧ m = xs.length - i) xs.length rfl ⟨0, by omega, rfl, by omega⟩ ?_
  rintro m ⟨s1, u⟩ cc ⟨i, h1, h2, h3⟩ hc
  simp only at h2
  subst h2 h3
  (repeat' (first | with_reducible refine T_brD (fun _ => ?_) (fun _ => ?_) | with_reducible refine T_brE (fun _ => ?_) (fun _ => ?_)))
  · rename_i hlt
    have hlt' : i < xs.length := by omega
    refine T_ixH (l := xs) hx.init.init (by omega) (by rw [Int.toNat_natCast]; exact hlt') fun y hy => ?_
    refine T_ldAt hy rfl ?_
    refine T_ldAt hy rfl ?_
    refine T_ldAt hy rfl ?_
    (repeat (first | ((with_reducible apply T_ldI); (focus rfl); (focus exact hasA); (focus rfl)) | (with_reducible refine T_al ?_; intro _) | ((with_reducible apply T_st); (focus rfl); (focus exact updA); (focus simp); simp only [List.set, Nat.zero_add, Nat.reduceAdd])))
    refine bhead_Right_c ?_
    have hrx : hRight (xs[i].1, xs[i].2.1, xs[i].2.2) := hr xs[i] (List.getElem_mem hlt')
    (repeat' (first | with_reducible refine T_brD (fun _ => ?_) (fun _ => ?_) | with_reducible refine T_brN ?_))
    · refine T_drop1 .last ?_
      exact hc (xs.length - (i + 1)) (IntKind.wrap .i64 ((i : Int) + 1), ()) (by omega) ⟨i + 1, by omega, w64 (by omega) (by omega), rfl⟩
    · rename_i h; exact absurd hrx h
  · exfalso; omega
  clear hc
  refine T_lpX (fun _ s => R * LDev d n (wrH c b (xs.take s.1.toNat)) la * Tab a d g (splice hs b (xs.take s.1.toNat))) (fun m (s : Int × Unit) => ∃ i : Nat, i ≤ xs.length ∧ s.1 = i ∧ m = xs.length - i) xs.length (by simp [wrH, splice_nil, splice]) ⟨0, by omega, rfl, by omega⟩ ?_
  rintro m ⟨s1, u⟩ cc ⟨i, h1, h2, h3⟩ hc
  simp only at h2
  subst h2 h3
  simp only [Int.toNat_natCast]
  (repeat' (first | with_reducible refine T_nn ?_ | with_reducible refine T_tick ?_ | with_reducible refine T_brD (fun _ => ?_) (fun _ => ?_)))
  · rename_i hlt
    have hlt' : i < xs.length := by omega
    refine T_ixH (l := xs) hx.init.init (by omega) (by rw [Int.toNat_natCast]; exact hlt') fun y hy => ?_
    refine T_ldAt hy rfl ?_
    refine T_ldAt hy rfl ?_
    refine T_ldAt hy rfl ?_
    (repeat (first | with_reducible refine T_nn ?_ | with_reducible refine T_tick ?_ | (with_reducible refine T_al ?_; intro _) | ((with_reducible apply T_st); (focus rfl); (focus exact updA); (focus simp); simp only [List.set, Nat.zero_add, Nat.reduceAdd])))
    rename_i bb
    refine T_bring (X := Tab a d g (splice hs b (xs.take i))) (.init .last) ?_
    refine Tab_open fun s => ?_
    (repeat (first | with_reducible refine T_nn ?_ | ((with_reducible apply T_ldI); (focus rfl); (focus exact hasA); (focus rfl)) | ((with_reducible apply T_ldP); (focus rfl); (focus exact hasA); (focus rfl))))
    have e1 : IntKind.wrap .i64 ((b : Int) + i) = ((b + i : Nat) : Int) := by rw [w64 (by omega) (by omega)]; omega
    simp only [Int.toNat_natCast]
    (dsimp only [blocks_Table_Put, blocks_Table_Put_s0, blocks_Table_Put_s1, blocks_Table_Put_s2, blocks_Table_Put_s3, blocks_Table_Put_s4, blocks_Table_Put_s5, blocks_Table_Put_s6, blocks_Table_Put_s7, blocks_Table_Put_s8, blocks_Table_Put_l9, blocks_Table_Put_s10, blocks_Table_Put_s11, blocks_Table_Put_s12, blocks_Table_Put_s13, blocks_Table_Put_s14, blocks_Table_Put_s15, blocks_Table_Put_s16, blocks_Table_Put_s17, blocks_Table_Put_l18, blocks_Table_Put_s19, blocks_Table_Put_s20, blocks_Table_Put_s21, blocks_Table_Put_s22])
    rw [e1]
    refine geom_Header_c (by omega) ?_
    have hh : header g ((b + i : Nat) : Int) = 256 + (b + i : Nat) := by unfold header; rw [if_neg (by omega)]
    rw [hh]
    (repeat (first | with_reducible refine T_chk0 ?_ | ((with_reducible apply T_chk); (focus rfl); (focus exact hasA); (focus rfl))))
    refine bhead_Encode_c (by omega) (by omega) ?_
    (repeat (first | with_reducible refine T_chk0 ?_ | ((with_reducible apply T_chk); (focus rfl); (focus exact hasA); (focus rfl))))
    refine T_bring (X := LDev d n (wrH c b (xs.take i)) la) (.init (.init (.init .last))) ?_
    refine LStore_c (by omega) (by omega) ?_
    (repeat' (first | with_reducible refine T_nn ?_ | with_reducible refine T_tick ?_ | ((with_reducible apply T_ldI); (focus rfl); (focus exact hasA); (focus rfl)) | ((with_reducible apply T_ldS); (focus rfl); (focus exact hasA); (focus rfl)) | with_reducible refine T_brNE (fun _ => ?_) (fun _ => ?_)))
    · rename_i h; exact absurd rfl h
    refine T_stH (i := ((b + i : Nat) : Int)) (x := xs[i]) (s := s) (l := splice hs b (xs.take i)) (.init (.init .last)) (by omega) (by rw [splice_length (by simp; omega)]; omega) ?_
    have hx' := hc (xs.length - (i + 1)) (IntKind.wrap .i64 ((i : Int) + 1), ()) (by omega) ⟨i + 1, by omega, w64 (by omega) (by omega), rfl⟩
    have e : (IntKind.wrap .i64 ((i : Int) + 1)).toNat = i + 1 := by rw [w64 (by omega) (by omega)]; omega
    simp only [e] at hx'
    rw [List.take_succ_eq_append_getElem hlt', wrH_snoc] at hx'
    have e2 : (xs.take i).length = i := by simp; omega
    rw [e2] at hx'
    have e3 : (256 + ((b + i : Nat) : Int)).toNat = 256 + (b + i) := by omega
    have e4 : (splice hs b (xs.take i)).set ((b + i : Nat) : Int).toNat xs[i] = splice hs b (xs.take i ++ [xs[i]]) := by
      rw [Int.toNat_natCast, splice_snoc (by omega), e2]
    rw [e3, e4]
    refine T_drop1 (.init (.init (.init .last))) ?_
    refine T.perm ?_ (Tab_close (R := R * LDev d n ((wrH c b (xs.take i)).set (256 + (b + i)) (benc ((b + i : Nat) : Int) xs[i])) la) (s := s) hx')
    ac_rfl
  · rename_i hge
    have hi : i = xs.length := by omega
    subst hi
    rw [List.take_length]
    refine Tab_open fun s => ?_
    (repeat (first | with_reducible refine T_nn ?_ | ((with_reducible apply T_ldI); (focus rfl); (focus exact hasA); (focus rfl)) | ((with_reducible apply T_ldP); (focus rfl); (focus exact hasA); (focus rfl))))
    refine geom_Header_c (by omega) ?_
    have hh : header g (b : Int) = 256 + b := by unfold header; rw [if_neg (by omega)]
    rw [hh]
    (repeat (first | with_reducible refine T_chk0 ?_ | ((with_reducible apply T_chk); (focus rfl); (focus exact hasA); (focus rfl))))
    refine T_bring (X := LDev d n (wrH c b xs) la) (.init (.init .last)) ?_
    rw [hxn']
    refine LPersist_c (by omega) (by omega) (by omega) fun la' hp => ?_
    refine T.perm ?_ (Tab_close (s := s) (hk la' hp))
    ac_rfl
end
end Go.Proofs.YtdgcbapclnnkkaaGreat.X
end
section
/- Contracts: spans of free blocks. Conditions: at most 2^20 blocks. -/
set_option linter.unusedVariables false
set_option maxRecDepth 4000
namespace Go.Proofs.YtdgcbapclnnkkaaGreat.X
open Go
abbrev Pr := Int × Int
def spStep (out : List Pr) (b : Nat) (h : Hd) : List Pr :=
  if h.1 ≠ 0 then out else if 0 < out.length ∧ (out.getD (out.length - 1) (0, 0)).1 + (out.getD (out.length - 1) (0, 0)).2 = b then out.set (out.length - 1) ((out.getD (out.length - 1) (0, 0)).1, (out.getD (out.length - 1) (0, 0)).2 + 1) else out ++ [((b : Int), 1)]
/-- spans of the blocks from 1 up to one -/
def spS (hs : List Hd) : Nat → List Pr
  | 0 => []
  | 1 => []
  | b + 2 => spStep (spS hs (b + 1)) (b + 1) (hs.getD (b + 1) (0, 0, 0))
theorem spS_succ (hs : List Hd) {b : Nat} (h : 1 ≤ b) : spS hs (b + 1) = spStep (spS hs b) b (hs.getD b (0, 0, 0)) := by
  obtain ⟨c, rfl⟩ : ∃ c, b = c + 1 := ⟨b - 1, by omega⟩
  rfl
theorem getD_mem {α : Type} {l : List α} {i : Nat} {d : α} (h : i < l.length) : l.getD i d ∈ l := by
  rw [List.getD_eq_getElem?_getD, List.getElem?_eq_getElem h]; exact List.getElem_mem h
theorem spS_rng (hs : List Hd) : ∀ b, 1 ≤ b → (spS hs b).length ≤ b - 1 ∧ ∀ p ∈ spS hs b, 1 ≤ p.1 ∧ 1 ≤ p.2 ∧ p.1 + p.2 ≤ b := by
  intro b hb
  induction b with
  | zero => omega
  | succ b ih =>
    by_cases h1 : b = 0
    · subst h1; exact ⟨by simp [spS], fun p hp => by simp [spS] at hp⟩
    · obtain ⟨i1, i2⟩ := ih (by omega)
      rw [spS_succ hs (by omega)]
      unfold spStep
      split
      · exact ⟨by omega, fun p hp => by have := i2 p hp; omega⟩
      · split
        · rename_i hc
          have hm := i2 _ (getD_mem (d := (0, 0)) (show (spS hs b).length - 1 < (spS hs b).length by omega))
          refine ⟨by rw [List.length_set]; omega, fun p hp => ?_⟩
          rcases List.mem_or_eq_of_mem_set hp with hp | rfl
          · have := i2 p hp; omega
          · simp only; omega
        · refine ⟨by simp; omega, fun p hp => ?_⟩
          rcases List.mem_append.1 hp with hp | hp
          · have := i2 p hp; omega
          · simp only [List.mem_singleton] at hp; subst hp; simp only; omega
section
variable {B : World} {P R : SL} {t : K}
theorem T_app1b {Pg : Program} {Tid E : TypeId} {sz ty b : Nat} (hK : Kd Pg Tid E sz) {s : Sl} {vs new : List Value} {k : Sl → K} {E' : TypeId} (hn : new.length = sz) (hsc : new.all scal = true)
    (hlen : vs.length / sz + 1 ≤ 2 ^ 40) (hk : ∀ s', T B (R * vec E sz s' (vs ++ new)) (k s')) :
    T B (R * vec E sz s vs * pt b (.cells new.toArray E')) (semT Pg (Builtin.append_ #[Tid, Tid] ty #[s.v, .slice (some ⟨b, 0, none⟩) 1 1]) (.one (.sc .slice)) k) := by
  refine T_bring (X := vec E sz s vs) (.init .last) ?_
  refine T_append (x := ⟨some ⟨b, 0, none⟩, 1, 1⟩) (new := new) hK (Rd.one Has.last (by rw [hn]; simp) (Nat.le_refl _)) hsc hlen fun s' => ?_
  exact T_dropM (hk s')
theorem blocks_Spans_c {hs : List Hd} {x : Sl} (hl : 1 ≤ hs.length) (hl2 : hs.length ≤ 2 ^ 20) (hx : Rd R x 3 (hds hs)) {k : Sl → K} (hk : ∀ s, T B (R * vec 152 2 s (prs (spS hs hs.length))) (k s)) : T B R (c_blocks_Spans x k) := by
  refine T_of (blocks_Spans_ok x k) ?_
  refine T_rdlen hx fun hxn => ?_
  rw [hds_len] at hxn
  refine T_vecN (E := 152) (sz := 2) (s := ⟨none, 0, 0⟩) rfl rfl ?_
  refine T_lpX (fun _ s => R * vec 152 2 s.1 (prs (spS hs s.2.1.toNat))) (fun m (s : Sl × Int × Unit) => ∃ i : Nat, 1 ≤ i ∧ i ≤ hs.length ∧ s.2.1 = i ∧ m = hs.length - i) (hs.length - 1) rfl ⟨1, by omega, by omega, rfl, rfl⟩ ?_
  rintro m ⟨out, s1, u⟩ cc ⟨i, h0, h1, h2, h3⟩ hc
  simp only at h2
  subst h2 h3
  simp only [Int.toNat_natCast]
  refine T_vlen .last fun hout => ?_
  rw [prs_len] at hout
  obtain ⟨r1, r2⟩ := spS_rng hs i h0
  (repeat' (with_reducible refine T_brD (fun _ => ?_) (fun _ => ?_)))
  · rename_i hlt
    have hlt' : i < hs.length := by omega
    have hnext : ∀ s', T B (R * vec 152 2 s' (prs (spStep (spS hs i) i hs[i]))) (cc (s', IntKind.wrap .i64 ((i : Int) + 1), ())) := by
      intro s'
      have := hc (hs.length - (i + 1)) (s', IntKind.wrap .i64 ((i : Int) + 1), ()) (by omega) ⟨i + 1, by omega, by omega, w64 (by omega) (by omega), rfl⟩
      have e : (IntKind.wrap .i64 ((i : Int) + 1)).toNat = i + 1 := by rw [w64 (by omega) (by omega)]; omega
      simp only [e] at this
      rw [spS_succ hs h0, List.getD_eq_getElem?_getD, List.getElem?_eq_getElem hlt'] at this
      exact this
    refine T_ixH (l := hs) hx.init (by omega) (by rw [Int.toNat_natCast]; exact hlt') fun y hy => ?_
    refine T_ldAt hy rfl ?_
    simp only [Int.toNat_natCast]
    generalize spS hs i = o at *
    unfold spStep at hnext
    (repeat' (first | with_reducible refine T_tick ?_ | with_reducible refine T_brF ?_ | (with_reducible refine T_al ?_; intro _) | with_reducible refine T_brD (fun _ => ?_) (fun _ => ?_) | with_reducible refine T_brNE (fun _ => ?_) (fun _ => ?_)))
    · rename_i hne
      rw [if_pos hne] at hnext
      exact hnext out
    · rename_i heq hpos
      rw [if_neg (by omega)] at hnext
      have hol : 0 < o.length := by omega
      have hix : o.length - 1 < o.length := by omega
      have e1 : IntKind.wrap .i64 (((out.n : Nat) : Int) - 1) = ((o.length - 1 : Nat) : Int) := by rw [w64 (by omega) (by omega)]; omega
      (dsimp only [blocks_Spans, blocks_Spans_s0, blocks_Spans_s1, blocks_Spans_s2, blocks_Spans_s3, blocks_Spans_s4, blocks_Spans_s5, blocks_Spans_s6, blocks_Spans_s7, blocks_Spans_s8, blocks_Spans_s9, blocks_Spans_l10, blocks_Spans_s11, blocks_Spans_s12])
      rw [e1]
      have hm := r2 _ (List.getElem_mem hix)
      rw [List.getD_eq_getElem?_getD, List.getElem?_eq_getElem hix, Option.getD_some] at hnext
      refine T_ixP (l := o) (Rd.vec .last) (by omega) (by rw [Int.toNat_natCast]; exact hix) fun z hz => ?_
      simp only [Int.toNat_natCast] at hz
      refine T_ldAt hz rfl ?_
      refine T_ixP (l := o) (Rd.vec .last) (by omega) (by rw [Int.toNat_natCast]; exact hix) fun z2 hz2 => ?_
      simp only [Int.toNat_natCast] at hz2
      refine T_ldAt hz2 rfl ?_
      rw [w64 (by omega) (by omega)]
      (repeat' (first | (with_reducible refine T_al ?_; intro _) | with_reducible refine T_brE (fun _ => ?_) (fun _ => ?_)))
      · rename_i hj
        rw [if_pos ⟨hol, hj⟩] at hnext
        refine T_ixP (l := o) (Rd.vec .last) (by omega) (by rw [Int.toNat_natCast]; exact hix) fun z3 hz3 => ?_
        simp only [Int.toNat_natCast] at hz3
        refine T_ldAt hz3 rfl ?_
        rw [w64 (by omega) (by omega)]
        refine T_stP1 (l := o) .last (by omega) (by rw [Int.toNat_natCast]; exact hix) ?_
        simp only [Int.toNat_natCast]
        exact hnext out
      · rename_i hj _
        rw [if_neg (fun h => hj h.2)] at hnext
        refine T_app1b (vs := prs o) (new := [.int .i64 i, .int .i64 1]) kd_sp rfl rfl (by rw [prs_len]; omega) fun s' => ?_
        have := hnext s'
        rw [prs_append] at this
        exact this
    · rename_i heq hpos _
      rw [if_neg (by omega), if_neg (by omega)] at hnext
      refine T_app1b (vs := prs o) (new := [.int .i64 i, .int .i64 1]) kd_sp rfl rfl (by rw [prs_len]; omega) fun s' => ?_
      have := hnext s'
      rw [prs_append] at this
      exact this
  · rename_i hge
    have hi : i = hs.length := by omega
    subst hi
    exact hk out
theorem blocks_TSpans_c {a d : Nat} {g : Int} {hs : List Hd} (hl : 1 ≤ hs.length) (hl2 : hs.length ≤ 2 ^ 20) {k : Sl → K} (hk : ∀ s, T B (R * Tab a d g hs * vec 152 2 s (prs (spS hs hs.length))) (k s)) : T B (R * Tab a d g hs) (c_blocks_Table_Spans (da a) k) := by
  refine T_of (blocks_Table_Spans_ok _ k) ?_
  unfold da
  refine Tab_open fun s => ?_
  (repeat (first | with_reducible refine T_nn ?_ | ((with_reducible apply T_ldS); (focus rfl); (focus exact hasA); (focus rfl))))
  refine blocks_Spans_c hl hl2 (Rd.vec (E := 143) (s := s) (.init .last)) fun s' => ?_
  refine T_bring (X := vec 143 3 s (hds hs)) (.init (.init .last)) ?_
  refine T_bring (X := pt a (.cells [.pointer (da d), .int .i64 g, s.v].toArray 125)) (.init (.init .last)) ?_
  refine Tab_close ?_
  refine T.perm ?_ (hk s')
  ac_rfl
end
end Go.Proofs.YtdgcbapclnnkkaaGreat.X
end
section
/- Printed by a program of this session (gen.py): the functions of the dump over typed primitives, and that they serve for the model's code. No condition. -/
set_option maxRecDepth 100000
set_option linter.unusedVariables false
namespace Go.Proofs.YtdgcbapclnnkkaaGreat.X
open Go
@[reducible] def ref08_Size_s0 (k : (Int → K)) (x2 : Int) : K :=
  k x2
@[reducible] def ref08_Size_s1 (k : (Int → K)) (o_1 : Addr) : K :=
  ldI .i64 (Addr.add o_1 0) fun x22 =>
  ldI .i64 (Addr.add o_1 1) fun x25 =>
  ref08_Size_s0 k (IntKind.wrap .i64 ((IntKind.wrap .i64 (1 + x22)) + x25))
@[reducible] def ref08_Size_s2 (k : (Int → K)) (x2_1 : Int) : K :=
  k x2_1
@[reducible] def ref08_Size_s3 (k : (Int → K)) (o_1 : Addr) (x20 : Bool) : K :=
  brK x20
  (ref08_Size_s2 k 0)
  (ref08_Size_s1 k o_1)
@[reducible] def ref08_Size_s4 (k : (Int → K)) (o_1 : Addr) : K :=
  ldI .i64 (Addr.add o_1 0) fun x4 =>
  brK (decide (x4 < 0))
  (ref08_Size_s3 k o_1 true)
  (ldI .i64 (Addr.add o_1 0) fun x8 =>
  brK (decide (x8 > 63))
  (ref08_Size_s3 k o_1 true)
  (ldI .i64 (Addr.add o_1 1) fun x13 =>
  brK (decide (x13 < 0))
  (ref08_Size_s3 k o_1 true)
  (ldI .i64 (Addr.add o_1 1) fun x18 =>
  ref08_Size_s3 k o_1 (decide (x18 > 16384)))))
@[reducible] def ref08_Size (o : (Int × Int)) : M Int := fun k =>
  alK (.cells #[.int .i64 o.1, .int .i64 o.2] 74) fun b =>
  ref08_Size_s4 k ⟨b, 0, none⟩
theorem ref08_Size_ok (o : (Int × Int)) (k : Int → K) (w : World) (hyp_ : ref08_Size o k w) : c_ref08_Size o k w :=
  cl_of (P := Tryz.prog) Tryz.func34 rfl (by kernel_rfl)
  (RefK.seq [(1, .addr)] [] (fun z_ => [(1, .pointer (some z_.1))]) (fun z_ => ref08_Size_s4 k z_.1) (by kernel_rfl) (fun _ => by kernel_rfl)
  (RefK.plain [] (by kernel_rfl))
  (fun ⟨o_1, _⟩ => RefK.seq [] [1] (fun z_ => [(1, .pointer (some o_1))]) (fun z_ => ref08_Size_s1 k o_1) (by kernel_rfl) (fun _ => by kernel_rfl)
  (RefK.seq [(20, .bool)] [1] (fun z_ => [(20, .bool z_.1), (1, .pointer (some o_1))]) (fun z_ => ref08_Size_s3 k o_1 z_.1) (by kernel_rfl) (fun _ => by kernel_rfl)
  (RefK.plain [3, 8, 13] (by kernel_rfl))
  (fun ⟨x20, _⟩ => RefK.cond (b := x20) (t1 := ref08_Size_s2 k 0) (t2 := ref08_Size_s1 k o_1) (by kernel_rfl) (by kernel_rfl) (fun w h => brK_spec w h) (RefK.seq [(2, .int .i64)] [] (fun z_ => [(2, .int .i64 z_.1)]) (fun z_ => ref08_Size_s2 k z_.1) (by kernel_rfl) (fun _ => by kernel_rfl)
  (RefK.plain [] (by kernel_rfl))
  (fun ⟨x2_1, _⟩ => RefK.ret (by kernel_rfl))) (RefK.skip (by kernel_rfl))))
  (fun _ => RefK.seq [(2, .int .i64)] [] (fun z_ => [(2, .int .i64 z_.1)]) (fun z_ => ref08_Size_s0 k z_.1) (by kernel_rfl) (fun _ => by kernel_rfl)
  (RefK.plain [] (by kernel_rfl))
  (fun ⟨x2, _⟩ => RefK.ret (by kernel_rfl))))) hyp_
@[reducible] def ref29_Words_s0 (k : ((Int × Int) → K)) (x4 : Int) (x5 : Int) : K :=
  k (x4, x5)
@[reducible] def ref29_Words_s1 (k : ((Int × Int) → K)) (n_1 : Int) (which_1 : Int) : K :=
  ref29_Words_s0 k n_1 which_1
@[reducible] def ref29_Words_s2 (k_2 : Int) (c : ((Int × Int × Int × Unit) → K)) (n_3 : Int) (which_3 : Int) : K :=
  c (n_3, which_3, (IntKind.wrap .i64 (k_2 - 1)), ())
@[reducible] def ref29_Words_s3 (n_2 : Int) (which_2 : Int) (k_2 : Int) (c : ((Int × Int × Int × Unit) → K)) (w_1 : Int) (x27 : Bool) : K :=
  brK x27
  (ref29_Words_s2 k_2 c w_1 k_2)
  (ref29_Words_s2 k_2 c n_2 which_2)
@[reducible] def ref29_Words_s4 (n_2 : Int) (which_2 : Int) (k_2 : Int) (c : ((Int × Int × Int × Unit) → K)) (w_1 : Int) : K :=
  brK (decide (w_1 > 0))
  (ref29_Words_s3 n_2 which_2 k_2 c w_1 (decide (w_1 ≥ n_2)))
  (ref29_Words_s3 n_2 which_2 k_2 c w_1 false)
@[reducible] def ref29_Words_s5 (l : Sl) (used : Sl) (n_2 : Int) (which_2 : Int) (k_2 : Int) (c : ((Int × Int × Int × Unit) → K)) : K :=
  c_ref29_Small l used k_2 fun x17 =>
  c_ref06_Words k_2 fun x19 =>
  ref29_Words_s4 n_2 which_2 k_2 c (IntKind.wrap .i64 (x17 * x19))
@[reducible] def ref29_Words_s6 (l : Sl) (used : Sl) (k : ((Int × Int) → K)) (n_2 : Int) (which_2 : Int) (k_2 : Int) (c : ((Int × Int × Int × Unit) → K)) (x11 : Bool) : K :=
  brK x11
  (ref29_Words_s5 l used n_2 which_2 k_2 c)
  (ref29_Words_s1 k n_2 which_2)
@[reducible] def ref29_Words_l7 (l : Sl) (used : Sl) (k : ((Int × Int) → K)) (n_2 : Int) (which_2 : Int) (k_2 : Int) (c : ((Int × Int × Int × Unit) → K)) : K :=
  ref29_Words_s6 l used k n_2 which_2 k_2 c (decide (k_2 ≥ 0))
@[reducible] def ref29_Words_s8 (l : Sl) (used : Sl) (k : ((Int × Int) → K)) (n : Int) (which : Int) (k_1 : Int) : K :=
  lp (fun (z_ : (Int × Int × Int × Unit)) c_ => ref29_Words_l7 l used k z_.1 z_.2.1 z_.2.2.1 c_) (n, which, k_1, ())
@[reducible] def ref29_Words_s9 (l : Sl) (used : Sl) (k : ((Int × Int) → K)) (n : Int) (which : Int) : K :=
  ref29_Words_s8 l used k n which 31
@[reducible] def ref29_Words (l : Sl) (used : Sl) : M (Int × Int) := fun k =>
  ref29_Words_s9 l used k 0 0
theorem ref29_Words_ok (l : Sl) (used : Sl) (k : (Int × Int) → K) (w : World) (hyp_ : ref29_Words l used k w) : c_ref29_Words l used k w :=
  cl_of (P := Tryz.prog) Tryz.func38 rfl (by kernel_rfl)
  (RefK.seq [] [0, 1] (fun z_ => [(0, l.v), (1, used.v)]) (fun z_ => ref29_Words_s9 l used k 0 0) (by kernel_rfl) (fun _ => by kernel_rfl)
  (RefK.plain [] (by kernel_rfl))
  (fun _ => RefK.seq [(6, .int .i64), (7, .int .i64)] [0, 1] (fun z_ => [(6, .int .i64 z_.1), (7, .int .i64 z_.2.1), (0, l.v), (1, used.v)]) (fun z_ => ref29_Words_s9 l used k z_.1 z_.2.1) (by kernel_rfl) (fun _ => by kernel_rfl)
  (RefK.plain [] (by kernel_rfl))
  (fun ⟨n, which, _⟩ => RefK.seq [(6, .int .i64), (7, .int .i64)] [] (fun z_ => [(6, .int .i64 z_.1), (7, .int .i64 z_.2.1)]) (fun z_ => ref29_Words_s1 k z_.1 z_.2.1) (by kernel_rfl) (fun _ => by kernel_rfl)
  (RefK.seq [(8, .int .i64)] [0, 1, 6, 7] (fun z_ => [(8, .int .i64 z_.1), (0, l.v), (1, used.v), (6, .int .i64 n), (7, .int .i64 which)]) (fun z_ => ref29_Words_s8 l used k n which z_.1) (by kernel_rfl) (fun _ => by kernel_rfl)
  (RefK.plain [] (by kernel_rfl))
  (fun ⟨k_1, _⟩ => RefK.block (RefK.loop [(6, .int .i64), (7, .int .i64), (8, .int .i64)] [0, 1] (fun z_ => [(6, .int .i64 z_.1), (7, .int .i64 z_.2.1), (8, .int .i64 z_.2.2.1), (0, l.v), (1, used.v)]) (fun (z_ : (Int × Int × Int × Unit)) c_ => ref29_Words_l7 l used k z_.1 z_.2.1 z_.2.2.1 c_) (n, which, k_1, ()) (by kernel_rfl) (fun _ => by kernel_rfl) (by kernel_rfl) (by kernel_rfl)
  (fun ⟨n_2, which_2, k_2, _⟩ c => RefK.seq [] [0, 1, 6, 7, 8] (fun z_ => [(0, l.v), (1, used.v), (6, .int .i64 n_2), (7, .int .i64 which_2), (8, .int .i64 k_2)]) (fun z_ => ref29_Words_s5 l used n_2 which_2 k_2 c) (by kernel_rfl) (fun _ => by kernel_rfl)
  (RefK.seq [(11, .bool)] [0, 1, 6, 7, 8] (fun z_ => [(11, .bool z_.1), (0, l.v), (1, used.v), (6, .int .i64 n_2), (7, .int .i64 which_2), (8, .int .i64 k_2)]) (fun z_ => ref29_Words_s6 l used k n_2 which_2 k_2 c z_.1) (by kernel_rfl) (fun _ => by kernel_rfl)
  (RefK.plain [] (by kernel_rfl))
  (fun ⟨x11, _⟩ => RefK.cond (b := x11) (t1 := ref29_Words_s5 l used n_2 which_2 k_2 c) (t2 := ref29_Words_s1 k n_2 which_2) (by kernel_rfl) (by kernel_rfl) (fun w h => brK_spec w h) (RefK.skip (by kernel_rfl)) (RefK.exit (by kernel_rfl))))
  (fun _ => RefK.seq [(6, .int .i64), (7, .int .i64)] [0, 1, 8] (fun z_ => [(6, .int .i64 z_.1), (7, .int .i64 z_.2.1), (0, l.v), (1, used.v), (8, .int .i64 k_2)]) (fun z_ => ref29_Words_s2 k_2 c z_.1 z_.2.1) (by kernel_rfl) (fun _ => by kernel_rfl)
  (RefK.block (RefK.seq [(9, .int .i64)] [0, 1, 6, 7, 8] (fun z_ => [(9, .int .i64 z_.1), (0, l.v), (1, used.v), (6, .int .i64 n_2), (7, .int .i64 which_2), (8, .int .i64 k_2)]) (fun z_ => ref29_Words_s4 n_2 which_2 k_2 c z_.1) (by kernel_rfl) (fun _ => by kernel_rfl)
  (RefK.plain [] (by kernel_rfl))
  (fun ⟨w_1, _⟩ => RefK.seq [(27, .bool)] [0, 1, 6, 7, 8, 9] (fun z_ => [(27, .bool z_.1), (0, l.v), (1, used.v), (6, .int .i64 n_2), (7, .int .i64 which_2), (8, .int .i64 k_2), (9, .int .i64 w_1)]) (fun z_ => ref29_Words_s3 n_2 which_2 k_2 c w_1 z_.1) (by kernel_rfl) (fun _ => by kernel_rfl)
  (RefK.plain [2] (by kernel_rfl))
  (fun ⟨x27, _⟩ => RefK.cond (b := x27) (t1 := ref29_Words_s2 k_2 c w_1 k_2) (t2 := ref29_Words_s2 k_2 c n_2 which_2) (by kernel_rfl) (by kernel_rfl) (fun w h => brK_spec w h) (RefK.plain [] (by kernel_rfl)) (RefK.skip (by kernel_rfl))))))
  (fun ⟨n_3, which_3, _⟩ => RefK.plain [] (by kernel_rfl)))))))
  (fun ⟨n_1, which_1, _⟩ => RefK.seq [(4, .int .i64), (5, .int .i64)] [] (fun z_ => [(4, .int .i64 z_.1), (5, .int .i64 z_.2.1)]) (fun z_ => ref29_Words_s0 k z_.1 z_.2.1) (by kernel_rfl) (fun _ => by kernel_rfl)
  (RefK.plain [] (by kernel_rfl))
  (fun ⟨x4, x5, _⟩ => RefK.ret (by kernel_rfl)))))) hyp_
@[reducible] def ref29_Greatest_s0 (k : (Int → K)) (x4 : Int) : K :=
  k x4
@[reducible] def ref29_Greatest_s1 (k : (Int → K)) (best_2 : Int) : K :=
  ref29_Greatest_s0 k best_2
@[reducible] def ref29_Greatest_s2 (k_2 : Int) (c : ((Int × Int × Unit) → K)) (best_4 : Int) : K :=
  c (best_4, (IntKind.wrap .i64 (k_2 + 1)), ())
@[reducible] def ref29_Greatest_s3 (k_2 : Int) (c : ((Int × Int × Unit) → K)) : K :=
  c_ref06_Words k_2 fun x42 =>
  ref29_Greatest_s2 k_2 c x42
@[reducible] def ref29_Greatest_s4 (best_3 : Int) (k_2 : Int) (c : ((Int × Int × Unit) → K)) (x40 : Bool) : K :=
  brK x40
  (ref29_Greatest_s3 k_2 c)
  (ref29_Greatest_s2 k_2 c best_3)
@[reducible] def ref29_Greatest_s5 (l : Sl) (used : Sl) (best_3 : Int) (k_2 : Int) (c : ((Int × Int × Unit) → K)) : K :=
  c_ref16_Free l k_2 used fun x38 =>
  ref29_Greatest_s4 best_3 k_2 c (decide (((x38.n : Nat) : Int) > 0))
@[reducible] def ref29_Greatest_s6 (l : Sl) (used : Sl) (k : (Int → K)) (best_3 : Int) (k_2 : Int) (c : ((Int × Int × Unit) → K)) (x32 : Bool) : K :=
  brK x32
  (ref29_Greatest_s5 l used best_3 k_2 c)
  (ref29_Greatest_s1 k best_3)
@[reducible] def ref29_Greatest_l7 (l : Sl) (used : Sl) (k : (Int → K)) (s : Sl) (best_3 : Int) (k_2 : Int) (c : ((Int × Int × Unit) → K)) : K :=
  brK (decide (k_2 < 32))
  (ref29_Greatest_s6 l used k best_3 k_2 c (((s.n : Nat) : Int) == 0))
  (ref29_Greatest_s6 l used k best_3 k_2 c false)
@[reducible] def ref29_Greatest_s8 (l : Sl) (used : Sl) (k : (Int → K)) (s : Sl) (best_1 : Int) (k_1 : Int) : K :=
  lp (fun (z_ : (Int × Int × Unit)) c_ => ref29_Greatest_l7 l used k s z_.1 z_.2.1 c_) (best_1, k_1, ())
@[reducible] def ref29_Greatest_s9 (l : Sl) (used : Sl) (k : (Int → K)) (s : Sl) (best_1 : Int) : K :=
  ref29_Greatest_s8 l used k s best_1 0
@[reducible] def ref29_Greatest_s10 (i_1 : Int) (c_1 : ((Int × Int × Unit) → K)) (best_6 : Int) : K :=
  c_1 (best_6, (IntKind.wrap .i64 (i_1 + 1)), ())
@[reducible] def ref29_Greatest_s11 (s : Sl) (best_5 : Int) (i_1 : Int) (c_1 : ((Int × Int × Unit) → K)) : K :=
  ixS s.p s.n i_1 2 fun x20 =>
  ldI .i64 (Addr.add x20 1) fun x22 =>
  ref29_Greatest_s10 i_1 c_1 (max2I best_5 (min2I (IntKind.wrap .i64 (512 * x22)) 16448))
@[reducible] def ref29_Greatest_s12 (l : Sl) (used : Sl) (k : (Int → K)) (s : Sl) (best_5 : Int) (i_1 : Int) (c_1 : ((Int × Int × Unit) → K)) (x14 : Bool) : K :=
  brK x14
  (ref29_Greatest_s11 s best_5 i_1 c_1)
  (ref29_Greatest_s9 l used k s best_5)
@[reducible] def ref29_Greatest_l13 (l : Sl) (used : Sl) (k : (Int → K)) (s : Sl) (best_5 : Int) (i_1 : Int) (c_1 : ((Int × Int × Unit) → K)) : K :=
  ref29_Greatest_s12 l used k s best_5 i_1 c_1 (decide (i_1 < ((s.n : Nat) : Int)))
@[reducible] def ref29_Greatest_s14 (l : Sl) (used : Sl) (k : (Int → K)) (best : Int) (s : Sl) (i : Int) : K :=
  lp (fun (z_ : (Int × Int × Unit)) c_ => ref29_Greatest_l13 l used k s z_.1 z_.2.1 c_) (best, i, ())
@[reducible] def ref29_Greatest_s15 (l : Sl) (used : Sl) (k : (Int → K)) (best : Int) (s : Sl) : K :=
  ref29_Greatest_s14 l used k best s 0
@[reducible] def ref29_Greatest_s16 (l : Sl) (used : Sl) (k : (Int → K)) (best : Int) : K :=
  c_ref10_Spans l fun x10 =>
  ref29_Greatest_s15 l used k best x10
@[reducible] def ref29_Greatest (l : Sl) (used : Sl) : M Int := fun k =>
  ref29_Greatest_s16 l used k 0
theorem ref29_Greatest_ok (l : Sl) (used : Sl) (k : Int → K) (w : World) (hyp_ : ref29_Greatest l used k w) : c_ref29_Greatest l used k w :=
  cl_of (P := Tryz.prog) Tryz.func40 rfl (by kernel_rfl)
  (RefK.seq [] [0, 1] (fun z_ => [(0, l.v), (1, used.v)]) (fun z_ => ref29_Greatest_s16 l used k 0) (by kernel_rfl) (fun _ => by kernel_rfl)
  (RefK.plain [] (by kernel_rfl))
  (fun _ => RefK.seq [(5, .int .i64)] [0, 1] (fun z_ => [(5, .int .i64 z_.1), (0, l.v), (1, used.v)]) (fun z_ => ref29_Greatest_s16 l used k z_.1) (by kernel_rfl) (fun _ => by kernel_rfl)
  (RefK.plain [] (by kernel_rfl))
  (fun ⟨best, _⟩ => RefK.seq [(6, .slice)] [0, 1, 5] (fun z_ => [(6, z_.1.v), (0, l.v), (1, used.v), (5, .int .i64 best)]) (fun z_ => ref29_Greatest_s15 l used k best z_.1) (by kernel_rfl) (fun _ => by kernel_rfl)
  (RefK.plain [] (by kernel_rfl))
  (fun ⟨s, _⟩ => RefK.seq [(5, .int .i64)] [0, 1, 6] (fun z_ => [(5, .int .i64 z_.1), (0, l.v), (1, used.v), (6, s.v)]) (fun z_ => ref29_Greatest_s9 l used k s z_.1) (by kernel_rfl) (fun _ => by kernel_rfl)
  (RefK.seq [(7, .int .i64)] [0, 1, 5, 6] (fun z_ => [(7, .int .i64 z_.1), (0, l.v), (1, used.v), (5, .int .i64 best), (6, s.v)]) (fun z_ => ref29_Greatest_s14 l used k best s z_.1) (by kernel_rfl) (fun _ => by kernel_rfl)
  (RefK.plain [] (by kernel_rfl))
  (fun ⟨i, _⟩ => RefK.block (RefK.loop [(5, .int .i64), (7, .int .i64)] [0, 1, 6] (fun z_ => [(5, .int .i64 z_.1), (7, .int .i64 z_.2.1), (0, l.v), (1, used.v), (6, s.v)]) (fun (z_ : (Int × Int × Unit)) c_ => ref29_Greatest_l13 l used k s z_.1 z_.2.1 c_) (best, i, ()) (by kernel_rfl) (fun _ => by kernel_rfl) (by kernel_rfl) (by kernel_rfl)
  (fun ⟨best_5, i_1, _⟩ c_1 => RefK.seq [] [0, 1, 5, 6, 7] (fun z_ => [(0, l.v), (1, used.v), (5, .int .i64 best_5), (6, s.v), (7, .int .i64 i_1)]) (fun z_ => ref29_Greatest_s11 s best_5 i_1 c_1) (by kernel_rfl) (fun _ => by kernel_rfl)
  (RefK.seq [(14, .bool)] [0, 1, 5, 6, 7] (fun z_ => [(14, .bool z_.1), (0, l.v), (1, used.v), (5, .int .i64 best_5), (6, s.v), (7, .int .i64 i_1)]) (fun z_ => ref29_Greatest_s12 l used k s best_5 i_1 c_1 z_.1) (by kernel_rfl) (fun _ => by kernel_rfl)
  (RefK.plain [] (by kernel_rfl))
  (fun ⟨x14, _⟩ => RefK.cond (b := x14) (t1 := ref29_Greatest_s11 s best_5 i_1 c_1) (t2 := ref29_Greatest_s9 l used k s best_5) (by kernel_rfl) (by kernel_rfl) (fun w h => brK_spec w h) (RefK.skip (by kernel_rfl)) (RefK.exit (by kernel_rfl))))
  (fun _ => RefK.seq [(5, .int .i64)] [0, 1, 6, 7] (fun z_ => [(5, .int .i64 z_.1), (0, l.v), (1, used.v), (6, s.v), (7, .int .i64 i_1)]) (fun z_ => ref29_Greatest_s10 i_1 c_1 z_.1) (by kernel_rfl) (fun _ => by kernel_rfl)
  (RefK.block (RefK.plain [] (by kernel_rfl)))
  (fun ⟨best_6, _⟩ => RefK.plain [] (by kernel_rfl)))))))
  (fun ⟨best_1, _⟩ => RefK.seq [(5, .int .i64)] [] (fun z_ => [(5, .int .i64 z_.1)]) (fun z_ => ref29_Greatest_s1 k z_.1) (by kernel_rfl) (fun _ => by kernel_rfl)
  (RefK.seq [(8, .int .i64)] [0, 1, 5, 6] (fun z_ => [(8, .int .i64 z_.1), (0, l.v), (1, used.v), (5, .int .i64 best_1), (6, s.v)]) (fun z_ => ref29_Greatest_s8 l used k s best_1 z_.1) (by kernel_rfl) (fun _ => by kernel_rfl)
  (RefK.plain [] (by kernel_rfl))
  (fun ⟨k_1, _⟩ => RefK.block (RefK.loop [(5, .int .i64), (8, .int .i64)] [0, 1, 6] (fun z_ => [(5, .int .i64 z_.1), (8, .int .i64 z_.2.1), (0, l.v), (1, used.v), (6, s.v)]) (fun (z_ : (Int × Int × Unit)) c_ => ref29_Greatest_l7 l used k s z_.1 z_.2.1 c_) (best_1, k_1, ()) (by kernel_rfl) (fun _ => by kernel_rfl) (by kernel_rfl) (by kernel_rfl)
  (fun ⟨best_3, k_2, _⟩ c => RefK.seq [] [0, 1, 5, 6, 8] (fun z_ => [(0, l.v), (1, used.v), (5, .int .i64 best_3), (6, s.v), (8, .int .i64 k_2)]) (fun z_ => ref29_Greatest_s5 l used best_3 k_2 c) (by kernel_rfl) (fun _ => by kernel_rfl)
  (RefK.seq [(32, .bool)] [0, 1, 5, 6, 8] (fun z_ => [(32, .bool z_.1), (0, l.v), (1, used.v), (5, .int .i64 best_3), (6, s.v), (8, .int .i64 k_2)]) (fun z_ => ref29_Greatest_s6 l used k best_3 k_2 c z_.1) (by kernel_rfl) (fun _ => by kernel_rfl)
  (RefK.plain [2] (by kernel_rfl))
  (fun ⟨x32, _⟩ => RefK.cond (b := x32) (t1 := ref29_Greatest_s5 l used best_3 k_2 c) (t2 := ref29_Greatest_s1 k best_3) (by kernel_rfl) (by kernel_rfl) (fun w h => brK_spec w h) (RefK.skip (by kernel_rfl)) (RefK.exit (by kernel_rfl))))
  (fun _ => RefK.seq [(5, .int .i64)] [0, 1, 6, 8] (fun z_ => [(5, .int .i64 z_.1), (0, l.v), (1, used.v), (6, s.v), (8, .int .i64 k_2)]) (fun z_ => ref29_Greatest_s2 k_2 c z_.1) (by kernel_rfl) (fun _ => by kernel_rfl)
  (RefK.block (RefK.seq [(40, .bool)] [0, 1, 5, 6, 8] (fun z_ => [(40, .bool z_.1), (0, l.v), (1, used.v), (5, .int .i64 best_3), (6, s.v), (8, .int .i64 k_2)]) (fun z_ => ref29_Greatest_s4 best_3 k_2 c z_.1) (by kernel_rfl) (fun _ => by kernel_rfl)
  (RefK.plain [] (by kernel_rfl))
  (fun ⟨x40, _⟩ => RefK.cond (b := x40) (t1 := ref29_Greatest_s3 k_2 c) (t2 := ref29_Greatest_s2 k_2 c best_3) (by kernel_rfl) (by kernel_rfl) (fun w h => brK_spec w h) (RefK.plain [] (by kernel_rfl)) (RefK.skip (by kernel_rfl)))))
  (fun ⟨best_4, _⟩ => RefK.plain [] (by kernel_rfl)))))))
  (fun ⟨best_2, _⟩ => RefK.seq [(4, .int .i64)] [] (fun z_ => [(4, .int .i64 z_.1)]) (fun z_ => ref29_Greatest_s0 k z_.1) (by kernel_rfl) (fun _ => by kernel_rfl)
  (RefK.plain [] (by kernel_rfl))
  (fun ⟨x4, _⟩ => RefK.ret (by kernel_rfl)))))))) hyp_
@[reducible] def ref29_Object_s0 (k : (Int → K)) (x6 : Int) : K :=
  k x6
@[reducible] def ref29_Object_s1 (l : Sl) (k : (Int → K)) (o_1 : Addr) : K :=
  ldI .i64 (Addr.add o_1 0) fun x29_0 =>
  ldI .i64 (Addr.add o_1 1) fun x29_1 =>
  c_ref08_Blocks (x29_0, x29_1) fun x30 =>
  c_ref29_Large l x30 fun x31 =>
  ref29_Object_s0 k x31
@[reducible] def ref29_Object_s2 (k : (Int → K)) (x6_1 : Int) : K :=
  k x6_1
@[reducible] def ref29_Object_s3 (l : Sl) (used : Sl) (k : (Int → K)) (k_1 : Int) : K :=
  c_ref29_Small l used k_1 fun x27 =>
  ref29_Object_s2 k x27
@[reducible] def ref29_Object_s4 (l : Sl) (used : Sl) (k : (Int → K)) (o_1 : Addr) (k_1 : Int) (x23 : Bool) : K :=
  brK x23
  (ref29_Object_s3 l used k k_1)
  (ref29_Object_s1 l k o_1)
@[reducible] def ref29_Object_s5 (l : Sl) (used : Sl) (k : (Int → K)) (o_1 : Addr) (k_1 : Int) : K :=
  ref29_Object_s4 l used k o_1 k_1 (decide (k_1 ≥ 0))
@[reducible] def ref29_Object_s6 (l : Sl) (used : Sl) (k : (Int → K)) (o_1 : Addr) : K :=
  ldI .i64 (Addr.add o_1 0) fun x20_0 =>
  ldI .i64 (Addr.add o_1 1) fun x20_1 =>
  c_ref08_Class (x20_0, x20_1) fun x21 =>
  ref29_Object_s5 l used k o_1 x21
@[reducible] def ref29_Object_s7 (k : (Int → K)) (x6_2 : Int) : K :=
  k x6_2
@[reducible] def ref29_Object_s8 (l : Sl) (used : Sl) (k : (Int → K)) (o_1 : Addr) (x19 : Bool) : K :=
  brK x19
  (ref29_Object_s7 k 0)
  (ref29_Object_s6 l used k o_1)
@[reducible] def ref29_Object_s9 (l : Sl) (used : Sl) (k : (Int → K)) (o_1 : Addr) : K :=
  ldI .i64 (Addr.add o_1 0) fun x8_0 =>
  ldI .i64 (Addr.add o_1 1) fun x8_1 =>
  c_ref08_Size (x8_0, x8_1) fun x9 =>
  brK (x9 == 0)
  (ref29_Object_s8 l used k o_1 true)
  (ldI .i64 (Addr.add o_1 0) fun x12_0 =>
  ldI .i64 (Addr.add o_1 1) fun x12_1 =>
  c_ref08_Size (x12_0, x12_1) fun x13 =>
  ref29_Object_s8 l used k o_1 (decide (x13 > (IntKind.wrap .i64 (512 * (IntKind.wrap .i64 (((l.n : Nat) : Int) - 1)))))))
@[reducible] def ref29_Object (l : Sl) (used : Sl) (o : (Int × Int)) : M Int := fun k =>
  alK (.cells #[.int .i64 o.1, .int .i64 o.2] 74) fun b =>
  ref29_Object_s9 l used k ⟨b, 0, none⟩
theorem ref29_Object_ok (l : Sl) (used : Sl) (o : (Int × Int)) (k : Int → K) (w : World) (hyp_ : ref29_Object l used o k w) : c_ref29_Object l used o k w :=
  cl_of (P := Tryz.prog) Tryz.func41 rfl (by kernel_rfl)
  (RefK.seq [(5, .addr)] [0, 1] (fun z_ => [(5, .pointer (some z_.1)), (0, l.v), (1, used.v)]) (fun z_ => ref29_Object_s9 l used k z_.1) (by kernel_rfl) (fun _ => by kernel_rfl)
  (RefK.plain [] (by kernel_rfl))
  (fun ⟨o_1, _⟩ => RefK.seq [] [0, 1, 5] (fun z_ => [(0, l.v), (1, used.v), (5, .pointer (some o_1))]) (fun z_ => ref29_Object_s6 l used k o_1) (by kernel_rfl) (fun _ => by kernel_rfl)
  (RefK.seq [(19, .bool)] [0, 1, 5] (fun z_ => [(19, .bool z_.1), (0, l.v), (1, used.v), (5, .pointer (some o_1))]) (fun z_ => ref29_Object_s8 l used k o_1 z_.1) (by kernel_rfl) (fun _ => by kernel_rfl)
  (RefK.plain [3] (by kernel_rfl))
  (fun ⟨x19, _⟩ => RefK.cond (b := x19) (t1 := ref29_Object_s7 k 0) (t2 := ref29_Object_s6 l used k o_1) (by kernel_rfl) (by kernel_rfl) (fun w h => brK_spec w h) (RefK.seq [(6, .int .i64)] [] (fun z_ => [(6, .int .i64 z_.1)]) (fun z_ => ref29_Object_s7 k z_.1) (by kernel_rfl) (fun _ => by kernel_rfl)
  (RefK.plain [] (by kernel_rfl))
  (fun ⟨x6_2, _⟩ => RefK.ret (by kernel_rfl))) (RefK.skip (by kernel_rfl))))
  (fun _ => RefK.seq [] [0, 5] (fun z_ => [(0, l.v), (5, .pointer (some o_1))]) (fun z_ => ref29_Object_s1 l k o_1) (by kernel_rfl) (fun _ => by kernel_rfl)
  (RefK.seq [(7, .int .i64)] [0, 1, 5] (fun z_ => [(7, .int .i64 z_.1), (0, l.v), (1, used.v), (5, .pointer (some o_1))]) (fun z_ => ref29_Object_s5 l used k o_1 z_.1) (by kernel_rfl) (fun _ => by kernel_rfl)
  (RefK.plain [] (by kernel_rfl))
  (fun ⟨k_1, _⟩ => RefK.seq [(23, .bool)] [0, 1, 5, 7] (fun z_ => [(23, .bool z_.1), (0, l.v), (1, used.v), (5, .pointer (some o_1)), (7, .int .i64 k_1)]) (fun z_ => ref29_Object_s4 l used k o_1 k_1 z_.1) (by kernel_rfl) (fun _ => by kernel_rfl)
  (RefK.plain [] (by kernel_rfl))
  (fun ⟨x23, _⟩ => RefK.cond (b := x23) (t1 := ref29_Object_s3 l used k k_1) (t2 := ref29_Object_s1 l k o_1) (by kernel_rfl) (by kernel_rfl) (fun w h => brK_spec w h) (RefK.seq [(6, .int .i64)] [] (fun z_ => [(6, .int .i64 z_.1)]) (fun z_ => ref29_Object_s2 k z_.1) (by kernel_rfl) (fun _ => by kernel_rfl)
  (RefK.plain [] (by kernel_rfl))
  (fun ⟨x6_1, _⟩ => RefK.ret (by kernel_rfl))) (RefK.skip (by kernel_rfl)))))
  (fun _ => RefK.seq [(6, .int .i64)] [] (fun z_ => [(6, .int .i64 z_.1)]) (fun z_ => ref29_Object_s0 k z_.1) (by kernel_rfl) (fun _ => by kernel_rfl)
  (RefK.plain [] (by kernel_rfl))
  (fun ⟨x6, _⟩ => RefK.ret (by kernel_rfl)))))) hyp_
@[reducible] def ref29_Large_s0 (k : (Int → K)) (x4 : Int) : K :=
  k x4
@[reducible] def ref29_Large_s1 (k : (Int → K)) (n_1 : Int) : K :=
  ref29_Large_s0 k n_1
@[reducible] def ref29_Large_s2 (i_1 : Int) (c : ((Int × Int × Unit) → K)) (n_3 : Int) : K :=
  c (n_3, (IntKind.wrap .i64 (i_1 + 1)), ())
@[reducible] def ref29_Large_s3 (blocks : Int) (s : Sl) (n_2 : Int) (i_1 : Int) (c : ((Int × Int × Unit) → K)) : K :=
  ixS s.p s.n i_1 2 fun x23 =>
  ldI .i64 (Addr.add x23 1) fun x25 =>
  nz blocks <|
  ref29_Large_s2 i_1 c (IntKind.wrap .i64 (n_2 + (IntKind.wrap .i64 (Int.tdiv x25 blocks))))
@[reducible] def ref29_Large_s4 (blocks : Int) (k : (Int → K)) (s : Sl) (n_2 : Int) (i_1 : Int) (c : ((Int × Int × Unit) → K)) (x17 : Bool) : K :=
  brK x17
  (ref29_Large_s3 blocks s n_2 i_1 c)
  (ref29_Large_s1 k n_2)
@[reducible] def ref29_Large_l5 (blocks : Int) (k : (Int → K)) (s : Sl) (n_2 : Int) (i_1 : Int) (c : ((Int × Int × Unit) → K)) : K :=
  brK (decide (i_1 < ((s.n : Nat) : Int)))
  (ref29_Large_s4 blocks k s n_2 i_1 c (decide (blocks > 0)))
  (ref29_Large_s4 blocks k s n_2 i_1 c false)
@[reducible] def ref29_Large_s6 (blocks : Int) (k : (Int → K)) (n : Int) (s : Sl) (i : Int) : K :=
  lp (fun (z_ : (Int × Int × Unit)) c_ => ref29_Large_l5 blocks k s z_.1 z_.2.1 c_) (n, i, ())
@[reducible] def ref29_Large_s7 (blocks : Int) (k : (Int → K)) (n : Int) (s : Sl) : K :=
  ref29_Large_s6 blocks k n s 0
@[reducible] def ref29_Large_s8 (l : Sl) (blocks : Int) (k : (Int → K)) (n : Int) : K :=
  c_ref10_Spans l fun x9 =>
  ref29_Large_s7 blocks k n x9
@[reducible] def ref29_Large (l : Sl) (blocks : Int) : M Int := fun k =>
  ref29_Large_s8 l blocks k 0
theorem ref29_Large_ok (l : Sl) (blocks : Int) (k : Int → K) (w : World) (hyp_ : ref29_Large l blocks k w) : c_ref29_Large l blocks k w :=
  cl_of (P := Tryz.prog) Tryz.func44 rfl (by kernel_rfl)
  (RefK.seq [] [0, 1] (fun z_ => [(0, l.v), (1, .int .i64 blocks)]) (fun z_ => ref29_Large_s8 l blocks k 0) (by kernel_rfl) (fun _ => by kernel_rfl)
  (RefK.plain [] (by kernel_rfl))
  (fun _ => RefK.seq [(5, .int .i64)] [0, 1] (fun z_ => [(5, .int .i64 z_.1), (0, l.v), (1, .int .i64 blocks)]) (fun z_ => ref29_Large_s8 l blocks k z_.1) (by kernel_rfl) (fun _ => by kernel_rfl)
  (RefK.plain [] (by kernel_rfl))
  (fun ⟨n, _⟩ => RefK.seq [(6, .slice)] [1, 5] (fun z_ => [(6, z_.1.v), (1, .int .i64 blocks), (5, .int .i64 n)]) (fun z_ => ref29_Large_s7 blocks k n z_.1) (by kernel_rfl) (fun _ => by kernel_rfl)
  (RefK.plain [] (by kernel_rfl))
  (fun ⟨s, _⟩ => RefK.seq [(5, .int .i64)] [] (fun z_ => [(5, .int .i64 z_.1)]) (fun z_ => ref29_Large_s1 k z_.1) (by kernel_rfl) (fun _ => by kernel_rfl)
  (RefK.seq [(7, .int .i64)] [1, 5, 6] (fun z_ => [(7, .int .i64 z_.1), (1, .int .i64 blocks), (5, .int .i64 n), (6, s.v)]) (fun z_ => ref29_Large_s6 blocks k n s z_.1) (by kernel_rfl) (fun _ => by kernel_rfl)
  (RefK.plain [] (by kernel_rfl))
  (fun ⟨i, _⟩ => RefK.block (RefK.loop [(5, .int .i64), (7, .int .i64)] [1, 6] (fun z_ => [(5, .int .i64 z_.1), (7, .int .i64 z_.2.1), (1, .int .i64 blocks), (6, s.v)]) (fun (z_ : (Int × Int × Unit)) c_ => ref29_Large_l5 blocks k s z_.1 z_.2.1 c_) (n, i, ()) (by kernel_rfl) (fun _ => by kernel_rfl) (by kernel_rfl) (by kernel_rfl)
  (fun ⟨n_2, i_1, _⟩ c => RefK.seq [] [1, 5, 6, 7] (fun z_ => [(1, .int .i64 blocks), (5, .int .i64 n_2), (6, s.v), (7, .int .i64 i_1)]) (fun z_ => ref29_Large_s3 blocks s n_2 i_1 c) (by kernel_rfl) (fun _ => by kernel_rfl)
  (RefK.seq [(17, .bool)] [1, 5, 6, 7] (fun z_ => [(17, .bool z_.1), (1, .int .i64 blocks), (5, .int .i64 n_2), (6, s.v), (7, .int .i64 i_1)]) (fun z_ => ref29_Large_s4 blocks k s n_2 i_1 c z_.1) (by kernel_rfl) (fun _ => by kernel_rfl)
  (RefK.plain [4] (by kernel_rfl))
  (fun ⟨x17, _⟩ => RefK.cond (b := x17) (t1 := ref29_Large_s3 blocks s n_2 i_1 c) (t2 := ref29_Large_s1 k n_2) (by kernel_rfl) (by kernel_rfl) (fun w h => brK_spec w h) (RefK.skip (by kernel_rfl)) (RefK.exit (by kernel_rfl))))
  (fun _ => RefK.seq [(5, .int .i64)] [1, 6, 7] (fun z_ => [(5, .int .i64 z_.1), (1, .int .i64 blocks), (6, s.v), (7, .int .i64 i_1)]) (fun z_ => ref29_Large_s2 i_1 c z_.1) (by kernel_rfl) (fun _ => by kernel_rfl)
  (RefK.block (RefK.plain [] (by kernel_rfl)))
  (fun ⟨n_3, _⟩ => RefK.plain [] (by kernel_rfl)))))))
  (fun ⟨n_1, _⟩ => RefK.seq [(4, .int .i64)] [] (fun z_ => [(4, .int .i64 z_.1)]) (fun z_ => ref29_Large_s0 k z_.1) (by kernel_rfl) (fun _ => by kernel_rfl)
  (RefK.plain [] (by kernel_rfl))
  (fun ⟨x4, _⟩ => RefK.ret (by kernel_rfl))))))) hyp_
@[reducible] def ref16_Free_s0 (k : (Sl → K)) (x6 : Sl) : K :=
  k x6
@[reducible] def ref16_Free_s1 (k : (Sl → K)) (x7_1 : Sl) : K :=
  ref16_Free_s0 k x7_1
@[reducible] def ref16_Free_s2 (x8_1 : Int) (c : ((Sl × Int × Unit) → K)) (x7_3 : Sl) : K :=
  c (x7_3, (IntKind.wrap .i64 (x8_1 + 1)), ())
@[reducible] def ref16_Free_s3 (x9_1 : Int) (c_1 : ((Sl × Int × Unit) → K)) (x7_5 : Sl) : K :=
  c_1 (x7_5, (IntKind.wrap .i64 (x9_1 + 1)), ())
@[reducible] def ref16_Free_s4 (x7_4 : Sl) (x9_1 : Int) (c_1 : ((Sl × Int × Unit) → K)) (x10 : Int) : K :=
  alK (.cells #[.int .i64 x10] 3) fun b =>
  semT Tryz.prog (Builtin.append_ #[27, 27] 27 #[x7_4.v, .slice (some ⟨b, 0, none⟩) 1 1]) (.one (.sc (.slice))) fun x69 =>
  ref16_Free_s3 x9_1 c_1 x69
@[reducible] def ref16_Free_s5 (x7_4 : Sl) (x9_1 : Int) (c_1 : ((Sl × Int × Unit) → K)) (x10 : Int) (x65 : Bool) : K :=
  brK x65
  (ref16_Free_s4 x7_4 x9_1 c_1 x10)
  (ref16_Free_s3 x9_1 c_1 x7_4)
@[reducible] def ref16_Free_s6 (x7_4 : Sl) (x9_1 : Int) (c_1 : ((Sl × Int × Unit) → K)) (x10 : Int) (x11_1 : Bool) : K :=
  ref16_Free_s5 x7_4 x9_1 c_1 x10 (!x11_1)
@[reducible] def ref16_Free_s7 (x12_1 : Int) (c_2 : ((Bool × Int × Unit) → K)) (x11_3 : Bool) : K :=
  c_2 (x11_3, (IntKind.wrap .i64 (x12_1 + 1)), ())
@[reducible] def ref16_Free_s8 (x2 : Sl) (x10 : Int) (x11_2 : Bool) (x12_1 : Int) (c_2 : ((Bool × Int × Unit) → K)) : K :=
  brK x11_2
  (ref16_Free_s7 x12_1 c_2 true)
  (ixS x2.p x2.n x12_1 1 fun x59 =>
  ldI .i64 x59 fun x60 =>
  ref16_Free_s7 x12_1 c_2 (x60 == x10))
@[reducible] def ref16_Free_s9 (x2 : Sl) (x7_4 : Sl) (x9_1 : Int) (c_1 : ((Sl × Int × Unit) → K)) (x10 : Int) (x11_2 : Bool) (x12_1 : Int) (c_2 : ((Bool × Int × Unit) → K)) (x52 : Bool) : K :=
  brK x52
  (ref16_Free_s8 x2 x10 x11_2 x12_1 c_2)
  (ref16_Free_s6 x7_4 x9_1 c_1 x10 x11_2)
@[reducible] def ref16_Free_l10 (x2 : Sl) (x7_4 : Sl) (x9_1 : Int) (c_1 : ((Sl × Int × Unit) → K)) (x10 : Int) (x11_2 : Bool) (x12_1 : Int) (c_2 : ((Bool × Int × Unit) → K)) : K :=
  ref16_Free_s9 x2 x7_4 x9_1 c_1 x10 x11_2 x12_1 c_2 (decide (x12_1 < ((x2.n : Nat) : Int)))
@[reducible] def ref16_Free_s11 (x2 : Sl) (x7_4 : Sl) (x9_1 : Int) (c_1 : ((Sl × Int × Unit) → K)) (x10 : Int) (x11 : Bool) (x12 : Int) : K :=
  lp (fun (z_ : (Bool × Int × Unit)) c_ => ref16_Free_l10 x2 x7_4 x9_1 c_1 x10 z_.1 z_.2.1 c_) (x11, x12, ())
@[reducible] def ref16_Free_s12 (x2 : Sl) (x7_4 : Sl) (x9_1 : Int) (c_1 : ((Sl × Int × Unit) → K)) (x10 : Int) (x11 : Bool) : K :=
  ref16_Free_s11 x2 x7_4 x9_1 c_1 x10 x11 0
@[reducible] def ref16_Free_s13 (x2 : Sl) (x7_4 : Sl) (x9_1 : Int) (c_1 : ((Sl × Int × Unit) → K)) (x10 : Int) : K :=
  ref16_Free_s12 x2 x7_4 x9_1 c_1 x10 false
@[reducible] def ref16_Free_s14 (x1 : Int) (x2 : Sl) (x8_1 : Int) (x7_4 : Sl) (x9_1 : Int) (c_1 : ((Sl × Int × Unit) → K)) : K :=
  c_ref06_Words x1 fun x46 =>
  ref16_Free_s13 x2 x7_4 x9_1 c_1 (IntKind.wrap .i64 ((IntKind.wrap .i64 (512 * x8_1)) + (IntKind.wrap .i64 (x9_1 * x46))))
@[reducible] def ref16_Free_s15 (x1 : Int) (x2 : Sl) (x8_1 : Int) (c : ((Sl × Int × Unit) → K)) (x7_4 : Sl) (x9_1 : Int) (c_1 : ((Sl × Int × Unit) → K)) (x39 : Bool) : K :=
  brK x39
  (ref16_Free_s14 x1 x2 x8_1 x7_4 x9_1 c_1)
  (ref16_Free_s2 x8_1 c x7_4)
@[reducible] def ref16_Free_l16 (x0 : Sl) (x1 : Int) (x2 : Sl) (x8_1 : Int) (c : ((Sl × Int × Unit) → K)) (x7_4 : Sl) (x9_1 : Int) (c_1 : ((Sl × Int × Unit) → K)) : K :=
  ixS x0.p x0.n x8_1 3 fun x21 =>
  ldI .i64 (Addr.add x21 0) fun x23 =>
  brK (x23 == 1)
  (ixS x0.p x0.n x8_1 3 fun x28 =>
  ldI .i64 (Addr.add x28 1) fun x30 =>
  brK (x30 == x1)
  (c_ref06_Cells x1 fun x37 =>
  ref16_Free_s15 x1 x2 x8_1 c x7_4 x9_1 c_1 (decide (x9_1 < x37)))
  (ref16_Free_s15 x1 x2 x8_1 c x7_4 x9_1 c_1 false))
  (ref16_Free_s15 x1 x2 x8_1 c x7_4 x9_1 c_1 false)
@[reducible] def ref16_Free_s17 (x0 : Sl) (x1 : Int) (x2 : Sl) (x7_2 : Sl) (x8_1 : Int) (c : ((Sl × Int × Unit) → K)) (x9 : Int) : K :=
  lp (fun (z_ : (Sl × Int × Unit)) c_ => ref16_Free_l16 x0 x1 x2 x8_1 c z_.1 z_.2.1 c_) (x7_2, x9, ())
@[reducible] def ref16_Free_s18 (x0 : Sl) (x1 : Int) (x2 : Sl) (k : (Sl → K)) (x7_2 : Sl) (x8_1 : Int) (c : ((Sl × Int × Unit) → K)) (x16 : Bool) : K :=
  brK x16
  (ref16_Free_s17 x0 x1 x2 x7_2 x8_1 c 0)
  (ref16_Free_s1 k x7_2)
@[reducible] def ref16_Free_l19 (x0 : Sl) (x1 : Int) (x2 : Sl) (k : (Sl → K)) (x7_2 : Sl) (x8_1 : Int) (c : ((Sl × Int × Unit) → K)) : K :=
  ref16_Free_s18 x0 x1 x2 k x7_2 x8_1 c (decide (x8_1 < ((x0.n : Nat) : Int)))
@[reducible] def ref16_Free_s20 (x0 : Sl) (x1 : Int) (x2 : Sl) (k : (Sl → K)) (x7 : Sl) (x8 : Int) : K :=
  lp (fun (z_ : (Sl × Int × Unit)) c_ => ref16_Free_l19 x0 x1 x2 k z_.1 z_.2.1 c_) (x7, x8, ())
@[reducible] def ref16_Free_s21 (x0 : Sl) (x1 : Int) (x2 : Sl) (k : (Sl → K)) (x7 : Sl) : K :=
  ref16_Free_s20 x0 x1 x2 k x7 1
@[reducible] def ref16_Free (x0 : Sl) (x1 : Int) (x2 : Sl) : M Sl := fun k =>
  ref16_Free_s21 x0 x1 x2 k ⟨none, 0, 0⟩
theorem ref16_Free_ok (x0 : Sl) (x1 : Int) (x2 : Sl) (k : Sl → K) (w : World) (hyp_ : ref16_Free x0 x1 x2 k w) : c_ref16_Free x0 x1 x2 k w :=
  cl_of (P := Tryz.prog) Tryz.func51 rfl (by kernel_rfl)
  (RefK.seq [] [0, 1, 2] (fun z_ => [(0, x0.v), (1, .int .i64 x1), (2, x2.v)]) (fun z_ => ref16_Free_s21 x0 x1 x2 k ⟨none, 0, 0⟩) (by kernel_rfl) (fun _ => by kernel_rfl)
  (RefK.plain [] (by kernel_rfl))
  (fun _ => RefK.seq [(7, .slice)] [0, 1, 2] (fun z_ => [(7, z_.1.v), (0, x0.v), (1, .int .i64 x1), (2, x2.v)]) (fun z_ => ref16_Free_s21 x0 x1 x2 k z_.1) (by kernel_rfl) (fun _ => by kernel_rfl)
  (RefK.plain [] (by kernel_rfl))
  (fun ⟨x7, _⟩ => RefK.seq [(7, .slice)] [] (fun z_ => [(7, z_.1.v)]) (fun z_ => ref16_Free_s1 k z_.1) (by kernel_rfl) (fun _ => by kernel_rfl)
  (RefK.seq [(8, .int .i64)] [0, 1, 2, 7] (fun z_ => [(8, .int .i64 z_.1), (0, x0.v), (1, .int .i64 x1), (2, x2.v), (7, x7.v)]) (fun z_ => ref16_Free_s20 x0 x1 x2 k x7 z_.1) (by kernel_rfl) (fun _ => by kernel_rfl)
  (RefK.plain [] (by kernel_rfl))
  (fun ⟨x8, _⟩ => RefK.block (RefK.loop [(7, .slice), (8, .int .i64)] [0, 1, 2] (fun z_ => [(7, z_.1.v), (8, .int .i64 z_.2.1), (0, x0.v), (1, .int .i64 x1), (2, x2.v)]) (fun (z_ : (Sl × Int × Unit)) c_ => ref16_Free_l19 x0 x1 x2 k z_.1 z_.2.1 c_) (x7, x8, ()) (by kernel_rfl) (fun _ => by kernel_rfl) (by kernel_rfl) (by kernel_rfl)
  (fun ⟨x7_2, x8_1, _⟩ c => RefK.seq [] [0, 1, 2, 7, 8] (fun z_ => [(0, x0.v), (1, .int .i64 x1), (2, x2.v), (7, x7_2.v), (8, .int .i64 x8_1)]) (fun z_ => ref16_Free_s17 x0 x1 x2 x7_2 x8_1 c 0) (by kernel_rfl) (fun _ => by kernel_rfl)
  (RefK.seq [(16, .bool)] [0, 1, 2, 7, 8] (fun z_ => [(16, .bool z_.1), (0, x0.v), (1, .int .i64 x1), (2, x2.v), (7, x7_2.v), (8, .int .i64 x8_1)]) (fun z_ => ref16_Free_s18 x0 x1 x2 k x7_2 x8_1 c z_.1) (by kernel_rfl) (fun _ => by kernel_rfl)
  (RefK.plain [] (by kernel_rfl))
  (fun ⟨x16, _⟩ => RefK.cond (b := x16) (t1 := ref16_Free_s17 x0 x1 x2 x7_2 x8_1 c 0) (t2 := ref16_Free_s1 k x7_2) (by kernel_rfl) (by kernel_rfl) (fun w h => brK_spec w h) (RefK.skip (by kernel_rfl)) (RefK.exit (by kernel_rfl))))
  (fun _ => RefK.seq [(7, .slice)] [0, 1, 2, 8] (fun z_ => [(7, z_.1.v), (0, x0.v), (1, .int .i64 x1), (2, x2.v), (8, .int .i64 x8_1)]) (fun z_ => ref16_Free_s2 x8_1 c z_.1) (by kernel_rfl) (fun _ => by kernel_rfl)
  (RefK.block (RefK.seq [(9, .int .i64)] [0, 1, 2, 7, 8] (fun z_ => [(9, .int .i64 z_.1), (0, x0.v), (1, .int .i64 x1), (2, x2.v), (7, x7_2.v), (8, .int .i64 x8_1)]) (fun z_ => ref16_Free_s17 x0 x1 x2 x7_2 x8_1 c z_.1) (by kernel_rfl) (fun _ => by kernel_rfl)
  (RefK.plain [] (by kernel_rfl))
  (fun ⟨x9, _⟩ => RefK.block (RefK.loop [(7, .slice), (9, .int .i64)] [0, 1, 2, 8] (fun z_ => [(7, z_.1.v), (9, .int .i64 z_.2.1), (0, x0.v), (1, .int .i64 x1), (2, x2.v), (8, .int .i64 x8_1)]) (fun (z_ : (Sl × Int × Unit)) c_ => ref16_Free_l16 x0 x1 x2 x8_1 c z_.1 z_.2.1 c_) (x7_2, x9, ()) (by kernel_rfl) (fun _ => by kernel_rfl) (by kernel_rfl) (by kernel_rfl)
  (fun ⟨x7_4, x9_1, _⟩ c_1 => RefK.seq [] [0, 1, 2, 7, 8, 9] (fun z_ => [(0, x0.v), (1, .int .i64 x1), (2, x2.v), (7, x7_4.v), (8, .int .i64 x8_1), (9, .int .i64 x9_1)]) (fun z_ => ref16_Free_s14 x1 x2 x8_1 x7_4 x9_1 c_1) (by kernel_rfl) (fun _ => by kernel_rfl)
  (RefK.seq [(39, .bool)] [0, 1, 2, 7, 8, 9] (fun z_ => [(39, .bool z_.1), (0, x0.v), (1, .int .i64 x1), (2, x2.v), (7, x7_4.v), (8, .int .i64 x8_1), (9, .int .i64 x9_1)]) (fun z_ => ref16_Free_s15 x1 x2 x8_1 c x7_4 x9_1 c_1 z_.1) (by kernel_rfl) (fun _ => by kernel_rfl)
  (RefK.plain [6, 15] (by kernel_rfl))
  (fun ⟨x39, _⟩ => RefK.cond (b := x39) (t1 := ref16_Free_s14 x1 x2 x8_1 x7_4 x9_1 c_1) (t2 := ref16_Free_s2 x8_1 c x7_4) (by kernel_rfl) (by kernel_rfl) (fun w h => brK_spec w h) (RefK.skip (by kernel_rfl)) (RefK.exit (by kernel_rfl))))
  (fun _ => RefK.seq [(7, .slice)] [0, 1, 2, 8, 9] (fun z_ => [(7, z_.1.v), (0, x0.v), (1, .int .i64 x1), (2, x2.v), (8, .int .i64 x8_1), (9, .int .i64 x9_1)]) (fun z_ => ref16_Free_s3 x9_1 c_1 z_.1) (by kernel_rfl) (fun _ => by kernel_rfl)
  (RefK.block (RefK.seq [(10, .int .i64)] [0, 1, 2, 7, 8, 9] (fun z_ => [(10, .int .i64 z_.1), (0, x0.v), (1, .int .i64 x1), (2, x2.v), (7, x7_4.v), (8, .int .i64 x8_1), (9, .int .i64 x9_1)]) (fun z_ => ref16_Free_s13 x2 x7_4 x9_1 c_1 z_.1) (by kernel_rfl) (fun _ => by kernel_rfl)
  (RefK.plain [] (by kernel_rfl))
  (fun ⟨x10, _⟩ => RefK.seq [(11, .bool)] [0, 1, 2, 7, 8, 9, 10] (fun z_ => [(11, .bool z_.1), (0, x0.v), (1, .int .i64 x1), (2, x2.v), (7, x7_4.v), (8, .int .i64 x8_1), (9, .int .i64 x9_1), (10, .int .i64 x10)]) (fun z_ => ref16_Free_s12 x2 x7_4 x9_1 c_1 x10 z_.1) (by kernel_rfl) (fun _ => by kernel_rfl)
  (RefK.plain [] (by kernel_rfl))
  (fun ⟨x11, _⟩ => RefK.seq [(11, .bool)] [0, 1, 2, 7, 8, 9, 10] (fun z_ => [(11, .bool z_.1), (0, x0.v), (1, .int .i64 x1), (2, x2.v), (7, x7_4.v), (8, .int .i64 x8_1), (9, .int .i64 x9_1), (10, .int .i64 x10)]) (fun z_ => ref16_Free_s6 x7_4 x9_1 c_1 x10 z_.1) (by kernel_rfl) (fun _ => by kernel_rfl)
  (RefK.seq [(12, .int .i64)] [0, 1, 2, 7, 8, 9, 10, 11] (fun z_ => [(12, .int .i64 z_.1), (0, x0.v), (1, .int .i64 x1), (2, x2.v), (7, x7_4.v), (8, .int .i64 x8_1), (9, .int .i64 x9_1), (10, .int .i64 x10), (11, .bool x11)]) (fun z_ => ref16_Free_s11 x2 x7_4 x9_1 c_1 x10 x11 z_.1) (by kernel_rfl) (fun _ => by kernel_rfl)
  (RefK.plain [] (by kernel_rfl))
  (fun ⟨x12, _⟩ => RefK.block (RefK.loop [(11, .bool), (12, .int .i64)] [0, 1, 2, 7, 8, 9, 10] (fun z_ => [(11, .bool z_.1), (12, .int .i64 z_.2.1), (0, x0.v), (1, .int .i64 x1), (2, x2.v), (7, x7_4.v), (8, .int .i64 x8_1), (9, .int .i64 x9_1), (10, .int .i64 x10)]) (fun (z_ : (Bool × Int × Unit)) c_ => ref16_Free_l10 x2 x7_4 x9_1 c_1 x10 z_.1 z_.2.1 c_) (x11, x12, ()) (by kernel_rfl) (fun _ => by kernel_rfl) (by kernel_rfl) (by kernel_rfl)
  (fun ⟨x11_2, x12_1, _⟩ c_2 => RefK.seq [] [0, 1, 2, 7, 8, 9, 10, 11, 12] (fun z_ => [(0, x0.v), (1, .int .i64 x1), (2, x2.v), (7, x7_4.v), (8, .int .i64 x8_1), (9, .int .i64 x9_1), (10, .int .i64 x10), (11, .bool x11_2), (12, .int .i64 x12_1)]) (fun z_ => ref16_Free_s8 x2 x10 x11_2 x12_1 c_2) (by kernel_rfl) (fun _ => by kernel_rfl)
  (RefK.seq [(52, .bool)] [0, 1, 2, 7, 8, 9, 10, 11, 12] (fun z_ => [(52, .bool z_.1), (0, x0.v), (1, .int .i64 x1), (2, x2.v), (7, x7_4.v), (8, .int .i64 x8_1), (9, .int .i64 x9_1), (10, .int .i64 x10), (11, .bool x11_2), (12, .int .i64 x12_1)]) (fun z_ => ref16_Free_s9 x2 x7_4 x9_1 c_1 x10 x11_2 x12_1 c_2 z_.1) (by kernel_rfl) (fun _ => by kernel_rfl)
  (RefK.plain [] (by kernel_rfl))
  (fun ⟨x52, _⟩ => RefK.cond (b := x52) (t1 := ref16_Free_s8 x2 x10 x11_2 x12_1 c_2) (t2 := ref16_Free_s6 x7_4 x9_1 c_1 x10 x11_2) (by kernel_rfl) (by kernel_rfl) (fun w h => brK_spec w h) (RefK.skip (by kernel_rfl)) (RefK.exit (by kernel_rfl))))
  (fun _ => RefK.seq [(11, .bool)] [0, 1, 2, 7, 8, 9, 10, 12] (fun z_ => [(11, .bool z_.1), (0, x0.v), (1, .int .i64 x1), (2, x2.v), (7, x7_4.v), (8, .int .i64 x8_1), (9, .int .i64 x9_1), (10, .int .i64 x10), (12, .int .i64 x12_1)]) (fun z_ => ref16_Free_s7 x12_1 c_2 z_.1) (by kernel_rfl) (fun _ => by kernel_rfl)
  (RefK.block (RefK.plain [1] (by kernel_rfl)))
  (fun ⟨x11_3, _⟩ => RefK.plain [] (by kernel_rfl)))))))
  (fun ⟨x11_1, _⟩ => RefK.seq [(65, .bool)] [0, 1, 2, 7, 8, 9, 10] (fun z_ => [(65, .bool z_.1), (0, x0.v), (1, .int .i64 x1), (2, x2.v), (7, x7_4.v), (8, .int .i64 x8_1), (9, .int .i64 x9_1), (10, .int .i64 x10)]) (fun z_ => ref16_Free_s5 x7_4 x9_1 c_1 x10 z_.1) (by kernel_rfl) (fun _ => by kernel_rfl)
  (RefK.plain [] (by kernel_rfl))
  (fun ⟨x65, _⟩ => RefK.cond (b := x65) (t1 := ref16_Free_s4 x7_4 x9_1 c_1 x10) (t2 := ref16_Free_s3 x9_1 c_1 x7_4) (by kernel_rfl) (by kernel_rfl) (fun w h => brK_spec w h) (RefK.plain [] (by kernel_rfl)) (RefK.skip (by kernel_rfl))))))))
  (fun ⟨x7_5, _⟩ => RefK.plain [] (by kernel_rfl))))))))
  (fun ⟨x7_3, _⟩ => RefK.plain [] (by kernel_rfl)))))))
  (fun ⟨x7_1, _⟩ => RefK.seq [(6, .slice)] [] (fun z_ => [(6, z_.1.v)]) (fun z_ => ref16_Free_s0 k z_.1) (by kernel_rfl) (fun _ => by kernel_rfl)
  (RefK.plain [] (by kernel_rfl))
  (fun ⟨x6, _⟩ => RefK.ret (by kernel_rfl)))))) hyp_
@[reducible] def ref06_Words_s0 (k : (Int → K)) (x2 : Int) : K :=
  k x2
@[reducible] def ref06_Words_s1 (k_1 : Int) (k : (Int → K)) : K :=
  c_ref06_Sizes fun x9 =>
  ixS x9.p x9.n k_1 1 fun x11 =>
  ldI .i64 x11 fun x12 =>
  ref06_Words_s0 k x12
@[reducible] def ref06_Words_s2 (k : (Int → K)) (x2_1 : Int) : K :=
  k x2_1
@[reducible] def ref06_Words_s3 (k_1 : Int) (k : (Int → K)) (x8 : Bool) : K :=
  brK x8
  (ref06_Words_s2 k 0)
  (ref06_Words_s1 k_1 k)
@[reducible] def ref06_Words_s4 (k_1 : Int) (k : (Int → K)) : K :=
  brK (decide (k_1 < 0))
  (ref06_Words_s3 k_1 k true)
  (ref06_Words_s3 k_1 k (decide (k_1 ≥ 32)))
@[reducible] def ref06_Words (k_1 : Int) : M Int := fun k =>
  ref06_Words_s4 k_1 k
theorem ref06_Words_ok (k_1 : Int) (k : Int → K) (w : World) (hyp_ : ref06_Words k_1 k w) : c_ref06_Words k_1 k w :=
  cl_of (P := Tryz.prog) Tryz.func52 rfl (by kernel_rfl)
  (RefK.seq [] [0] (fun z_ => [(0, .int .i64 k_1)]) (fun z_ => ref06_Words_s4 k_1 k) (by kernel_rfl) (fun _ => by kernel_rfl)
  (RefK.plain [] (by kernel_rfl))
  (fun _ => RefK.seq [] [0] (fun z_ => [(0, .int .i64 k_1)]) (fun z_ => ref06_Words_s1 k_1 k) (by kernel_rfl) (fun _ => by kernel_rfl)
  (RefK.seq [(8, .bool)] [0] (fun z_ => [(8, .bool z_.1), (0, .int .i64 k_1)]) (fun z_ => ref06_Words_s3 k_1 k z_.1) (by kernel_rfl) (fun _ => by kernel_rfl)
  (RefK.plain [2] (by kernel_rfl))
  (fun ⟨x8, _⟩ => RefK.cond (b := x8) (t1 := ref06_Words_s2 k 0) (t2 := ref06_Words_s1 k_1 k) (by kernel_rfl) (by kernel_rfl) (fun w h => brK_spec w h) (RefK.seq [(2, .int .i64)] [] (fun z_ => [(2, .int .i64 z_.1)]) (fun z_ => ref06_Words_s2 k z_.1) (by kernel_rfl) (fun _ => by kernel_rfl)
  (RefK.plain [] (by kernel_rfl))
  (fun ⟨x2_1, _⟩ => RefK.ret (by kernel_rfl))) (RefK.skip (by kernel_rfl))))
  (fun _ => RefK.seq [(2, .int .i64)] [] (fun z_ => [(2, .int .i64 z_.1)]) (fun z_ => ref06_Words_s0 k z_.1) (by kernel_rfl) (fun _ => by kernel_rfl)
  (RefK.plain [] (by kernel_rfl))
  (fun ⟨x2, _⟩ => RefK.ret (by kernel_rfl))))) hyp_
@[reducible] def ref29_Small_s0 (k : (Int → K)) (x6 : Int) : K :=
  k x6
@[reducible] def ref29_Small_s1 (k : (Int → K)) (n_1 : Int) : K :=
  ref29_Small_s0 k n_1
@[reducible] def ref29_Small_s2 (b_1 : Int) (c : ((Int × Int × Unit) → K)) (n_3 : Int) : K :=
  c (n_3, (IntKind.wrap .i64 (b_1 + 1)), ())
@[reducible] def ref29_Small_s3 (k_1 : Int) (n_2 : Int) (b_1 : Int) (c : ((Int × Int × Unit) → K)) : K :=
  c_ref06_Cells k_1 fun x28 =>
  ref29_Small_s2 b_1 c (IntKind.wrap .i64 (n_2 + x28))
@[reducible] def ref29_Small_s4 (k_1 : Int) (n_2 : Int) (b_1 : Int) (c : ((Int × Int × Unit) → K)) (x25 : Bool) : K :=
  brK x25
  (ref29_Small_s3 k_1 n_2 b_1 c)
  (ref29_Small_s2 b_1 c n_2)
@[reducible] def ref29_Small_s5 (l : Sl) (k_1 : Int) (n_2 : Int) (b_1 : Int) (c : ((Int × Int × Unit) → K)) : K :=
  ixS l.p l.n b_1 3 fun x22 =>
  ldI .i64 (Addr.add x22 0) fun x24 =>
  ref29_Small_s4 k_1 n_2 b_1 c (x24 == 0)
@[reducible] def ref29_Small_s6 (l : Sl) (k_1 : Int) (k : (Int → K)) (n_2 : Int) (b_1 : Int) (c : ((Int × Int × Unit) → K)) (x17 : Bool) : K :=
  brK x17
  (ref29_Small_s5 l k_1 n_2 b_1 c)
  (ref29_Small_s1 k n_2)
@[reducible] def ref29_Small_l7 (l : Sl) (k_1 : Int) (k : (Int → K)) (n_2 : Int) (b_1 : Int) (c : ((Int × Int × Unit) → K)) : K :=
  ref29_Small_s6 l k_1 k n_2 b_1 c (decide (b_1 < ((l.n : Nat) : Int)))
@[reducible] def ref29_Small_s8 (l : Sl) (k_1 : Int) (k : (Int → K)) (n : Int) (b : Int) : K :=
  lp (fun (z_ : (Int × Int × Unit)) c_ => ref29_Small_l7 l k_1 k z_.1 z_.2.1 c_) (n, b, ())
@[reducible] def ref29_Small_s9 (l : Sl) (k_1 : Int) (k : (Int → K)) (n : Int) : K :=
  ref29_Small_s8 l k_1 k n 1
@[reducible] def ref29_Small_s10 (l : Sl) (used : Sl) (k_1 : Int) (k : (Int → K)) : K :=
  c_ref16_Free l k_1 used fun x12 =>
  ref29_Small_s9 l k_1 k ((x12.n : Nat) : Int)
@[reducible] def ref29_Small (l : Sl) (used : Sl) (k_1 : Int) : M Int := fun k =>
  ref29_Small_s10 l used k_1 k
theorem ref29_Small_ok (l : Sl) (used : Sl) (k_1 : Int) (k : Int → K) (w : World) (hyp_ : ref29_Small l used k_1 k w) : c_ref29_Small l used k_1 k w :=
  cl_of (P := Tryz.prog) Tryz.func94 rfl (by kernel_rfl)
  (RefK.seq [] [0, 1, 2] (fun z_ => [(0, l.v), (1, used.v), (2, .int .i64 k_1)]) (fun z_ => ref29_Small_s10 l used k_1 k) (by kernel_rfl) (fun _ => by kernel_rfl)
  (RefK.plain [] (by kernel_rfl))
  (fun _ => RefK.seq [(7, .int .i64)] [0, 2] (fun z_ => [(7, .int .i64 z_.1), (0, l.v), (2, .int .i64 k_1)]) (fun z_ => ref29_Small_s9 l k_1 k z_.1) (by kernel_rfl) (fun _ => by kernel_rfl)
  (RefK.plain [] (by kernel_rfl))
  (fun ⟨n, _⟩ => RefK.seq [(7, .int .i64)] [] (fun z_ => [(7, .int .i64 z_.1)]) (fun z_ => ref29_Small_s1 k z_.1) (by kernel_rfl) (fun _ => by kernel_rfl)
  (RefK.seq [(8, .int .i64)] [0, 2, 7] (fun z_ => [(8, .int .i64 z_.1), (0, l.v), (2, .int .i64 k_1), (7, .int .i64 n)]) (fun z_ => ref29_Small_s8 l k_1 k n z_.1) (by kernel_rfl) (fun _ => by kernel_rfl)
  (RefK.plain [] (by kernel_rfl))
  (fun ⟨b, _⟩ => RefK.block (RefK.loop [(7, .int .i64), (8, .int .i64)] [0, 2] (fun z_ => [(7, .int .i64 z_.1), (8, .int .i64 z_.2.1), (0, l.v), (2, .int .i64 k_1)]) (fun (z_ : (Int × Int × Unit)) c_ => ref29_Small_l7 l k_1 k z_.1 z_.2.1 c_) (n, b, ()) (by kernel_rfl) (fun _ => by kernel_rfl) (by kernel_rfl) (by kernel_rfl)
  (fun ⟨n_2, b_1, _⟩ c => RefK.seq [] [0, 2, 7, 8] (fun z_ => [(0, l.v), (2, .int .i64 k_1), (7, .int .i64 n_2), (8, .int .i64 b_1)]) (fun z_ => ref29_Small_s5 l k_1 n_2 b_1 c) (by kernel_rfl) (fun _ => by kernel_rfl)
  (RefK.seq [(17, .bool)] [0, 2, 7, 8] (fun z_ => [(17, .bool z_.1), (0, l.v), (2, .int .i64 k_1), (7, .int .i64 n_2), (8, .int .i64 b_1)]) (fun z_ => ref29_Small_s6 l k_1 k n_2 b_1 c z_.1) (by kernel_rfl) (fun _ => by kernel_rfl)
  (RefK.plain [] (by kernel_rfl))
  (fun ⟨x17, _⟩ => RefK.cond (b := x17) (t1 := ref29_Small_s5 l k_1 n_2 b_1 c) (t2 := ref29_Small_s1 k n_2) (by kernel_rfl) (by kernel_rfl) (fun w h => brK_spec w h) (RefK.skip (by kernel_rfl)) (RefK.exit (by kernel_rfl))))
  (fun _ => RefK.seq [(7, .int .i64)] [0, 2, 8] (fun z_ => [(7, .int .i64 z_.1), (0, l.v), (2, .int .i64 k_1), (8, .int .i64 b_1)]) (fun z_ => ref29_Small_s2 b_1 c z_.1) (by kernel_rfl) (fun _ => by kernel_rfl)
  (RefK.block (RefK.seq [(25, .bool)] [0, 2, 7, 8] (fun z_ => [(25, .bool z_.1), (0, l.v), (2, .int .i64 k_1), (7, .int .i64 n_2), (8, .int .i64 b_1)]) (fun z_ => ref29_Small_s4 k_1 n_2 b_1 c z_.1) (by kernel_rfl) (fun _ => by kernel_rfl)
  (RefK.plain [] (by kernel_rfl))
  (fun ⟨x25, _⟩ => RefK.cond (b := x25) (t1 := ref29_Small_s3 k_1 n_2 b_1 c) (t2 := ref29_Small_s2 b_1 c n_2) (by kernel_rfl) (by kernel_rfl) (fun w h => brK_spec w h) (RefK.plain [] (by kernel_rfl)) (RefK.skip (by kernel_rfl)))))
  (fun ⟨n_3, _⟩ => RefK.plain [] (by kernel_rfl)))))))
  (fun ⟨n_1, _⟩ => RefK.seq [(6, .int .i64)] [] (fun z_ => [(6, .int .i64 z_.1)]) (fun z_ => ref29_Small_s0 k z_.1) (by kernel_rfl) (fun _ => by kernel_rfl)
  (RefK.plain [] (by kernel_rfl))
  (fun ⟨x6, _⟩ => RefK.ret (by kernel_rfl)))))) hyp_
@[reducible] def ref10_Spans_s0 (k : (Sl → K)) (x2 : Sl) : K :=
  k x2
@[reducible] def ref10_Spans_s1 (k : (Sl → K)) (out_1 : Sl) : K :=
  ref10_Spans_s0 k out_1
@[reducible] def ref10_Spans_s2 (b_1 : Int) (c : ((Sl × Int × Unit) → K)) (out_3 : Sl) : K :=
  c (out_3, (IntKind.wrap .i64 (b_1 + 1)), ())
@[reducible] def ref10_Spans_s3 (out_2 : Sl) (b_1 : Int) (c : ((Sl × Int × Unit) → K)) : K :=
  ixS out_2.p out_2.n (IntKind.wrap .i64 (((out_2.n : Nat) : Int) - 1)) 2 fun x32 =>
  ldI .i64 (Addr.add x32 1) fun x34 =>
  ixS out_2.p out_2.n (IntKind.wrap .i64 (((out_2.n : Nat) : Int) - 1)) 2 fun x36 =>
  stK (Addr.add (Addr.add x36 1) 0) (.int .i64 (IntKind.wrap .i64 (x34 + 1))) <|
  ref10_Spans_s2 b_1 c out_2
@[reducible] def ref10_Spans_s4 (out_2 : Sl) (b_1 : Int) (c : ((Sl × Int × Unit) → K)) : K :=
  alK (.cells #[.int .i64 b_1, .int .i64 1] 149) fun b_2 =>
  semT Tryz.prog (Builtin.append_ #[146, 146] 146 #[out_2.v, .slice (some ⟨b_2, 0, none⟩) 1 1]) (.one (.sc (.slice))) fun x42 =>
  ref10_Spans_s2 b_1 c x42
@[reducible] def ref10_Spans_s5 (out_2 : Sl) (b_1 : Int) (c : ((Sl × Int × Unit) → K)) (x27 : Bool) : K :=
  brK x27
  (ref10_Spans_s3 out_2 b_1 c)
  (ref10_Spans_s4 out_2 b_1 c)
@[reducible] def ref10_Spans_s6 (l : Sl) (out_2 : Sl) (b_1 : Int) (c : ((Sl × Int × Unit) → K)) : K :=
  brK (decide (b_1 > 1))
  (ixS l.p l.n (IntKind.wrap .i64 (b_1 - 1)) 3 fun x23 =>
  ldI .i64 (Addr.add x23 0) fun x25 =>
  ref10_Spans_s5 out_2 b_1 c (x25 == 0))
  (ref10_Spans_s5 out_2 b_1 c false)
@[reducible] def ref10_Spans_s7 (l : Sl) (out_2 : Sl) (b_1 : Int) (c : ((Sl × Int × Unit) → K)) (x16 : Bool) : K :=
  brK x16
  (ref10_Spans_s2 b_1 c out_2)
  (ref10_Spans_s6 l out_2 b_1 c)
@[reducible] def ref10_Spans_s8 (l : Sl) (out_2 : Sl) (b_1 : Int) (c : ((Sl × Int × Unit) → K)) : K :=
  ixS l.p l.n b_1 3 fun x13 =>
  ldI .i64 (Addr.add x13 0) fun x15 =>
  ref10_Spans_s7 l out_2 b_1 c (x15 != 0)
@[reducible] def ref10_Spans_s9 (l : Sl) (k : (Sl → K)) (out_2 : Sl) (b_1 : Int) (c : ((Sl × Int × Unit) → K)) (x8 : Bool) : K :=
  brK x8
  (ref10_Spans_s8 l out_2 b_1 c)
  (ref10_Spans_s1 k out_2)
@[reducible] def ref10_Spans_l10 (l : Sl) (k : (Sl → K)) (out_2 : Sl) (b_1 : Int) (c : ((Sl × Int × Unit) → K)) : K :=
  ref10_Spans_s9 l k out_2 b_1 c (decide (b_1 < ((l.n : Nat) : Int)))
@[reducible] def ref10_Spans_s11 (l : Sl) (k : (Sl → K)) (out : Sl) (b : Int) : K :=
  lp (fun (z_ : (Sl × Int × Unit)) c_ => ref10_Spans_l10 l k z_.1 z_.2.1 c_) (out, b, ())
@[reducible] def ref10_Spans_s12 (l : Sl) (k : (Sl → K)) (out : Sl) : K :=
  ref10_Spans_s11 l k out 1
@[reducible] def ref10_Spans (l : Sl) : M Sl := fun k =>
  ref10_Spans_s12 l k ⟨none, 0, 0⟩
theorem ref10_Spans_ok (l : Sl) (k : Sl → K) (w : World) (hyp_ : ref10_Spans l k w) : c_ref10_Spans l k w :=
  cl_of (P := Tryz.prog) Tryz.func97 rfl (by kernel_rfl)
  (RefK.seq [] [0] (fun z_ => [(0, l.v)]) (fun z_ => ref10_Spans_s12 l k ⟨none, 0, 0⟩) (by kernel_rfl) (fun _ => by kernel_rfl)
  (RefK.plain [] (by kernel_rfl))
  (fun _ => RefK.seq [(3, .slice)] [0] (fun z_ => [(3, z_.1.v), (0, l.v)]) (fun z_ => ref10_Spans_s12 l k z_.1) (by kernel_rfl) (fun _ => by kernel_rfl)
  (RefK.plain [] (by kernel_rfl))
  (fun ⟨out, _⟩ => RefK.seq [(3, .slice)] [] (fun z_ => [(3, z_.1.v)]) (fun z_ => ref10_Spans_s1 k z_.1) (by kernel_rfl) (fun _ => by kernel_rfl)
  (RefK.seq [(4, .int .i64)] [0, 3] (fun z_ => [(4, .int .i64 z_.1), (0, l.v), (3, out.v)]) (fun z_ => ref10_Spans_s11 l k out z_.1) (by kernel_rfl) (fun _ => by kernel_rfl)
  (RefK.plain [] (by kernel_rfl))
  (fun ⟨b, _⟩ => RefK.block (RefK.loop [(3, .slice), (4, .int .i64)] [0] (fun z_ => [(3, z_.1.v), (4, .int .i64 z_.2.1), (0, l.v)]) (fun (z_ : (Sl × Int × Unit)) c_ => ref10_Spans_l10 l k z_.1 z_.2.1 c_) (out, b, ()) (by kernel_rfl) (fun _ => by kernel_rfl) (by kernel_rfl) (by kernel_rfl)
  (fun ⟨out_2, b_1, _⟩ c => RefK.seq [] [0, 3, 4] (fun z_ => [(0, l.v), (3, out_2.v), (4, .int .i64 b_1)]) (fun z_ => ref10_Spans_s8 l out_2 b_1 c) (by kernel_rfl) (fun _ => by kernel_rfl)
  (RefK.seq [(8, .bool)] [0, 3, 4] (fun z_ => [(8, .bool z_.1), (0, l.v), (3, out_2.v), (4, .int .i64 b_1)]) (fun z_ => ref10_Spans_s9 l k out_2 b_1 c z_.1) (by kernel_rfl) (fun _ => by kernel_rfl)
  (RefK.plain [] (by kernel_rfl))
  (fun ⟨x8, _⟩ => RefK.cond (b := x8) (t1 := ref10_Spans_s8 l out_2 b_1 c) (t2 := ref10_Spans_s1 k out_2) (by kernel_rfl) (by kernel_rfl) (fun w h => brK_spec w h) (RefK.skip (by kernel_rfl)) (RefK.exit (by kernel_rfl))))
  (fun _ => RefK.seq [(3, .slice)] [0, 4] (fun z_ => [(3, z_.1.v), (0, l.v), (4, .int .i64 b_1)]) (fun z_ => ref10_Spans_s2 b_1 c z_.1) (by kernel_rfl) (fun _ => by kernel_rfl)
  (RefK.block (RefK.seq [] [0, 3, 4] (fun z_ => [(0, l.v), (3, out_2.v), (4, .int .i64 b_1)]) (fun z_ => ref10_Spans_s6 l out_2 b_1 c) (by kernel_rfl) (fun _ => by kernel_rfl)
  (RefK.seq [(16, .bool)] [0, 3, 4] (fun z_ => [(16, .bool z_.1), (0, l.v), (3, out_2.v), (4, .int .i64 b_1)]) (fun z_ => ref10_Spans_s7 l out_2 b_1 c z_.1) (by kernel_rfl) (fun _ => by kernel_rfl)
  (RefK.plain [] (by kernel_rfl))
  (fun ⟨x16, _⟩ => RefK.cond (b := x16) (t1 := ref10_Spans_s2 b_1 c out_2) (t2 := ref10_Spans_s6 l out_2 b_1 c) (by kernel_rfl) (by kernel_rfl) (fun w h => brK_spec w h) (RefK.exit (by kernel_rfl)) (RefK.skip (by kernel_rfl))))
  (fun _ => RefK.seq [(27, .bool)] [0, 3, 4] (fun z_ => [(27, .bool z_.1), (0, l.v), (3, out_2.v), (4, .int .i64 b_1)]) (fun z_ => ref10_Spans_s5 out_2 b_1 c z_.1) (by kernel_rfl) (fun _ => by kernel_rfl)
  (RefK.plain [2] (by kernel_rfl))
  (fun ⟨x27, _⟩ => RefK.cond (b := x27) (t1 := ref10_Spans_s3 out_2 b_1 c) (t2 := ref10_Spans_s4 out_2 b_1 c) (by kernel_rfl) (by kernel_rfl) (fun w h => brK_spec w h) (RefK.plain [] (by kernel_rfl)) (RefK.plain [] (by kernel_rfl))))))
  (fun ⟨out_3, _⟩ => RefK.plain [] (by kernel_rfl)))))))
  (fun ⟨out_1, _⟩ => RefK.seq [(2, .slice)] [] (fun z_ => [(2, z_.1.v)]) (fun z_ => ref10_Spans_s0 k z_.1) (by kernel_rfl) (fun _ => by kernel_rfl)
  (RefK.plain [] (by kernel_rfl))
  (fun ⟨x2, _⟩ => RefK.ret (by kernel_rfl)))))) hyp_
@[reducible] def ref08_Class_s0 (k : (Int → K)) (x2 : Int) : K :=
  k x2
@[reducible] def ref08_Class_s1 (k : (Int → K)) (o_1 : Addr) : K :=
  ldI .i64 (Addr.add o_1 0) fun x3_0 =>
  ldI .i64 (Addr.add o_1 1) fun x3_1 =>
  c_ref08_Size (x3_0, x3_1) fun x4 =>
  c_ref06_Of x4 fun x5 =>
  ref08_Class_s0 k x5
@[reducible] def ref08_Class (o : (Int × Int)) : M Int := fun k =>
  alK (.cells #[.int .i64 o.1, .int .i64 o.2] 74) fun b =>
  ref08_Class_s1 k ⟨b, 0, none⟩
theorem ref08_Class_ok (o : (Int × Int)) (k : Int → K) (w : World) (hyp_ : ref08_Class o k w) : c_ref08_Class o k w :=
  cl_of (P := Tryz.prog) Tryz.func98 rfl (by kernel_rfl)
  (RefK.seq [(1, .addr)] [] (fun z_ => [(1, .pointer (some z_.1))]) (fun z_ => ref08_Class_s1 k z_.1) (by kernel_rfl) (fun _ => by kernel_rfl)
  (RefK.plain [] (by kernel_rfl))
  (fun ⟨o_1, _⟩ => RefK.seq [(2, .int .i64)] [] (fun z_ => [(2, .int .i64 z_.1)]) (fun z_ => ref08_Class_s0 k z_.1) (by kernel_rfl) (fun _ => by kernel_rfl)
  (RefK.plain [] (by kernel_rfl))
  (fun ⟨x2, _⟩ => RefK.ret (by kernel_rfl)))) hyp_
@[reducible] def ref08_Blocks_s0 (k : (Int → K)) (x2 : Int) : K :=
  k x2
@[reducible] def ref08_Blocks_s1 (k : (Int → K)) (o_1 : Addr) : K :=
  ldI .i64 (Addr.add o_1 0) fun x6_0 =>
  ldI .i64 (Addr.add o_1 1) fun x6_1 =>
  c_ref08_Size (x6_0, x6_1) fun x7 =>
  c_ref04_Need x7 fun x8 =>
  ref08_Blocks_s0 k x8
@[reducible] def ref08_Blocks_s2 (k : (Int → K)) (x2_1 : Int) : K :=
  k x2_1
@[reducible] def ref08_Blocks_s3 (k : (Int → K)) (o_1 : Addr) (x5 : Bool) : K :=
  brK x5
  (ref08_Blocks_s2 k 0)
  (ref08_Blocks_s1 k o_1)
@[reducible] def ref08_Blocks_s4 (k : (Int → K)) (o_1 : Addr) : K :=
  ldI .i64 (Addr.add o_1 0) fun x3_0 =>
  ldI .i64 (Addr.add o_1 1) fun x3_1 =>
  c_ref08_Class (x3_0, x3_1) fun x4 =>
  ref08_Blocks_s3 k o_1 (decide (x4 ≥ 0))
@[reducible] def ref08_Blocks (o : (Int × Int)) : M Int := fun k =>
  alK (.cells #[.int .i64 o.1, .int .i64 o.2] 74) fun b =>
  ref08_Blocks_s4 k ⟨b, 0, none⟩
theorem ref08_Blocks_ok (o : (Int × Int)) (k : Int → K) (w : World) (hyp_ : ref08_Blocks o k w) : c_ref08_Blocks o k w :=
  cl_of (P := Tryz.prog) Tryz.func99 rfl (by kernel_rfl)
  (RefK.seq [(1, .addr)] [] (fun z_ => [(1, .pointer (some z_.1))]) (fun z_ => ref08_Blocks_s4 k z_.1) (by kernel_rfl) (fun _ => by kernel_rfl)
  (RefK.plain [] (by kernel_rfl))
  (fun ⟨o_1, _⟩ => RefK.seq [] [1] (fun z_ => [(1, .pointer (some o_1))]) (fun z_ => ref08_Blocks_s1 k o_1) (by kernel_rfl) (fun _ => by kernel_rfl)
  (RefK.seq [(5, .bool)] [1] (fun z_ => [(5, .bool z_.1), (1, .pointer (some o_1))]) (fun z_ => ref08_Blocks_s3 k o_1 z_.1) (by kernel_rfl) (fun _ => by kernel_rfl)
  (RefK.plain [] (by kernel_rfl))
  (fun ⟨x5, _⟩ => RefK.cond (b := x5) (t1 := ref08_Blocks_s2 k 0) (t2 := ref08_Blocks_s1 k o_1) (by kernel_rfl) (by kernel_rfl) (fun w h => brK_spec w h) (RefK.seq [(2, .int .i64)] [] (fun z_ => [(2, .int .i64 z_.1)]) (fun z_ => ref08_Blocks_s2 k z_.1) (by kernel_rfl) (fun _ => by kernel_rfl)
  (RefK.plain [] (by kernel_rfl))
  (fun ⟨x2_1, _⟩ => RefK.ret (by kernel_rfl))) (RefK.skip (by kernel_rfl))))
  (fun _ => RefK.seq [(2, .int .i64)] [] (fun z_ => [(2, .int .i64 z_.1)]) (fun z_ => ref08_Blocks_s0 k z_.1) (by kernel_rfl) (fun _ => by kernel_rfl)
  (RefK.plain [] (by kernel_rfl))
  (fun ⟨x2, _⟩ => RefK.ret (by kernel_rfl))))) hyp_
@[reducible] def ref06_Cells_s0 (k : (Int → K)) (x2 : Int) : K :=
  k x2
@[reducible] def ref06_Cells_s1 (k : (Int → K)) (n_1 : Int) : K :=
  ref06_Cells_s0 k n_1
@[reducible] def ref06_Cells_s2 (k : (Int → K)) (n_2 : Int) (c : ((Int × Unit) → K)) (x14 : Bool) : K :=
  brK x14
  (c ((IntKind.wrap .i64 (n_2 + 1)), ()))
  (ref06_Cells_s1 k n_2)
@[reducible] def ref06_Cells_l3 (k_1 : Int) (k : (Int → K)) (n_2 : Int) (c : ((Int × Unit) → K)) : K :=
  c_ref06_Words k_1 fun x5 =>
  brK (decide (x5 > 0))
  (c_ref06_Words k_1 fun x11 =>
  ref06_Cells_s2 k n_2 c (decide ((IntKind.wrap .i64 ((IntKind.wrap .i64 (n_2 + 1)) * x11)) ≤ 512)))
  (ref06_Cells_s2 k n_2 c false)
@[reducible] def ref06_Cells_s4 (k_1 : Int) (k : (Int → K)) (n : Int) : K :=
  lp (fun (z_ : (Int × Unit)) c_ => ref06_Cells_l3 k_1 k z_.1 c_) (n, ())
@[reducible] def ref06_Cells (k_1 : Int) : M Int := fun k =>
  ref06_Cells_s4 k_1 k 0
theorem ref06_Cells_ok (k_1 : Int) (k : Int → K) (w : World) (hyp_ : ref06_Cells k_1 k w) : c_ref06_Cells k_1 k w :=
  cl_of (P := Tryz.prog) Tryz.func109 rfl (by kernel_rfl)
  (RefK.seq [] [0] (fun z_ => [(0, .int .i64 k_1)]) (fun z_ => ref06_Cells_s4 k_1 k 0) (by kernel_rfl) (fun _ => by kernel_rfl)
  (RefK.plain [] (by kernel_rfl))
  (fun _ => RefK.seq [(3, .int .i64)] [0] (fun z_ => [(3, .int .i64 z_.1), (0, .int .i64 k_1)]) (fun z_ => ref06_Cells_s4 k_1 k z_.1) (by kernel_rfl) (fun _ => by kernel_rfl)
  (RefK.plain [] (by kernel_rfl))
  (fun ⟨n, _⟩ => RefK.seq [(3, .int .i64)] [] (fun z_ => [(3, .int .i64 z_.1)]) (fun z_ => ref06_Cells_s1 k z_.1) (by kernel_rfl) (fun _ => by kernel_rfl)
  (RefK.block (RefK.loop [(3, .int .i64)] [0] (fun z_ => [(3, .int .i64 z_.1), (0, .int .i64 k_1)]) (fun (z_ : (Int × Unit)) c_ => ref06_Cells_l3 k_1 k z_.1 c_) (n, ()) (by kernel_rfl) (fun _ => by kernel_rfl) (by kernel_rfl) (by kernel_rfl)
  (fun ⟨n_2, _⟩ c => RefK.seq [] [0, 3] (fun z_ => [(0, .int .i64 k_1), (3, .int .i64 n_2)]) (fun z_ => c ((IntKind.wrap .i64 (n_2 + 1)), ())) (by kernel_rfl) (fun _ => by kernel_rfl)
  (RefK.seq [(14, .bool)] [0, 3] (fun z_ => [(14, .bool z_.1), (0, .int .i64 k_1), (3, .int .i64 n_2)]) (fun z_ => ref06_Cells_s2 k n_2 c z_.1) (by kernel_rfl) (fun _ => by kernel_rfl)
  (RefK.plain [3] (by kernel_rfl))
  (fun ⟨x14, _⟩ => RefK.cond (b := x14) (t1 := c ((IntKind.wrap .i64 (n_2 + 1)), ())) (t2 := ref06_Cells_s1 k n_2) (by kernel_rfl) (by kernel_rfl) (fun w h => brK_spec w h) (RefK.skip (by kernel_rfl)) (RefK.exit (by kernel_rfl))))
  (fun _ => RefK.block (RefK.plain [] (by kernel_rfl))))))
  (fun ⟨n_1, _⟩ => RefK.seq [(2, .int .i64)] [] (fun z_ => [(2, .int .i64 z_.1)]) (fun z_ => ref06_Cells_s0 k z_.1) (by kernel_rfl) (fun _ => by kernel_rfl)
  (RefK.plain [] (by kernel_rfl))
  (fun ⟨x2, _⟩ => RefK.ret (by kernel_rfl)))))) hyp_
@[reducible] def ref06_Sizes_s0 (k : (Sl → K)) (x0 : Sl) : K :=
  k x0
@[reducible] def ref06_Sizes_s1 (k : (Sl → K)) : K :=
  alK (.cells #[.int .i64 2, .int .i64 3, .int .i64 4, .int .i64 5, .int .i64 6, .int .i64 7, .int .i64 8, .int .i64 10, .int .i64 12, .int .i64 14, .int .i64 16, .int .i64 18, .int .i64 20, .int .i64 24, .int .i64 28, .int .i64 32, .int .i64 36, .int .i64 40, .int .i64 46, .int .i64 51, .int .i64 56, .int .i64 64, .int .i64 73, .int .i64 85, .int .i64 92, .int .i64 102, .int .i64 113, .int .i64 128, .int .i64 146, .int .i64 170, .int .i64 204, .int .i64 256] 3) fun b =>
  ref06_Sizes_s0 k ⟨(some ⟨b, 0, none⟩), 32, 32⟩
@[reducible] def ref06_Sizes : M Sl := fun k =>
  ref06_Sizes_s1 k
theorem ref06_Sizes_ok (k : Sl → K) (w : World) (hyp_ : ref06_Sizes k w) : c_ref06_Sizes k w :=
  cl_of (P := Tryz.prog) Tryz.func114 rfl (by kernel_rfl)
  (RefK.seq [] [] (fun z_ => []) (fun z_ => ref06_Sizes_s1 k) (by kernel_rfl) (fun _ => by kernel_rfl)
  (RefK.plain [] (by kernel_rfl))
  (fun _ => RefK.seq [(0, .slice)] [] (fun z_ => [(0, z_.1.v)]) (fun z_ => ref06_Sizes_s0 k z_.1) (by kernel_rfl) (fun _ => by kernel_rfl)
  (RefK.plain [] (by kernel_rfl))
  (fun ⟨x0, _⟩ => RefK.ret (by kernel_rfl)))) hyp_
@[reducible] def ref06_Of_s0 (k : (Int → K)) (x2 : Int) : K :=
  k x2
@[reducible] def ref06_Of_s1 (k : (Int → K)) (x2_1 : Int) : K :=
  k x2_1
@[reducible] def ref06_Of_s2 (k : (Int → K)) (k_2 : Int) (c : ((Int × Unit) → K)) (x17 : Bool) : K :=
  brK x17
  (ref06_Of_s1 k k_2)
  (c ((IntKind.wrap .i64 (k_2 + 1)), ()))
@[reducible] def ref06_Of_s3 (words : Int) (k : (Int → K)) (k_2 : Int) (c : ((Int × Unit) → K)) : K :=
  c_ref06_Sizes fun x12 =>
  ixS x12.p x12.n k_2 1 fun x14 =>
  ldI .i64 x14 fun x15 =>
  ref06_Of_s2 k k_2 c (decide (x15 ≥ words))
@[reducible] def ref06_Of_s4 (words : Int) (k : (Int → K)) (k_2 : Int) (c : ((Int × Unit) → K)) (x9 : Bool) : K :=
  brK x9
  (ref06_Of_s3 words k k_2 c)
  (ref06_Of_s0 k (-1))
@[reducible] def ref06_Of_l5 (words : Int) (k : (Int → K)) (k_2 : Int) (c : ((Int × Unit) → K)) : K :=
  brK (decide (k_2 < 32))
  (ref06_Of_s4 words k k_2 c (decide (words > 0)))
  (ref06_Of_s4 words k k_2 c false)
@[reducible] def ref06_Of_s6 (words : Int) (k : (Int → K)) (k_1 : Int) : K :=
  lp (fun (z_ : (Int × Unit)) c_ => ref06_Of_l5 words k z_.1 c_) (k_1, ())
@[reducible] def ref06_Of (words : Int) : M Int := fun k =>
  ref06_Of_s6 words k 0
theorem ref06_Of_ok (words : Int) (k : Int → K) (w : World) (hyp_ : ref06_Of words k w) : c_ref06_Of words k w :=
  cl_of (P := Tryz.prog) Tryz.func158 rfl (by kernel_rfl)
  (RefK.seq [] [0] (fun z_ => [(0, .int .i64 words)]) (fun z_ => ref06_Of_s6 words k 0) (by kernel_rfl) (fun _ => by kernel_rfl)
  (RefK.plain [] (by kernel_rfl))
  (fun _ => RefK.seq [] [] (fun z_ => []) (fun z_ => ref06_Of_s0 k (-1)) (by kernel_rfl) (fun _ => by kernel_rfl)
  (RefK.seq [(3, .int .i64)] [0] (fun z_ => [(3, .int .i64 z_.1), (0, .int .i64 words)]) (fun z_ => ref06_Of_s6 words k z_.1) (by kernel_rfl) (fun _ => by kernel_rfl)
  (RefK.plain [] (by kernel_rfl))
  (fun ⟨k_1, _⟩ => RefK.block (RefK.loop [(3, .int .i64)] [0] (fun z_ => [(3, .int .i64 z_.1), (0, .int .i64 words)]) (fun (z_ : (Int × Unit)) c_ => ref06_Of_l5 words k z_.1 c_) (k_1, ()) (by kernel_rfl) (fun _ => by kernel_rfl) (by kernel_rfl) (by kernel_rfl)
  (fun ⟨k_2, _⟩ c => RefK.seq [] [0, 3] (fun z_ => [(0, .int .i64 words), (3, .int .i64 k_2)]) (fun z_ => ref06_Of_s3 words k k_2 c) (by kernel_rfl) (fun _ => by kernel_rfl)
  (RefK.seq [(9, .bool)] [0, 3] (fun z_ => [(9, .bool z_.1), (0, .int .i64 words), (3, .int .i64 k_2)]) (fun z_ => ref06_Of_s4 words k k_2 c z_.1) (by kernel_rfl) (fun _ => by kernel_rfl)
  (RefK.plain [2] (by kernel_rfl))
  (fun ⟨x9, _⟩ => RefK.cond (b := x9) (t1 := ref06_Of_s3 words k k_2 c) (t2 := ref06_Of_s0 k (-1)) (by kernel_rfl) (by kernel_rfl) (fun w h => brK_spec w h) (RefK.skip (by kernel_rfl)) (RefK.exit (by kernel_rfl))))
  (fun _ => RefK.seq [] [0, 3] (fun z_ => [(0, .int .i64 words), (3, .int .i64 k_2)]) (fun z_ => c ((IntKind.wrap .i64 (k_2 + 1)), ())) (by kernel_rfl) (fun _ => by kernel_rfl)
  (RefK.block (RefK.seq [(17, .bool)] [0, 3] (fun z_ => [(17, .bool z_.1), (0, .int .i64 words), (3, .int .i64 k_2)]) (fun z_ => ref06_Of_s2 k k_2 c z_.1) (by kernel_rfl) (fun _ => by kernel_rfl)
  (RefK.plain [] (by kernel_rfl))
  (fun ⟨x17, _⟩ => RefK.cond (b := x17) (t1 := ref06_Of_s1 k k_2) (t2 := c ((IntKind.wrap .i64 (k_2 + 1)), ())) (by kernel_rfl) (by kernel_rfl) (fun w h => brK_spec w h) (RefK.seq [(2, .int .i64)] [] (fun z_ => [(2, .int .i64 z_.1)]) (fun z_ => ref06_Of_s1 k z_.1) (by kernel_rfl) (fun _ => by kernel_rfl)
  (RefK.plain [] (by kernel_rfl))
  (fun ⟨x2_1, _⟩ => RefK.ret (by kernel_rfl))) (RefK.skip (by kernel_rfl)))))
  (fun _ => RefK.plain [] (by kernel_rfl)))))))
  (fun _ => RefK.seq [(2, .int .i64)] [] (fun z_ => [(2, .int .i64 z_.1)]) (fun z_ => ref06_Of_s0 k z_.1) (by kernel_rfl) (fun _ => by kernel_rfl)
  (RefK.plain [] (by kernel_rfl))
  (fun ⟨x2, _⟩ => RefK.ret (by kernel_rfl))))) hyp_
@[reducible] def ref04_Need_s0 (k : (Int → K)) (x2 : Int) : K :=
  k x2
@[reducible] def ref04_Need_s1 (k : (Int → K)) (n_1 : Int) : K :=
  ref04_Need_s0 k n_1
@[reducible] def ref04_Need_s2 (k : (Int → K)) (n : Int) (x10 : Bool) : K :=
  brK x10
  (ref04_Need_s1 k (IntKind.wrap .i64 (n + 1)))
  (ref04_Need_s1 k n)
@[reducible] def ref04_Need_s3 (words : Int) (k : (Int → K)) (n : Int) : K :=
  ref04_Need_s2 k n ((Int.tmod words 512) != 0)
@[reducible] def ref04_Need_s4 (k : (Int → K)) (x2_1 : Int) : K :=
  k x2_1
@[reducible] def ref04_Need_s5 (words : Int) (k : (Int → K)) (x5 : Bool) : K :=
  brK x5
  (ref04_Need_s4 k 0)
  (ref04_Need_s3 words k (IntKind.wrap .i64 (Int.tdiv words 512)))
@[reducible] def ref04_Need (words : Int) : M Int := fun k =>
  ref04_Need_s5 words k (decide (words < 1))
theorem ref04_Need_ok (words : Int) (k : Int → K) (w : World) (hyp_ : ref04_Need words k w) : c_ref04_Need words k w :=
  cl_of (P := Tryz.prog) Tryz.func159 rfl (by kernel_rfl)
  (RefK.seq [] [0] (fun z_ => [(0, .int .i64 words)]) (fun z_ => ref04_Need_s5 words k (decide (words < 1))) (by kernel_rfl) (fun _ => by kernel_rfl)
  (RefK.plain [] (by kernel_rfl))
  (fun _ => RefK.seq [] [0] (fun z_ => [(0, .int .i64 words)]) (fun z_ => ref04_Need_s3 words k (IntKind.wrap .i64 (Int.tdiv words 512))) (by kernel_rfl) (fun _ => by kernel_rfl)
  (RefK.seq [(5, .bool)] [0] (fun z_ => [(5, .bool z_.1), (0, .int .i64 words)]) (fun z_ => ref04_Need_s5 words k z_.1) (by kernel_rfl) (fun _ => by kernel_rfl)
  (RefK.plain [] (by kernel_rfl))
  (fun ⟨x5, _⟩ => RefK.cond (b := x5) (t1 := ref04_Need_s4 k 0) (t2 := ref04_Need_s3 words k (IntKind.wrap .i64 (Int.tdiv words 512))) (by kernel_rfl) (by kernel_rfl) (fun w h => brK_spec w h) (RefK.seq [(2, .int .i64)] [] (fun z_ => [(2, .int .i64 z_.1)]) (fun z_ => ref04_Need_s4 k z_.1) (by kernel_rfl) (fun _ => by kernel_rfl)
  (RefK.plain [] (by kernel_rfl))
  (fun ⟨x2_1, _⟩ => RefK.ret (by kernel_rfl))) (RefK.skip (by kernel_rfl))))
  (fun _ => RefK.seq [(3, .int .i64)] [0] (fun z_ => [(3, .int .i64 z_.1), (0, .int .i64 words)]) (fun z_ => ref04_Need_s3 words k z_.1) (by kernel_rfl) (fun _ => by kernel_rfl)
  (RefK.plain [] (by kernel_rfl))
  (fun ⟨n, _⟩ => RefK.seq [(3, .int .i64)] [] (fun z_ => [(3, .int .i64 z_.1)]) (fun z_ => ref04_Need_s1 k z_.1) (by kernel_rfl) (fun _ => by kernel_rfl)
  (RefK.seq [(10, .bool)] [3] (fun z_ => [(10, .bool z_.1), (3, .int .i64 n)]) (fun z_ => ref04_Need_s2 k n z_.1) (by kernel_rfl) (fun _ => by kernel_rfl)
  (RefK.plain [] (by kernel_rfl))
  (fun ⟨x10, _⟩ => RefK.cond (b := x10) (t1 := ref04_Need_s1 k (IntKind.wrap .i64 (n + 1))) (t2 := ref04_Need_s1 k n) (by kernel_rfl) (by kernel_rfl) (fun w h => brK_spec w h) (RefK.plain [] (by kernel_rfl)) (RefK.skip (by kernel_rfl))))
  (fun ⟨n_1, _⟩ => RefK.seq [(2, .int .i64)] [] (fun z_ => [(2, .int .i64 z_.1)]) (fun z_ => ref04_Need_s0 k z_.1) (by kernel_rfl) (fun _ => by kernel_rfl)
  (RefK.plain [] (by kernel_rfl))
  (fun ⟨x2, _⟩ => RefK.ret (by kernel_rfl))))))) hyp_
end Go.Proofs.YtdgcbapclnnkkaaGreat.X
end
section
/- Printed by a program of this session (gen.py): the functions of the dump over typed primitives, and that they serve for the model's code. No condition. -/
set_option maxRecDepth 100000
set_option linter.unusedVariables false
namespace Go.Proofs.YtdgcbapclnnkkaaGreat.X
open Go
@[reducible] def law29_PredictTells_s0 (k : (Bool → K)) (x6 : Bool) : K :=
  k x6
@[reducible] def law29_PredictTells_s1 (k : (Bool → K)) (x5 : Addr) (x7 : (Option Addr)) (x9 : Sl) : K :=
  tick fun _ =>
  c_predict_Small x7 32 fun x75 =>
  brK (x75 == 0)
  (c_predict_Small x7 (-1) fun x79 =>
  brK (x79 == 0)
  (c_predict_Large x7 0 fun x84 =>
  brK (x84 == 0)
  (ldI .i64 (Addr.add x5 1) fun x90 =>
  ldI .i64 (Addr.add x5 1) fun x94 =>
  c_predict_Large x7 x90 fun x91 =>
  chk [.cell (Addr.add x5 1) (.int .i64 x94)] fun _ =>
  c_ref29_Large x9 x94 fun x95 =>
  law29_PredictTells_s0 k (x91 == x95))
  (law29_PredictTells_s0 k false))
  (law29_PredictTells_s0 k false))
  (law29_PredictTells_s0 k false)
@[reducible] def law29_PredictTells_s2 (k : (Bool → K)) (x6_1 : Bool) : K :=
  k x6_1
@[reducible] def law29_PredictTells_s3 (k : (Bool → K)) (x5 : Addr) (x7 : (Option Addr)) (x9 : Sl) (x73 : Bool) : K :=
  brK x73
  (law29_PredictTells_s2 k false)
  (law29_PredictTells_s1 k x5 x7 x9)
@[reducible] def law29_PredictTells_s4 (k : (Bool → K)) (x5 : Addr) (x7 : (Option Addr)) (x9 : Sl) (x10 : Sl) (x11 : Int) (x12 : Int) (x13 : Int) (x14 : Int) : K :=
  tick fun _ =>
  brK (x11 != x13)
  (law29_PredictTells_s3 k x5 x7 x9 true)
  (brK (x12 != x14)
  (law29_PredictTells_s3 k x5 x7 x9 true)
  (c_predict_Greatest x7 fun x57 =>
  c_ref29_Greatest x9 x10 fun x60 =>
  brK (x57 != x60)
  (law29_PredictTells_s3 k x5 x7 x9 true)
  (ldI .i64 (Addr.add x5 0) fun x65_0 =>
  ldI .i64 (Addr.add x5 1) fun x65_1 =>
  ldI .i64 (Addr.add x5 0) fun x69_0 =>
  ldI .i64 (Addr.add x5 1) fun x69_1 =>
  c_predict_Object x7 (x65_0, x65_1) fun x66 =>
  chk [.cell (Addr.add x5 0) (.int .i64 x69_0), .cell (Addr.add x5 1) (.int .i64 x69_1)] fun _ =>
  c_law08_Ref (x69_0, x69_1) fun x70 =>
  c_ref29_Object x9 x10 (x70.1, x70.2) fun x71 =>
  law29_PredictTells_s3 k x5 x7 x9 (x66 != x71))))
@[reducible] def law29_PredictTells_s5 (k : (Bool → K)) (x5 : Addr) (x7 : (Option Addr)) (x9 : Sl) (x10 : Sl) (x11 : Int) (x12 : Int) : K :=
  c_ref29_Words x9 x10 fun x44 =>
  law29_PredictTells_s4 k x5 x7 x9 x10 x11 x12 x44.1 x44.2
@[reducible] def law29_PredictTells_s6 (k : (Bool → K)) (x5 : Addr) (x7 : (Option Addr)) (x9 : Sl) (x10 : Sl) : K :=
  c_predict_Words x7 fun x38 =>
  law29_PredictTells_s5 k x5 x7 x9 x10 x38.1 x38.2
@[reducible] def law29_PredictTells_s7 (k : (Bool → K)) (x5 : Addr) (x7 : (Option Addr)) : K :=
  nn x7 fun x26 =>
  ldP (Addr.add x26 0) fun x28 =>
  nn x28 fun x29 =>
  ldP (Addr.add x29 0) fun x31 =>
  c_blocks_Table_All x31 fun x32 =>
  c_law07_Refs x32 fun x33 =>
  c_alloc_Allocator_Objects x7 fun x35 =>
  law29_PredictTells_s6 k x5 x7 x33 x35
@[reducible] def law29_PredictTells_s8 (k : (Bool → K)) (x6_2 : Bool) : K :=
  k x6_2
@[reducible] def law29_PredictTells_s9 (k : (Bool → K)) (x5 : Addr) (x7 : (Option Addr)) (x24 : Bool) : K :=
  brK x24
  (law29_PredictTells_s8 k false)
  (law29_PredictTells_s7 k x5 x7)
@[reducible] def law29_PredictTells_s10 (k : (Bool → K)) (x5 : Addr) (x7 : (Option Addr)) (x8 : Bool) : K :=
  law29_PredictTells_s9 k x5 x7 (!x8)
@[reducible] def law29_PredictTells_s11 (x0 : Int) (x1 : Sl) (k : (Bool → K)) (x5 : Addr) : K :=
  c_law29_made x0 x1 fun x20 =>
  law29_PredictTells_s10 k x5 x20.1 x20.2
@[reducible] def law29_PredictTells_s12 (k : (Bool → K)) (x6_3 : Bool) : K :=
  k x6_3
@[reducible] def law29_PredictTells_s13 (x0 : Int) (x1 : Sl) (k : (Bool → K)) (x5 : Addr) (x16 : Bool) : K :=
  brK x16
  (law29_PredictTells_s12 k false)
  (law29_PredictTells_s11 x0 x1 k x5)
@[reducible] def law29_PredictTells_s14 (x0 : Int) (x1 : Sl) (k : (Bool → K)) (x5 : Addr) : K :=
  c_law29_awake fun x15 =>
  law29_PredictTells_s13 x0 x1 k x5 (!x15)
@[reducible] def law29_PredictTells (x0 : Int) (x1 : Sl) (x2 : (Int × Int)) : M Bool := fun k =>
  alK (.cells #[.int .i64 x2.1, .int .i64 x2.2] 68) fun b =>
  law29_PredictTells_s14 x0 x1 k ⟨b, 0, none⟩
theorem law29_PredictTells_ok (x0 : Int) (x1 : Sl) (x2 : (Int × Int)) (k : Bool → K) (w : World) (hyp_ : law29_PredictTells x0 x1 x2 k w) : c_law29_PredictTells x0 x1 x2 k w :=
  cl_of (P := Tryz.prog) Tryz.func6 rfl (by kernel_rfl)
  (RefK.seq [(5, .addr)] [0, 1] (fun z_ => [(5, .pointer (some z_.1)), (0, .int .u8 x0), (1, x1.v)]) (fun z_ => law29_PredictTells_s14 x0 x1 k z_.1) (by kernel_rfl) (fun _ => by kernel_rfl)
  (RefK.plain [] (by kernel_rfl))
  (fun ⟨x5, _⟩ => RefK.seq [] [0, 1, 5] (fun z_ => [(0, .int .u8 x0), (1, x1.v), (5, .pointer (some x5))]) (fun z_ => law29_PredictTells_s11 x0 x1 k x5) (by kernel_rfl) (fun _ => by kernel_rfl)
  (RefK.seq [(16, .bool)] [0, 1, 5] (fun z_ => [(16, .bool z_.1), (0, .int .u8 x0), (1, x1.v), (5, .pointer (some x5))]) (fun z_ => law29_PredictTells_s13 x0 x1 k x5 z_.1) (by kernel_rfl) (fun _ => by kernel_rfl)
  (RefK.plain [] (by kernel_rfl))
  (fun ⟨x16, _⟩ => RefK.cond (b := x16) (t1 := law29_PredictTells_s12 k false) (t2 := law29_PredictTells_s11 x0 x1 k x5) (by kernel_rfl) (by kernel_rfl) (fun w h => brK_spec w h) (RefK.seq [(6, .bool)] [] (fun z_ => [(6, .bool z_.1)]) (fun z_ => law29_PredictTells_s12 k z_.1) (by kernel_rfl) (fun _ => by kernel_rfl)
  (RefK.plain [] (by kernel_rfl))
  (fun ⟨x6_3, _⟩ => RefK.ret (by kernel_rfl))) (RefK.skip (by kernel_rfl))))
  (fun _ => RefK.seq [(7, .ptr), (8, .bool)] [5] (fun z_ => [(7, .pointer z_.1), (8, .bool z_.2.1), (5, .pointer (some x5))]) (fun z_ => law29_PredictTells_s10 k x5 z_.1 z_.2.1) (by kernel_rfl) (fun _ => by kernel_rfl)
  (RefK.plain [] (by kernel_rfl))
  (fun ⟨x7, x8, _⟩ => RefK.seq [] [5, 7] (fun z_ => [(5, .pointer (some x5)), (7, .pointer x7)]) (fun z_ => law29_PredictTells_s7 k x5 x7) (by kernel_rfl) (fun _ => by kernel_rfl)
  (RefK.seq [(24, .bool)] [5, 7] (fun z_ => [(24, .bool z_.1), (5, .pointer (some x5)), (7, .pointer x7)]) (fun z_ => law29_PredictTells_s9 k x5 x7 z_.1) (by kernel_rfl) (fun _ => by kernel_rfl)
  (RefK.plain [] (by kernel_rfl))
  (fun ⟨x24, _⟩ => RefK.cond (b := x24) (t1 := law29_PredictTells_s8 k false) (t2 := law29_PredictTells_s7 k x5 x7) (by kernel_rfl) (by kernel_rfl) (fun w h => brK_spec w h) (RefK.seq [(6, .bool)] [] (fun z_ => [(6, .bool z_.1)]) (fun z_ => law29_PredictTells_s8 k z_.1) (by kernel_rfl) (fun _ => by kernel_rfl)
  (RefK.plain [] (by kernel_rfl))
  (fun ⟨x6_2, _⟩ => RefK.ret (by kernel_rfl))) (RefK.skip (by kernel_rfl))))
  (fun _ => RefK.seq [(9, .slice), (10, .slice)] [5, 7] (fun z_ => [(9, z_.1.v), (10, z_.2.1.v), (5, .pointer (some x5)), (7, .pointer x7)]) (fun z_ => law29_PredictTells_s6 k x5 x7 z_.1 z_.2.1) (by kernel_rfl) (fun _ => by kernel_rfl)
  (RefK.plain [] (by kernel_rfl))
  (fun ⟨x9, x10, _⟩ => RefK.seq [(11, .int .i64), (12, .int .i64)] [5, 7, 9, 10] (fun z_ => [(11, .int .i64 z_.1), (12, .int .i64 z_.2.1), (5, .pointer (some x5)), (7, .pointer x7), (9, x9.v), (10, x10.v)]) (fun z_ => law29_PredictTells_s5 k x5 x7 x9 x10 z_.1 z_.2.1) (by kernel_rfl) (fun _ => by kernel_rfl)
  (RefK.plain [] (by kernel_rfl))
  (fun ⟨x11, x12, _⟩ => RefK.seq [(13, .int .i64), (14, .int .i64)] [5, 7, 9, 10, 11, 12] (fun z_ => [(13, .int .i64 z_.1), (14, .int .i64 z_.2.1), (5, .pointer (some x5)), (7, .pointer x7), (9, x9.v), (10, x10.v), (11, .int .i64 x11), (12, .int .i64 x12)]) (fun z_ => law29_PredictTells_s4 k x5 x7 x9 x10 x11 x12 z_.1 z_.2.1) (by kernel_rfl) (fun _ => by kernel_rfl)
  (RefK.plain [] (by kernel_rfl))
  (fun ⟨x13, x14, _⟩ => RefK.seq [] [5, 7, 9] (fun z_ => [(5, .pointer (some x5)), (7, .pointer x7), (9, x9.v)]) (fun z_ => law29_PredictTells_s1 k x5 x7 x9) (by kernel_rfl) (fun _ => by kernel_rfl)
  (RefK.seq [(73, .bool)] [5, 7, 9] (fun z_ => [(73, .bool z_.1), (5, .pointer (some x5)), (7, .pointer x7), (9, x9.v)]) (fun z_ => law29_PredictTells_s3 k x5 x7 x9 z_.1) (by kernel_rfl) (fun _ => by kernel_rfl)
  (RefK.draw [3, 8, 16] [0, 0, 3, 7, 15, 15, 63, 127, 255, 511, 1023, 511, 511, 8191, 16383, 32767, 65535, 131071, 131071, 524287, 131071, 131071, 131071, 5242879, 16777215, 33554431, 67108863] [0, 1, 2, 3, 4, 5, 6, 7, 8, 9, 11, 12, 10, 13, 14, 15, 16, 17, 18, 20, 21, 22, 19, 23, 24, 25, 26] [0, 1, 2, 3, 4, 5, 6, 7, 8, 9, 10, 11, 12, 13, 14, 15, 16, 17, 18, 19, 20, 21, 22, 23, 24, 25, 26] (by kernel_rfl) (by kernel_rfl))
  (fun ⟨x73, _⟩ => RefK.cond (b := x73) (t1 := law29_PredictTells_s2 k false) (t2 := law29_PredictTells_s1 k x5 x7 x9) (by kernel_rfl) (by kernel_rfl) (fun w h => brK_spec w h) (RefK.seq [(6, .bool)] [] (fun z_ => [(6, .bool z_.1)]) (fun z_ => law29_PredictTells_s2 k z_.1) (by kernel_rfl) (fun _ => by kernel_rfl)
  (RefK.plain [] (by kernel_rfl))
  (fun ⟨x6_1, _⟩ => RefK.ret (by kernel_rfl))) (RefK.skip (by kernel_rfl))))
  (fun _ => RefK.seq [(6, .bool)] [] (fun z_ => [(6, .bool z_.1)]) (fun z_ => law29_PredictTells_s0 k z_.1) (by kernel_rfl) (fun _ => by kernel_rfl)
  (RefK.draw [3, 8, 13] [0, 1, 3, 7, 15, 31, 63, 127, 255, 511, 1023, 2047, 4095, 8191, 16383, 16383, 49151, 131071, 16383, 16383, 540671, 2097151, 4194303, 8388607, 16777215] [0, 1, 2, 3, 4, 5, 6, 7, 8, 9, 10, 11, 12, 13, 14, 15, 16, 18, 19, 20, 17, 21, 22, 23, 24] [0, 1, 2, 3, 4, 5, 6, 7, 8, 9, 10, 11, 12, 13, 14, 15, 16, 17, 18, 19, 20, 21, 22, 23, 24] (by kernel_rfl) (by kernel_rfl))
  (fun ⟨x6, _⟩ => RefK.ret (by kernel_rfl))))))))))) hyp_
@[reducible] def law29_awake_s0 (k : (Bool → K)) (x0 : Bool) : K :=
  k x0
@[reducible] def law29_awake_s1 (k : (Bool → K)) (w_1 : Addr) (ok : Bool) : K :=
  brK ok
  (ldP (Addr.add w_1 0) fun x10 =>
  c_predict_Small x10 31 fun x11 =>
  law29_awake_s0 k (x11 == 2))
  (law29_awake_s0 k false)
@[reducible] def law29_awake_s2 (k : (Bool → K)) : K :=
  c_law20_Begun 2 fun x4 =>
  alK (.cells #[.pointer none, .pointer none, .slice none 0 0] 29) fun b =>
  stK (Addr.add ⟨b, 0, none⟩ 0) (.pointer x4.1.1) <|
  stK (Addr.add ⟨b, 0, none⟩ 1) (.pointer x4.1.2.1) <|
  stK (Addr.add ⟨b, 0, none⟩ 2) (x4.1.2.2.v) <|
  law29_awake_s1 k ⟨b, 0, none⟩ x4.2
@[reducible] def law29_awake : M Bool := fun k =>
  law29_awake_s2 k
theorem law29_awake_ok (k : Bool → K) (w : World) (hyp_ : law29_awake k w) : c_law29_awake k w :=
  cl_of (P := Tryz.prog) Tryz.func29 rfl (by kernel_rfl)
  (RefK.seq [] [] (fun z_ => []) (fun z_ => law29_awake_s2 k) (by kernel_rfl) (fun _ => by kernel_rfl)
  (RefK.plain [] (by kernel_rfl))
  (fun _ => RefK.seq [(1, .addr), (2, .bool)] [] (fun z_ => [(1, .pointer (some z_.1)), (2, .bool z_.2.1)]) (fun z_ => law29_awake_s1 k z_.1 z_.2.1) (by kernel_rfl) (fun _ => by kernel_rfl)
  (RefK.plain [] (by kernel_rfl))
  (fun ⟨w_1, ok, _⟩ => RefK.seq [(0, .bool)] [] (fun z_ => [(0, .bool z_.1)]) (fun z_ => law29_awake_s0 k z_.1) (by kernel_rfl) (fun _ => by kernel_rfl)
  (RefK.plain [1] (by kernel_rfl))
  (fun ⟨x0, _⟩ => RefK.ret (by kernel_rfl))))) hyp_
@[reducible] def law29_made_s0 (k : (((Option Addr) × Bool) → K)) (x4 : (Option Addr)) (x5 : Bool) : K :=
  k (x4, x5)
@[reducible] def law29_made_s1 (k : (((Option Addr) × Bool) → K)) (x6 : Addr) (x7 : Bool) : K :=
  ldP (Addr.add x6 0) fun x80 =>
  law29_made_s0 k x80 x7
@[reducible] def law29_made_s2 (x6 : Addr) (x8_1 : Int) (c : ((Int × Unit) → K)) (x9 : Addr) (x10 : Sl) : K :=
  tick fun _ =>
  ldP (Addr.add x6 0) fun x67 =>
  ldI .i64 (Addr.add x9 1) fun x69 =>
  ldI .i64 (Addr.add x9 2) fun x72 =>
  nz ((x10.n : Nat) : Int) <|
  ixS x10.p x10.n (Int.tmod x72 ((x10.n : Nat) : Int)) 1 fun x76 =>
  ldI .i64 x76 fun x77 =>
  c_alloc_Allocator_Free x67 x69 x77 fun x78 =>
  c ((IntKind.wrap .i64 (x8_1 + 1)), ())
@[reducible] def law29_made_s3 (x6 : Addr) (x8_1 : Int) (c : ((Int × Unit) → K)) (x9 : Addr) (x10 : Sl) (x65 : Bool) : K :=
  brK x65
  (law29_made_s2 x6 x8_1 c x9 x10)
  (c ((IntKind.wrap .i64 (x8_1 + 1)), ()))
@[reducible] def law29_made_s4 (x6 : Addr) (x8_1 : Int) (c : ((Int × Unit) → K)) (x9 : Addr) (x10 : Sl) : K :=
  brK (decide (((x10.n : Nat) : Int) > 0))
  (ldI .i64 (Addr.add x9 2) fun x63 =>
  law29_made_s3 x6 x8_1 c x9 x10 (decide (x63 ≥ 0)))
  (law29_made_s3 x6 x8_1 c x9 x10 false)
@[reducible] def law29_made_s5 (x6 : Addr) (x8_1 : Int) (c : ((Int × Unit) → K)) (x9 : Addr) (x10 : Sl) (x56 : Bool) : K :=
  brK x56
  (law29_made_s4 x6 x8_1 c x9 x10)
  (c ((IntKind.wrap .i64 (x8_1 + 1)), ()))
@[reducible] def law29_made_s6 (x6 : Addr) (x8_1 : Int) (c : ((Int × Unit) → K)) (x9 : Addr) : K :=
  ldP (Addr.add x6 0) fun x44 =>
  ldI .i64 (Addr.add x9 1) fun x46 =>
  ldI .i64 (Addr.add x9 2) fun x48 =>
  ldI .i64 (Addr.add x9 3) fun x52 =>
  c_alloc_Allocator_Alloc x44 x46 (min2I (max2I x48 0) 63) (min2I (max2I x52 0) 1500) fun x55 =>
  c ((IntKind.wrap .i64 (x8_1 + 1)), ())
@[reducible] def law29_made_s7 (x6 : Addr) (x8_1 : Int) (c : ((Int × Unit) → K)) (x9 : Addr) (x10 : Sl) (x40 : Int) (x41 : Bool) : K :=
  brK x41
  (law29_made_s6 x6 x8_1 c x9)
  (law29_made_s5 x6 x8_1 c x9 x10 (x40 == 1))
@[reducible] def law29_made_s8 (x6 : Addr) (x8_1 : Int) (c : ((Int × Unit) → K)) (x9 : Addr) (x10 : Sl) (x40 : Int) : K :=
  law29_made_s7 x6 x8_1 c x9 x10 x40 (x40 == 0)
@[reducible] def law29_made_s9 (x6 : Addr) (x8_1 : Int) (c : ((Int × Unit) → K)) (x9 : Addr) (x10 : Sl) : K :=
  ldI .i64 (Addr.add x9 0) fun x40_1 =>
  law29_made_s8 x6 x8_1 c x9 x10 x40_1
@[reducible] def law29_made_s10 (x6 : Addr) (x8_1 : Int) (c : ((Int × Unit) → K)) (x9 : Addr) : K :=
  ldP (Addr.add x6 0) fun x37 =>
  c_alloc_Allocator_Objects x37 fun x38 =>
  law29_made_s9 x6 x8_1 c x9 x38
@[reducible] def law29_made_s11 (x1 : Sl) (x6 : Addr) (x8_1 : Int) (c : ((Int × Unit) → K)) : K :=
  ixS x1.p x1.n x8_1 4 fun x34 =>
  ldI .i64 (Addr.add x34 0) fun x35_0 =>
  ldI .i64 (Addr.add x34 1) fun x35_1 =>
  ldI .i64 (Addr.add x34 2) fun x35_2 =>
  ldI .i64 (Addr.add x34 3) fun x35_3 =>
  alK (.cells #[.int .i64 0, .int .i64 0, .int .i64 0, .int .i64 0] 137) fun b =>
  stK (Addr.add ⟨b, 0, none⟩ 0) (.int .i64 x35_0) <|
  stK (Addr.add ⟨b, 0, none⟩ 1) (.int .i64 x35_1) <|
  stK (Addr.add ⟨b, 0, none⟩ 2) (.int .i64 x35_2) <|
  stK (Addr.add ⟨b, 0, none⟩ 3) (.int .i64 x35_3) <|
  law29_made_s10 x6 x8_1 c ⟨b, 0, none⟩
@[reducible] def law29_made_s12 (x1 : Sl) (k : (((Option Addr) × Bool) → K)) (x6 : Addr) (x7 : Bool) (x8_1 : Int) (c : ((Int × Unit) → K)) (x29 : Bool) : K :=
  brK x29
  (law29_made_s11 x1 x6 x8_1 c)
  (law29_made_s1 k x6 x7)
@[reducible] def law29_made_l13 (x1 : Sl) (k : (((Option Addr) × Bool) → K)) (x6 : Addr) (x7 : Bool) (x8_1 : Int) (c : ((Int × Unit) → K)) : K :=
  brK x7
  (brK (decide (x8_1 < ((x1.n : Nat) : Int)))
  (law29_made_s12 x1 k x6 x7 x8_1 c (decide (x8_1 < 40)))
  (law29_made_s12 x1 k x6 x7 x8_1 c false))
  (law29_made_s12 x1 k x6 x7 x8_1 c false)
@[reducible] def law29_made_s14 (x1 : Sl) (k : (((Option Addr) × Bool) → K)) (x6 : Addr) (x7 : Bool) (x8 : Int) : K :=
  lp (fun (z_ : (Int × Unit)) c_ => law29_made_l13 x1 k x6 x7 z_.1 c_) (x8, ())
@[reducible] def law29_made_s15 (x1 : Sl) (k : (((Option Addr) × Bool) → K)) (x6 : Addr) (x7 : Bool) : K :=
  law29_made_s14 x1 k x6 x7 0
@[reducible] def law29_made_s16 (x0 : Int) (x1 : Sl) (k : (((Option Addr) × Bool) → K)) : K :=
  c_law20_Begun (IntKind.wrap .i64 (2 + (IntKind.wrap .i64 (Int.tmod x0 7)))) fun x16 =>
  alK (.cells #[.pointer none, .pointer none, .slice none 0 0] 29) fun b_1 =>
  stK (Addr.add ⟨b_1, 0, none⟩ 0) (.pointer x16.1.1) <|
  stK (Addr.add ⟨b_1, 0, none⟩ 1) (.pointer x16.1.2.1) <|
  stK (Addr.add ⟨b_1, 0, none⟩ 2) (x16.1.2.2.v) <|
  law29_made_s15 x1 k ⟨b_1, 0, none⟩ x16.2
@[reducible] def law29_made (x0 : Int) (x1 : Sl) : M ((Option Addr) × Bool) := fun k =>
  law29_made_s16 x0 x1 k
theorem law29_made_ok (x0 : Int) (x1 : Sl) (k : ((Option Addr) × Bool) → K) (w : World) (hyp_ : law29_made x0 x1 k w) : c_law29_made x0 x1 k w :=
  cl_of (P := Tryz.prog) Tryz.func30 rfl (by kernel_rfl)
  (RefK.seq [] [0, 1] (fun z_ => [(0, .int .u8 x0), (1, x1.v)]) (fun z_ => law29_made_s16 x0 x1 k) (by kernel_rfl) (fun _ => by kernel_rfl)
  (RefK.plain [] (by kernel_rfl))
  (fun _ => RefK.seq [(6, .addr), (7, .bool)] [1] (fun z_ => [(6, .pointer (some z_.1)), (7, .bool z_.2.1), (1, x1.v)]) (fun z_ => law29_made_s15 x1 k z_.1 z_.2.1) (by kernel_rfl) (fun _ => by kernel_rfl)
  (RefK.plain [] (by kernel_rfl))
  (fun ⟨x6, x7, _⟩ => RefK.seq [] [6, 7] (fun z_ => [(6, .pointer (some x6)), (7, .bool x7)]) (fun z_ => law29_made_s1 k x6 x7) (by kernel_rfl) (fun _ => by kernel_rfl)
  (RefK.seq [(8, .int .i64)] [1, 6, 7] (fun z_ => [(8, .int .i64 z_.1), (1, x1.v), (6, .pointer (some x6)), (7, .bool x7)]) (fun z_ => law29_made_s14 x1 k x6 x7 z_.1) (by kernel_rfl) (fun _ => by kernel_rfl)
  (RefK.plain [] (by kernel_rfl))
  (fun ⟨x8, _⟩ => RefK.block (RefK.loop [(8, .int .i64)] [1, 6, 7] (fun z_ => [(8, .int .i64 z_.1), (1, x1.v), (6, .pointer (some x6)), (7, .bool x7)]) (fun (z_ : (Int × Unit)) c_ => law29_made_l13 x1 k x6 x7 z_.1 c_) (x8, ()) (by kernel_rfl) (fun _ => by kernel_rfl) (by kernel_rfl) (by kernel_rfl)
  (fun ⟨x8_1, _⟩ c => RefK.seq [] [1, 6, 7, 8] (fun z_ => [(1, x1.v), (6, .pointer (some x6)), (7, .bool x7), (8, .int .i64 x8_1)]) (fun z_ => law29_made_s11 x1 x6 x8_1 c) (by kernel_rfl) (fun _ => by kernel_rfl)
  (RefK.seq [(29, .bool)] [1, 6, 7, 8] (fun z_ => [(29, .bool z_.1), (1, x1.v), (6, .pointer (some x6)), (7, .bool x7), (8, .int .i64 x8_1)]) (fun z_ => law29_made_s12 x1 k x6 x7 x8_1 c z_.1) (by kernel_rfl) (fun _ => by kernel_rfl)
  (RefK.plain [1, 7] (by kernel_rfl))
  (fun ⟨x29, _⟩ => RefK.cond (b := x29) (t1 := law29_made_s11 x1 x6 x8_1 c) (t2 := law29_made_s1 k x6 x7) (by kernel_rfl) (by kernel_rfl) (fun w h => brK_spec w h) (RefK.skip (by kernel_rfl)) (RefK.exit (by kernel_rfl))))
  (fun _ => RefK.seq [] [1, 6, 7, 8] (fun z_ => [(1, x1.v), (6, .pointer (some x6)), (7, .bool x7), (8, .int .i64 x8_1)]) (fun z_ => c ((IntKind.wrap .i64 (x8_1 + 1)), ())) (by kernel_rfl) (fun _ => by kernel_rfl)
  (RefK.block (RefK.seq [(9, .addr)] [1, 6, 7, 8] (fun z_ => [(9, .pointer (some z_.1)), (1, x1.v), (6, .pointer (some x6)), (7, .bool x7), (8, .int .i64 x8_1)]) (fun z_ => law29_made_s10 x6 x8_1 c z_.1) (by kernel_rfl) (fun _ => by kernel_rfl)
  (RefK.plain [] (by kernel_rfl))
  (fun ⟨x9, _⟩ => RefK.seq [(10, .slice)] [1, 6, 7, 8, 9] (fun z_ => [(10, z_.1.v), (1, x1.v), (6, .pointer (some x6)), (7, .bool x7), (8, .int .i64 x8_1), (9, .pointer (some x9))]) (fun z_ => law29_made_s9 x6 x8_1 c x9 z_.1) (by kernel_rfl) (fun _ => by kernel_rfl)
  (RefK.plain [] (by kernel_rfl))
  (fun ⟨x10, _⟩ => RefK.seq [(40, .int .i64)] [1, 6, 7, 8, 9, 10] (fun z_ => [(40, .int .i64 z_.1), (1, x1.v), (6, .pointer (some x6)), (7, .bool x7), (8, .int .i64 x8_1), (9, .pointer (some x9)), (10, x10.v)]) (fun z_ => law29_made_s8 x6 x8_1 c x9 x10 z_.1) (by kernel_rfl) (fun _ => by kernel_rfl)
  (RefK.plain [] (by kernel_rfl))
  (fun ⟨x40, _⟩ => RefK.block (RefK.seq [(41, .bool)] [1, 6, 7, 8, 9, 10, 40] (fun z_ => [(41, .bool z_.1), (1, x1.v), (6, .pointer (some x6)), (7, .bool x7), (8, .int .i64 x8_1), (9, .pointer (some x9)), (10, x10.v), (40, .int .i64 x40)]) (fun z_ => law29_made_s7 x6 x8_1 c x9 x10 x40 z_.1) (by kernel_rfl) (fun _ => by kernel_rfl)
  (RefK.plain [] (by kernel_rfl))
  (fun ⟨x41, _⟩ => RefK.cond (b := x41) (t1 := law29_made_s6 x6 x8_1 c x9) (t2 := law29_made_s5 x6 x8_1 c x9 x10 (x40 == 1)) (by kernel_rfl) (by kernel_rfl) (fun w h => brK_spec w h) (RefK.plain [] (by kernel_rfl)) (RefK.seq [(56, .bool)] [1, 6, 7, 8, 9, 10] (fun z_ => [(56, .bool z_.1), (1, x1.v), (6, .pointer (some x6)), (7, .bool x7), (8, .int .i64 x8_1), (9, .pointer (some x9)), (10, x10.v)]) (fun z_ => law29_made_s5 x6 x8_1 c x9 x10 z_.1) (by kernel_rfl) (fun _ => by kernel_rfl)
  (RefK.plain [] (by kernel_rfl))
  (fun ⟨x56, _⟩ => RefK.cond (b := x56) (t1 := law29_made_s4 x6 x8_1 c x9 x10) (t2 := c ((IntKind.wrap .i64 (x8_1 + 1)), ())) (by kernel_rfl) (by kernel_rfl) (fun w h => brK_spec w h) (RefK.seq [(65, .bool)] [1, 6, 7, 8, 9, 10] (fun z_ => [(65, .bool z_.1), (1, x1.v), (6, .pointer (some x6)), (7, .bool x7), (8, .int .i64 x8_1), (9, .pointer (some x9)), (10, x10.v)]) (fun z_ => law29_made_s3 x6 x8_1 c x9 x10 z_.1) (by kernel_rfl) (fun _ => by kernel_rfl)
  (RefK.plain [3] (by kernel_rfl))
  (fun ⟨x65, _⟩ => RefK.cond (b := x65) (t1 := law29_made_s2 x6 x8_1 c x9 x10) (t2 := c ((IntKind.wrap .i64 (x8_1 + 1)), ())) (by kernel_rfl) (by kernel_rfl) (fun w h => brK_spec w h) (RefK.draw [] [0, 1, 0, 4, 0, 0, 32, 0, 128, 480, 1008, 2032, 4095] [0, 1, 2, 3, 4, 5, 6, 7, 8, 9, 10, 11, 12] [0, 1, 2, 3, 4, 5, 6, 7, 8, 9, 10, 11, 12] (by kernel_rfl) (by kernel_rfl)) (RefK.skip (by kernel_rfl)))) (RefK.skip (by kernel_rfl)))))))))))
  (fun _ => RefK.plain [] (by kernel_rfl)))))))
  (fun _ => RefK.seq [(4, .ptr), (5, .bool)] [] (fun z_ => [(4, .pointer z_.1), (5, .bool z_.2.1)]) (fun z_ => law29_made_s0 k z_.1 z_.2.1) (by kernel_rfl) (fun _ => by kernel_rfl)
  (RefK.plain [] (by kernel_rfl))
  (fun ⟨x4, x5, _⟩ => RefK.ret (by kernel_rfl)))))) hyp_
@[reducible] def law08_Ref_s0 (k : ((Int × Int) → K)) (x2 : Addr) : K :=
  ldI .i64 (Addr.add x2 0) fun x2_0 =>
  ldI .i64 (Addr.add x2 1) fun x2_1 =>
  k (x2_0, x2_1)
@[reducible] def law08_Ref_s1 (k : ((Int × Int) → K)) (o_1 : Addr) (x2 : Addr) : K :=
  ldI .i64 (Addr.add o_1 0) fun x4 =>
  ldI .i64 (Addr.add o_1 1) fun x6 =>
  stK (Addr.add x2 0) (.int .i64 x4) <|
  stK (Addr.add x2 1) (.int .i64 x6) <|
  law08_Ref_s0 k x2
@[reducible] def law08_Ref (o : (Int × Int)) : M (Int × Int) := fun k =>
  alK (.cells #[.int .i64 o.1, .int .i64 o.2] 68) fun b =>
  alK (.cells #[.int .i64 0, .int .i64 0] 74) fun b_1 =>
  law08_Ref_s1 k ⟨b, 0, none⟩ ⟨b_1, 0, none⟩
theorem law08_Ref_ok (o : (Int × Int)) (k : (Int × Int) → K) (w : World) (hyp_ : law08_Ref o k w) : c_law08_Ref o k w :=
  cl_of (P := Tryz.prog) Tryz.func33 rfl (by kernel_rfl)
  (RefK.seq [(1, .addr), (2, .addr)] [] (fun z_ => [(1, .pointer (some z_.1)), (2, .pointer (some z_.2.1))]) (fun z_ => law08_Ref_s1 k z_.1 z_.2.1) (by kernel_rfl) (fun _ => by kernel_rfl)
  (RefK.plain [] (by kernel_rfl))
  (fun ⟨o_1, x2, _⟩ => RefK.seq [] [2] (fun z_ => [(2, .pointer (some x2))]) (fun z_ => law08_Ref_s0 k x2) (by kernel_rfl) (fun _ => by kernel_rfl)
  (RefK.plain [] (by kernel_rfl))
  (fun _ => RefK.ret (by kernel_rfl)))) hyp_
@[reducible] def law07_Refs_s0 (k : (Sl → K)) (x2 : Sl) : K :=
  k x2
@[reducible] def law07_Refs_s1 (k : (Sl → K)) (out_1 : Sl) : K :=
  law07_Refs_s0 k out_1
@[reducible] def law07_Refs_s2 (i_1 : Int) (c : ((Sl × Int × Unit) → K)) (out_3 : Sl) : K :=
  c (out_3, (IntKind.wrap .i64 (i_1 + 1)), ())
@[reducible] def law07_Refs_s3 (l : Sl) (out_2 : Sl) (i_1 : Int) (c : ((Sl × Int × Unit) → K)) : K :=
  ixS l.p l.n i_1 3 fun x14 =>
  ldI .i64 (Addr.add x14 0) fun x15_0 =>
  ldI .i64 (Addr.add x14 1) fun x15_1 =>
  ldI .i64 (Addr.add x14 2) fun x15_2 =>
  c_law07_Ref (x15_0, (x15_1, x15_2)) fun x16 =>
  alK (.cells #[.int .i64 x16.1, .int .i64 x16.2.1, .int .i64 x16.2.2] 141) fun b =>
  semT Tryz.prog (Builtin.append_ #[78, 78] 78 #[out_2.v, .slice (some ⟨b, 0, none⟩) 1 1]) (.one (.sc (.slice))) fun x18 =>
  law07_Refs_s2 i_1 c x18
@[reducible] def law07_Refs_s4 (l : Sl) (k : (Sl → K)) (out_2 : Sl) (i_1 : Int) (c : ((Sl × Int × Unit) → K)) (x8 : Bool) : K :=
  brK x8
  (law07_Refs_s3 l out_2 i_1 c)
  (law07_Refs_s1 k out_2)
@[reducible] def law07_Refs_l5 (l : Sl) (k : (Sl → K)) (out_2 : Sl) (i_1 : Int) (c : ((Sl × Int × Unit) → K)) : K :=
  law07_Refs_s4 l k out_2 i_1 c (decide (i_1 < ((l.n : Nat) : Int)))
@[reducible] def law07_Refs_s6 (l : Sl) (k : (Sl → K)) (out : Sl) (i : Int) : K :=
  lp (fun (z_ : (Sl × Int × Unit)) c_ => law07_Refs_l5 l k z_.1 z_.2.1 c_) (out, i, ())
@[reducible] def law07_Refs_s7 (l : Sl) (k : (Sl → K)) (out : Sl) : K :=
  law07_Refs_s6 l k out 0
@[reducible] def law07_Refs (l : Sl) : M Sl := fun k =>
  law07_Refs_s7 l k ⟨none, 0, 0⟩
theorem law07_Refs_ok (l : Sl) (k : Sl → K) (w : World) (hyp_ : law07_Refs l k w) : c_law07_Refs l k w :=
  cl_of (P := Tryz.prog) Tryz.func35 rfl (by kernel_rfl)
  (RefK.seq [] [0] (fun z_ => [(0, l.v)]) (fun z_ => law07_Refs_s7 l k ⟨none, 0, 0⟩) (by kernel_rfl) (fun _ => by kernel_rfl)
  (RefK.plain [] (by kernel_rfl))
  (fun _ => RefK.seq [(3, .slice)] [0] (fun z_ => [(3, z_.1.v), (0, l.v)]) (fun z_ => law07_Refs_s7 l k z_.1) (by kernel_rfl) (fun _ => by kernel_rfl)
  (RefK.plain [] (by kernel_rfl))
  (fun ⟨out, _⟩ => RefK.seq [(3, .slice)] [] (fun z_ => [(3, z_.1.v)]) (fun z_ => law07_Refs_s1 k z_.1) (by kernel_rfl) (fun _ => by kernel_rfl)
  (RefK.seq [(4, .int .i64)] [0, 3] (fun z_ => [(4, .int .i64 z_.1), (0, l.v), (3, out.v)]) (fun z_ => law07_Refs_s6 l k out z_.1) (by kernel_rfl) (fun _ => by kernel_rfl)
  (RefK.plain [] (by kernel_rfl))
  (fun ⟨i, _⟩ => RefK.block (RefK.loop [(3, .slice), (4, .int .i64)] [0] (fun z_ => [(3, z_.1.v), (4, .int .i64 z_.2.1), (0, l.v)]) (fun (z_ : (Sl × Int × Unit)) c_ => law07_Refs_l5 l k z_.1 z_.2.1 c_) (out, i, ()) (by kernel_rfl) (fun _ => by kernel_rfl) (by kernel_rfl) (by kernel_rfl)
  (fun ⟨out_2, i_1, _⟩ c => RefK.seq [] [0, 3, 4] (fun z_ => [(0, l.v), (3, out_2.v), (4, .int .i64 i_1)]) (fun z_ => law07_Refs_s3 l out_2 i_1 c) (by kernel_rfl) (fun _ => by kernel_rfl)
  (RefK.seq [(8, .bool)] [0, 3, 4] (fun z_ => [(8, .bool z_.1), (0, l.v), (3, out_2.v), (4, .int .i64 i_1)]) (fun z_ => law07_Refs_s4 l k out_2 i_1 c z_.1) (by kernel_rfl) (fun _ => by kernel_rfl)
  (RefK.plain [] (by kernel_rfl))
  (fun ⟨x8, _⟩ => RefK.cond (b := x8) (t1 := law07_Refs_s3 l out_2 i_1 c) (t2 := law07_Refs_s1 k out_2) (by kernel_rfl) (by kernel_rfl) (fun w h => brK_spec w h) (RefK.skip (by kernel_rfl)) (RefK.exit (by kernel_rfl))))
  (fun _ => RefK.seq [(3, .slice)] [0, 4] (fun z_ => [(3, z_.1.v), (0, l.v), (4, .int .i64 i_1)]) (fun z_ => law07_Refs_s2 i_1 c z_.1) (by kernel_rfl) (fun _ => by kernel_rfl)
  (RefK.block (RefK.plain [] (by kernel_rfl)))
  (fun ⟨out_3, _⟩ => RefK.plain [] (by kernel_rfl)))))))
  (fun ⟨out_1, _⟩ => RefK.seq [(2, .slice)] [] (fun z_ => [(2, z_.1.v)]) (fun z_ => law07_Refs_s0 k z_.1) (by kernel_rfl) (fun _ => by kernel_rfl)
  (RefK.plain [] (by kernel_rfl))
  (fun ⟨x2, _⟩ => RefK.ret (by kernel_rfl)))))) hyp_
@[reducible] def law20_Begun_s0 (k : ((((Option Addr) × ((Option Addr) × Sl)) × Bool) → K)) (x2 : Addr) (x3 : Bool) : K :=
  ldP (Addr.add x2 0) fun x2_0 =>
  ldP (Addr.add x2 1) fun x2_1 =>
  ldS (Addr.add x2 2) fun x2_2 =>
  k ((x2_0, (x2_1, x2_2)), x3)
@[reducible] def law20_Begun_s1 (k : ((((Option Addr) × ((Option Addr) × Sl)) × Bool) → K)) (x2 : Addr) (d : (Option Addr)) (e_1 : Int) (a : (Option Addr)) : K :=
  tick fun _ =>
  brK (e_1 == 0)
  (brK (!(Option.isNone a))
  (nn a fun x53 =>
  ldP (Addr.add x53 0) fun x55 =>
  stK (Addr.add x2 0) (.pointer a) <|
  stK (Addr.add x2 1) (.pointer d) <|
  stK (Addr.add x2 2) (.slice none 0 0) <|
  chk [.cell (Addr.add x53 0) (.pointer x55)] fun _ =>
  law20_Begun_s0 k x2 (!(Option.isNone x55)))
  (stK (Addr.add x2 0) (.pointer a) <|
  stK (Addr.add x2 1) (.pointer d) <|
  stK (Addr.add x2 2) (.slice none 0 0) <|
  law20_Begun_s0 k x2 false))
  (stK (Addr.add x2 0) (.pointer a) <|
  stK (Addr.add x2 1) (.pointer d) <|
  stK (Addr.add x2 2) (.slice none 0 0) <|
  law20_Begun_s0 k x2 false)
@[reducible] def law20_Begun_s2 (k : ((((Option Addr) × ((Option Addr) × Sl)) × Bool) → K)) (x2 : Addr) (d : (Option Addr)) (m : (Option Addr)) : K :=
  c_alloc_New d m ⟨none, 0, 0⟩ fun x39 =>
  law20_Begun_s1 k x2 d x39.2 x39.1
@[reducible] def law20_Begun_s3 (k : ((((Option Addr) × ((Option Addr) × Sl)) × Bool) → K)) (x2 : Addr) (x3_1 : Bool) : K :=
  ldP (Addr.add x2 0) fun x2_0_1 =>
  ldP (Addr.add x2 1) fun x2_1_1 =>
  ldS (Addr.add x2 2) fun x2_2_1 =>
  k ((x2_0_1, (x2_1_1, x2_2_1)), x3_1)
@[reducible] def law20_Begun_s4 (k : ((((Option Addr) × ((Option Addr) × Sl)) × Bool) → K)) (x2 : Addr) : K :=
  stK (Addr.add x2 0) (.pointer none) <|
  stK (Addr.add x2 1) (.pointer none) <|
  stK (Addr.add x2 2) (.slice none 0 0) <|
  law20_Begun_s3 k x2 false
@[reducible] def law20_Begun_s5 (k : ((((Option Addr) × ((Option Addr) × Sl)) × Bool) → K)) (x2 : Addr) (d : (Option Addr)) (m : (Option Addr)) (x34 : Bool) : K :=
  brK x34
  (law20_Begun_s4 k x2)
  (law20_Begun_s2 k x2 d m)
@[reducible] def law20_Begun_s6 (k : ((((Option Addr) × ((Option Addr) × Sl)) × Bool) → K)) (x2 : Addr) (d : (Option Addr)) (m : (Option Addr)) (e : Int) : K :=
  brK (e != 0)
  (law20_Begun_s5 k x2 d m true)
  (law20_Begun_s5 k x2 d m (Option.isNone m))
@[reducible] def law20_Begun_s7 (k : ((((Option Addr) × ((Option Addr) × Sl)) × Bool) → K)) (x2 : Addr) (g : Addr) (d : (Option Addr)) : K :=
  ldI .i64 (Addr.add g 0) fun x25_0 =>
  c_bman_Open d x25_0 fun x26 =>
  law20_Begun_s6 k x2 d x26.1 x26.2
@[reducible] def law20_Begun_s8 (k : ((((Option Addr) × ((Option Addr) × Sl)) × Bool) → K)) (x2 : Addr) (x3_2 : Bool) : K :=
  ldP (Addr.add x2 0) fun x2_0_2 =>
  ldP (Addr.add x2 1) fun x2_1_2 =>
  ldS (Addr.add x2 2) fun x2_2_2 =>
  k ((x2_0_2, (x2_1_2, x2_2_2)), x3_2)
@[reducible] def law20_Begun_s9 (k : ((((Option Addr) × ((Option Addr) × Sl)) × Bool) → K)) (x2 : Addr) : K :=
  stK (Addr.add x2 0) (.pointer none) <|
  stK (Addr.add x2 1) (.pointer none) <|
  stK (Addr.add x2 2) (.slice none 0 0) <|
  law20_Begun_s8 k x2 false
@[reducible] def law20_Begun_s10 (k : ((((Option Addr) × ((Option Addr) × Sl)) × Bool) → K)) (x2 : Addr) (g : Addr) (d : (Option Addr)) (x21 : Bool) : K :=
  brK x21
  (law20_Begun_s9 k x2)
  (law20_Begun_s7 k x2 g d)
@[reducible] def law20_Begun_s11 (k : ((((Option Addr) × ((Option Addr) × Sl)) × Bool) → K)) (x2 : Addr) (g : Addr) (d : (Option Addr)) : K :=
  brK (Option.isNone d)
  (law20_Begun_s10 k x2 g d true)
  (ldI .i64 (Addr.add g 0) fun x18_0 =>
  c_blocks_Format d x18_0 fun x19 =>
  law20_Begun_s10 k x2 g d (x19 != 0))
@[reducible] def law20_Begun_s12 (k : ((((Option Addr) × ((Option Addr) × Sl)) × Bool) → K)) (x2 : Addr) (g : Addr) : K :=
  ldI .i64 (Addr.add g 0) fun x11_0 =>
  c_geom_Geometry_Words x11_0 fun x12 =>
  c_nvm_New x12 fun x13 =>
  law20_Begun_s11 k x2 g x13
@[reducible] def law20_Begun_s13 (n : Int) (k : ((((Option Addr) × ((Option Addr) × Sl)) × Bool) → K)) (x2 : Addr) : K :=
  alK (.cells #[.int .i64 0] 43) fun b =>
  stK (Addr.add ⟨b, 0, none⟩ 0) (.int .i64 n) <|
  law20_Begun_s12 k x2 ⟨b, 0, none⟩
@[reducible] def law20_Begun (n : Int) : M (((Option Addr) × ((Option Addr) × Sl)) × Bool) := fun k =>
  alK (.cells #[.pointer none, .pointer none, .slice none 0 0] 29) fun b_1 =>
  law20_Begun_s13 n k ⟨b_1, 0, none⟩
theorem law20_Begun_ok (n : Int) (k : (((Option Addr) × ((Option Addr) × Sl)) × Bool) → K) (w : World) (hyp_ : law20_Begun n k w) : c_law20_Begun n k w :=
  cl_of (P := Tryz.prog) Tryz.func59 rfl (by kernel_rfl)
  (RefK.seq [(2, .addr)] [0] (fun z_ => [(2, .pointer (some z_.1)), (0, .int .i64 n)]) (fun z_ => law20_Begun_s13 n k z_.1) (by kernel_rfl) (fun _ => by kernel_rfl)
  (RefK.plain [] (by kernel_rfl))
  (fun ⟨x2, _⟩ => RefK.seq [(4, .addr)] [2] (fun z_ => [(4, .pointer (some z_.1)), (2, .pointer (some x2))]) (fun z_ => law20_Begun_s12 k x2 z_.1) (by kernel_rfl) (fun _ => by kernel_rfl)
  (RefK.plain [] (by kernel_rfl))
  (fun ⟨g, _⟩ => RefK.seq [(5, .ptr)] [2, 4] (fun z_ => [(5, .pointer z_.1), (2, .pointer (some x2)), (4, .pointer (some g))]) (fun z_ => law20_Begun_s11 k x2 g z_.1) (by kernel_rfl) (fun _ => by kernel_rfl)
  (RefK.plain [] (by kernel_rfl))
  (fun ⟨d, _⟩ => RefK.seq [] [2, 4, 5] (fun z_ => [(2, .pointer (some x2)), (4, .pointer (some g)), (5, .pointer d)]) (fun z_ => law20_Begun_s7 k x2 g d) (by kernel_rfl) (fun _ => by kernel_rfl)
  (RefK.seq [(21, .bool)] [2, 4, 5] (fun z_ => [(21, .bool z_.1), (2, .pointer (some x2)), (4, .pointer (some g)), (5, .pointer d)]) (fun z_ => law20_Begun_s10 k x2 g d z_.1) (by kernel_rfl) (fun _ => by kernel_rfl)
  (RefK.plain [2] (by kernel_rfl))
  (fun ⟨x21, _⟩ => RefK.cond (b := x21) (t1 := law20_Begun_s9 k x2) (t2 := law20_Begun_s7 k x2 g d) (by kernel_rfl) (by kernel_rfl) (fun w h => brK_spec w h) (RefK.seq [(3, .bool)] [2] (fun z_ => [(3, .bool z_.1), (2, .pointer (some x2))]) (fun z_ => law20_Begun_s8 k x2 z_.1) (by kernel_rfl) (fun _ => by kernel_rfl)
  (RefK.plain [] (by kernel_rfl))
  (fun ⟨x3_2, _⟩ => RefK.ret (by kernel_rfl))) (RefK.skip (by kernel_rfl))))
  (fun _ => RefK.seq [(6, .ptr), (7, .int .i64)] [2, 5] (fun z_ => [(6, .pointer z_.1), (7, .int .i64 z_.2.1), (2, .pointer (some x2)), (5, .pointer d)]) (fun z_ => law20_Begun_s6 k x2 d z_.1 z_.2.1) (by kernel_rfl) (fun _ => by kernel_rfl)
  (RefK.plain [] (by kernel_rfl))
  (fun ⟨m, e, _⟩ => RefK.seq [] [2, 5, 6] (fun z_ => [(2, .pointer (some x2)), (5, .pointer d), (6, .pointer m)]) (fun z_ => law20_Begun_s2 k x2 d m) (by kernel_rfl) (fun _ => by kernel_rfl)
  (RefK.seq [(34, .bool)] [2, 5, 6] (fun z_ => [(34, .bool z_.1), (2, .pointer (some x2)), (5, .pointer d), (6, .pointer m)]) (fun z_ => law20_Begun_s5 k x2 d m z_.1) (by kernel_rfl) (fun _ => by kernel_rfl)
  (RefK.plain [2] (by kernel_rfl))
  (fun ⟨x34, _⟩ => RefK.cond (b := x34) (t1 := law20_Begun_s4 k x2) (t2 := law20_Begun_s2 k x2 d m) (by kernel_rfl) (by kernel_rfl) (fun w h => brK_spec w h) (RefK.seq [(3, .bool)] [2] (fun z_ => [(3, .bool z_.1), (2, .pointer (some x2))]) (fun z_ => law20_Begun_s3 k x2 z_.1) (by kernel_rfl) (fun _ => by kernel_rfl)
  (RefK.plain [] (by kernel_rfl))
  (fun ⟨x3_1, _⟩ => RefK.ret (by kernel_rfl))) (RefK.skip (by kernel_rfl))))
  (fun _ => RefK.seq [(7, .int .i64), (8, .ptr)] [2, 5] (fun z_ => [(7, .int .i64 z_.1), (8, .pointer z_.2.1), (2, .pointer (some x2)), (5, .pointer d)]) (fun z_ => law20_Begun_s1 k x2 d z_.1 z_.2.1) (by kernel_rfl) (fun _ => by kernel_rfl)
  (RefK.plain [] (by kernel_rfl))
  (fun ⟨e_1, a, _⟩ => RefK.seq [(3, .bool)] [2] (fun z_ => [(3, .bool z_.1), (2, .pointer (some x2))]) (fun z_ => law20_Begun_s0 k x2 z_.1) (by kernel_rfl) (fun _ => by kernel_rfl)
  (RefK.draw [5, 9] [0, 0, 3, 0, 8, 24, 56, 120, 248, 504, 1016, 2040, 4088, 8184, 16376, 32760, 1023, 131071] [0, 1, 2, 3, 4, 5, 6, 7, 8, 9, 10, 11, 12, 13, 14, 15, 16, 17] [0, 1, 2, 3, 4, 5, 6, 7, 8, 9, 16, 10, 11, 12, 13, 14, 15, 17] (by kernel_rfl) (by kernel_rfl))
  (fun ⟨x3, _⟩ => RefK.ret (by kernel_rfl)))))))))) hyp_
@[reducible] def law07_Ref_s0 (k : ((Int × (Int × Int)) → K)) (x2 : Addr) : K :=
  ldI .i64 (Addr.add x2 0) fun x2_0 =>
  ldI .i64 (Addr.add x2 1) fun x2_1 =>
  ldI .i64 (Addr.add x2 2) fun x2_2 =>
  k (x2_0, (x2_1, x2_2))
@[reducible] def law07_Ref_s1 (k : ((Int × (Int × Int)) → K)) (h_1 : Addr) (x2 : Addr) : K :=
  ldI .i64 (Addr.add h_1 0) fun x4 =>
  ldI .i64 (Addr.add h_1 1) fun x6 =>
  ldI .i64 (Addr.add h_1 2) fun x8 =>
  stK (Addr.add x2 0) (.int .i64 x4) <|
  stK (Addr.add x2 1) (.int .i64 x6) <|
  stK (Addr.add x2 2) (.int .i64 x8) <|
  law07_Ref_s0 k x2
@[reducible] def law07_Ref (h : (Int × (Int × Int))) : M (Int × (Int × Int)) := fun k =>
  alK (.cells #[.int .i64 h.1, .int .i64 h.2.1, .int .i64 h.2.2] 143) fun b =>
  alK (.cells #[.int .i64 0, .int .i64 0, .int .i64 0] 141) fun b_1 =>
  law07_Ref_s1 k ⟨b, 0, none⟩ ⟨b_1, 0, none⟩
theorem law07_Ref_ok (h : (Int × (Int × Int))) (k : (Int × (Int × Int)) → K) (w : World) (hyp_ : law07_Ref h k w) : c_law07_Ref h k w :=
  cl_of (P := Tryz.prog) Tryz.func92 rfl (by kernel_rfl)
  (RefK.seq [(1, .addr), (2, .addr)] [] (fun z_ => [(1, .pointer (some z_.1)), (2, .pointer (some z_.2.1))]) (fun z_ => law07_Ref_s1 k z_.1 z_.2.1) (by kernel_rfl) (fun _ => by kernel_rfl)
  (RefK.plain [] (by kernel_rfl))
  (fun ⟨h_1, x2, _⟩ => RefK.seq [] [2] (fun z_ => [(2, .pointer (some x2))]) (fun z_ => law07_Ref_s0 k x2) (by kernel_rfl) (fun _ => by kernel_rfl)
  (RefK.plain [] (by kernel_rfl))
  (fun _ => RefK.ret (by kernel_rfl)))) hyp_
end Go.Proofs.YtdgcbapclnnkkaaGreat.X
end
section
/- Contracts: classes, sizes, headers, spans, as the document's answer has them. Conditions: at most 2^20 blocks. -/
set_option linter.unusedVariables false
set_option maxRecDepth 4000
namespace Go.Proofs.YtdgcbapclnnkkaaGreat.X
open Go
theorem kd_hd7 : Kd Tryz.prog 78 141 3 := ⟨by kernel_rfl, by kernel_rfl, by kernel_rfl, by kernel_rfl, by kernel_rfl, by decide +kernel, by decide +kernel⟩
theorem kd_sp10 : Kd Tryz.prog 146 149 2 := ⟨by kernel_rfl, by kernel_rfl, by kernel_rfl, by kernel_rfl, by kernel_rfl, by decide +kernel, by decide +kernel⟩
section
variable {B : World} {P R : SL} {t : K}
theorem ref06_Sizes_c {k : Sl → K} (hk : ∀ b, T B (R * pt b (.cells (ints szs).toArray 3)) (k ⟨some ⟨b, 0, none⟩, 32, 32⟩)) : T B R (c_ref06_Sizes k) := by
  refine T_of (ref06_Sizes_ok k) ?_
  refine T_al fun b => ?_
  exact hk b
theorem szs_rd (b : Nat) : Rd (R * pt b (.cells (ints szs).toArray 3)) ⟨some ⟨b, 0, none⟩, 32, 32⟩ 1 (ints szs) := Rd.one Has.last rfl (Nat.le_refl _)
theorem ref06_Words_c {c : Int} {k : Int → K} (hk : T B R (k (clsW c))) : T B R (c_ref06_Words c k) := by
  refine T_of (ref06_Words_ok c k) ?_
  unfold clsW at hk
  (repeat' (first | with_reducible refine T_brT ?_ | with_reducible refine T_brD (fun _ => ?_) (fun _ => ?_)))
  · rw [if_neg (by omega)] at hk; exact hk
  · rw [if_neg (by omega)] at hk; exact hk
  · rw [if_pos (by omega)] at hk
    refine ref06_Sizes_c fun b => ?_
    have hl : c.toNat < szs.length := by show c.toNat < 32; omega
    refine T_ixV (szs_rd b) (by omega) (n := szs[c.toNat]) (ints_at hl) ?_
    refine T.weak ?_
    rw [List.getD_eq_getElem?_getD, List.getElem?_eq_getElem hl] at hk
    exact hk
theorem cls_step (c : Int) (h : 0 ≤ c ∧ c < 32) (n : Int) : (n + 1) * clsW c ≤ 512 ↔ n + 1 ≤ cls c := by
  have hp := clsW_pos h
  have : cls c = 512 / clsW c := by unfold cls; rw [if_pos h]
  rw [this]
  exact (Int.le_ediv_iff_mul_le (by omega)).symm
theorem ref06_Cells_c {c : Int} {k : Int → K} (hk : T B R (k (cls c))) : T B R (c_ref06_Cells c k) := by
  refine T_of (ref06_Cells_ok c k) ?_
  by_cases h : 0 ≤ c ∧ c < 32
  · have hp := clsW_pos h
    have hc : cls c = 512 / clsW c := by unfold cls; rw [if_pos h]
    have hc1 : 0 ≤ cls c := by rw [hc]; exact Int.ediv_nonneg (by omega) (by omega)
    have hc2 : cls c ≤ 512 := by rw [hc]; exact Int.ediv_le_self _ (by omega)
    refine T_lpX (fun _ _ => R) (fun m (s : Int × Unit) => ∃ i : Nat, s.1 = i ∧ (i : Int) ≤ cls c ∧ m = (cls c - i).toNat) (cls c).toNat rfl ⟨0, rfl, by omega, by omega⟩ ?_
    rintro m ⟨s1, u⟩ cc ⟨i, e1, e2, e3⟩ hcc
    simp only at e1
    subst e1 e3
    skip
    refine ref06_Words_c ?_
    refine T_brD (fun _ => ?_) (fun h => absurd (show clsW c > 0 by omega) h)
    refine ref06_Words_c ?_
    have hm0 : 0 ≤ ((i : Int) + 1) * clsW c := Int.mul_nonneg (by omega) (by omega)
    have hm1 : ((i : Int) + 1) * clsW c ≤ 513 * 256 := Int.mul_le_mul (by omega) (by omega) (by omega) (by omega)
    rw [w64 (n := (i : Int) + 1) (by omega) (by omega), w64 (by omega) (by omega)]
    have hs := cls_step c h i
    refine T_brD (fun hle => ?_) (fun hle => ?_)
    · have := hs.1 hle
      refine hcc _ _ ?_ ⟨i + 1, w64 (by omega) (by omega), by omega, rfl⟩
      omega
    · have : ¬ ((i : Int) + 1 ≤ cls c) := fun h => hle (hs.2 h)
      have e : cls c = i := by omega
      rw [e] at hk
      exact hk
  · have e0 : clsW c = 0 := by unfold clsW; rw [if_neg h]
    have e1 : cls c = 0 := by unfold cls; rw [if_neg h]
    rw [e1] at hk
    refine T_lpX (fun _ _ => R) (fun m (s : Int × Unit) => s.1 = 0) 0 rfl rfl ?_
    rintro m ⟨s1, u⟩ cc e hcc
    simp only at e
    subst e
    skip
    refine ref06_Words_c ?_
    rw [e0]
    refine T_brD (fun h => absurd h (by omega)) (fun _ => ?_)
    (repeat (with_reducible refine T_brF ?_))
    exact hk
theorem ref06_Of_c {w : Int} {k : Int → K} (hk : T B R (k (if (kOf w).2 = true then (kOf w).1 else -1))) : T B R (c_ref06_Of w k) := by
  refine T_of (ref06_Of_ok w k) ?_
  refine T_lpX (fun _ _ => R) (fun m (s : Int × Unit) => ∃ i : Nat, s.1 = i ∧ i ≤ 32 ∧ m = 32 - i ∧ ∀ d : Int, 0 ≤ d → d < i → clsW d < w) 32 rfl ⟨0, rfl, by omega, rfl, fun d h0 h1 => by omega⟩ ?_
  rintro m ⟨s1, u⟩ cc ⟨i, e1, e2, e3, e4⟩ hcc
  simp only at e1
  subst e1 e3
  have neg : ¬ (1 ≤ w ∧ w ≤ 256) → T B R (k (-1)) := fun h => by
    unfold kOf at hk
    rw [if_neg h] at hk
    exact hk
  have c31 : clsW 31 = 256 := by decide
  (repeat' (first | with_reducible refine T_brF ?_ | with_reducible refine T_brD (fun _ => ?_) (fun _ => ?_)))
  · refine ref06_Sizes_c fun b => ?_
    have hl : i < szs.length := by show i < 32; omega
    refine T_ixV (szs_rd b) (by omega) (n := szs[i]) (by rw [Int.toNat_natCast]; exact ints_at hl) ?_
    refine T.weak ?_
    have hw : clsW i = szs[i] := by
      unfold clsW
      rw [if_pos (by omega), Int.toNat_natCast, List.getD_eq_getElem?_getD, List.getElem?_eq_getElem hl]; rfl
    rw [← hw]
    have hp := clsW_pos (c := i) (by omega)
    refine T_brD (fun hge => ?_) (fun hge => ?_)
    · have ho : IsOf w i := ⟨by omega, by omega, hge, e4⟩
      have e : kOf w = ((i : Int), true) := by
        unfold kOf
        rw [if_pos (by omega), ofC_eq ho]
      rw [e] at hk
      exact hk
    · refine hcc _ _ ?_ ⟨i + 1, w64 (by omega) (by omega), by omega, rfl, fun d h0 h1 => ?_⟩
      · omega
      · by_cases h : d < i
        · exact e4 d h0 h
        · have : d = i := by omega
          subst this; omega
  · exact neg (by omega)
  · have h31 := e4 31 (by omega) (by omega)
    exact neg (by omega)
theorem ref04_Need_c {w : Int} {k : Int → K} (h : 1 ≤ w) (h2 : w ≤ 2 ^ 40) (hk : T B R (k ((w + 511) / 512))) : T B R (c_ref04_Need w k) := by
  refine T_of (ref04_Need_ok w k) ?_
  skip
  refine T_brD (fun h => absurd h (by omega)) (fun _ => ?_)
  (dsimp only [ref04_Need, ref04_Need_s0, ref04_Need_s1, ref04_Need_s2, ref04_Need_s3, ref04_Need_s4, ref04_Need_s5])
  rw [Int.tdiv_eq_ediv_of_nonneg (by omega), Int.tmod_eq_emod_of_nonneg (by omega), w64 (n := w / 512) (by omega) (by omega)]
  refine T_brNE (fun h => ?_) (fun h => ?_)
  · rw [w64 (by omega) (by omega), show w / 512 + 1 = (w + 511) / 512 by omega]
    exact hk
  · rw [show w / 512 = (w + 511) / 512 by omega]
    exact hk
def kC (o : Int × Int) : Int := if (kOf (oSize o)).2 = true then (kOf (oSize o)).1 else -1
end
end Go.Proofs.YtdgcbapclnnkkaaGreat.X
end
section
/- Contracts: sets of addresses. Conditions: limits below 2^40. -/
set_option linter.unusedVariables false
set_option maxRecDepth 4000
namespace Go.Proofs.YtdgcbapclnnkkaaGreat.X
open Go
def nts (l : List Nat) : List Int := l.map fun (n : Nat) => (n : Int)
def Uof (ws : List Nat) (a : Nat) : Bool := (ws.getD (a / 64) 0).testBit (a % 64)
structure BmOk (lim : Nat) (U : Nat → Bool) (ws : List Nat) : Prop where
  len : ws.length = (lim + 63) / 64
  big : lim ≤ 2 ^ 40
  lt : ∀ w ∈ ws, w < 2 ^ 64
  eq : ∀ a, U a = Uof ws a
  off : ∀ a, lim ≤ a → U a = false
abbrev BmX := Sl × List Nat × Int
def BmQ (s lim : Nat) (x : BmX) : SL := vec 109 1 x.1 (wds (nts x.2.1)) * pt s (.cells [x.1.v, .int .i64 lim, .int .i64 x.2.2].toArray 191)
def Bm (s lim : Nat) (U : Nat → Bool) : SL := ex fun x : BmX => BmQ s lim x * pu (BmOk lim U x.2.1)
theorem bit_andN {a b : Nat} (ha : a < 2 ^ 64) (hb : b < 2 ^ 64) : ∃ m : Nat, bitI .andNot .u64 a b = m ∧ m < 2 ^ 64 ∧ ∀ j, j < 64 → m.testBit j = (a.testBit j && !b.testBit j) := by
  refine ⟨(BitVec.ofInt 64 a &&& ~~~ BitVec.ofInt 64 b).toNat, ?_, (BitVec.ofInt 64 a &&& ~~~ BitVec.ofInt 64 b).isLt, fun j hj => ?_⟩
  · exact wu64n _ (BitVec.ofInt 64 a &&& ~~~ BitVec.ofInt 64 b).isLt
  · rw [← BitVec.getLsbD, BitVec.getLsbD_and, BitVec.getLsbD_not, BitVec.ofInt_natCast, BitVec.ofInt_natCast, BitVec.getLsbD_ofNat, BitVec.getLsbD_ofNat]
    simp [hj]
section
variable {B : World} {P R : SL} {t : K}
theorem Bm_open {s lim : Nat} {U : Nat → Bool} (h : ∀ (q : Sl) (ws : List Nat) (m : Int), BmOk lim U ws → T B (R * vec 109 1 q (wds (nts ws)) * pt s (.cells [q.v, .int .i64 lim, .int .i64 m].toArray 191)) t) : T B (R * Bm s lim U) t := by
  refine T_ex fun x => ?_
  rw [← sep_assoc]
  refine T_pu fun ok => T.perm ?_ (h x.1 x.2.1 x.2.2 ok)
  unfold BmQ; simp only [sep_assoc]
theorem Bm_close {s lim : Nat} {U : Nat → Bool} {q : Sl} {ws : List Nat} {m : Int} (ok : BmOk lim U ws) (h : T B (R * Bm s lim U) t) : T B (R * vec 109 1 q (wds (nts ws)) * pt s (.cells [q.v, .int .i64 lim, .int .i64 m].toArray 191)) t := by
  have h2 : T B (R * (BmQ s lim (q, ws, m) * pu (BmOk lim U ws))) t := T_exI (X := fun x : BmX => BmQ s lim x * pu (BmOk lim U x.2.1)) (q, ws, m) h
  rw [← sep_assoc] at h2
  refine T.perm ?_ (T_puI ok h2)
  unfold BmQ; simp only [sep_assoc]
theorem bitmap_New_c {lim : Nat} (hl : lim ≤ 2 ^ 40) {k : Option Addr → K} (hk : ∀ s, T B (R * Bm s lim (fun _ => false)) (k (da s))) : T B R (c_bitmap_New lim k) := by
  refine T_of (bitmap_New_ok lim k) ?_
  have e0 : max2I (lim : Int) 0 = lim := by unfold max2I; split <;> omega
  (dsimp only [bitmap_New, bitmap_New_s0, bitmap_New_s1])
  rw [e0]
  refine bits_Up_c (by omega) (by omega) (by omega) ?_
  have e1 : ((lim : Int) + 64 - 1) / 64 = (((lim + 63) / 64 : Nat) : Int) := by omega
  rw [e1]
  refine T_mkV kd_u64 (by omega) (by omega) (by omega) fun b => ?_
  rw [Int.toNat_natCast, repZ_wds]
  (repeat ((with_reducible refine T_al ?_; intro _)))
  rename_i s
  have e2 : List.replicate ((lim + 63) / 64) (0 : Int) = nts (List.replicate ((lim + 63) / 64) 0) := by simp [nts]
  rw [e2]
  refine Bm_close (q := ⟨some ⟨b, 0, none⟩, (lim + 63) / 64, (lim + 63) / 64⟩) ⟨by simp, hl, fun w hw => ?_, fun a => ?_, fun a _ => rfl⟩ (hk s)
  · rw [List.eq_of_mem_replicate hw]; exact Nat.two_pow_pos _
  · unfold Uof
    rw [List.getD_eq_getElem?_getD, List.getElem?_replicate]
    split <;> simp
theorem bitmap_in_c {s lim : Nat} {U : Nat → Bool} {a : Int} {k : Bool → K} (hk : T B (R * Bm s lim U) (k (decide (0 ≤ a ∧ a < lim)))) : T B (R * Bm s lim U) (c_bitmap_Set_in (da s) a k) := by
  refine T_of (bitmap_Set_in_ok _ a k) ?_
  unfold da
  (repeat' (first | with_reducible refine T_nn ?_ | with_reducible refine T_brD (fun _ => ?_) (fun _ => ?_)))
  · rename_i h
    refine Bm_open fun q ws m ok => ?_
    (repeat (((with_reducible apply T_ldI); (focus rfl); (focus exact hasA); (focus rfl))))
    refine Bm_close ok ?_
    have e : decide (a < (lim : Int)) = decide (0 ≤ a ∧ a < lim) := by simp; omega
    rw [e]; exact hk
  · rename_i h
    have e : decide (0 ≤ a ∧ a < (lim : Int)) = false := by simp; omega
    rw [e] at hk; exact hk
def has (U : Nat → Bool) (a : Int) : Bool := decide (0 ≤ a) && U a.toNat
theorem nts_at {ws : List Nat} {i : Nat} (h : i < ws.length) : (wds (nts ws))[i]? = some (.int .u64 (ws[i] : Nat)) := by simp [wds, nts, h]
theorem bitmap_Has_c {s lim : Nat} {U : Nat → Bool} {a : Int} {k : Bool → K} (hk : T B (R * Bm s lim U) (k (has U a))) : T B (R * Bm s lim U) (c_bitmap_Set_Has (da s) a k) := by
  refine T_of (bitmap_Set_Has_ok _ a k) ?_
  refine bitmap_in_c ?_
  unfold da has at *
  by_cases h0 : 0 ≤ a ∧ a < (lim : Int)
  · rw [decide_eq_true h0]
    rw [decide_eq_true h0.1, Bool.true_and] at hk
    (repeat (first | with_reducible refine T_nn ?_ | with_reducible refine T_brT ?_))
    refine Bm_open fun q ws m ok => ?_
    obtain ⟨n, rfl⟩ := Int.eq_ofNat_of_zero_le h0.1
    have hb := ok.big
    have hlen := ok.len
    have hlt : n / 64 < ws.length := by omega
    (repeat (((with_reducible apply T_ldS); (focus rfl); (focus exact hasA); (focus rfl))))
    have e1 : IntKind.wrap .i64 (Int.tdiv (n : Int) 64) = ((n / 64 : Nat) : Int) := by rw [Int.tdiv_eq_ediv_of_nonneg (by omega), w64 (by omega) (by omega)]; omega
    have e2 : IntKind.wrap .u64 (Int.tmod (n : Int) 64) = ((n % 64 : Nat) : Int) := by rw [Int.tmod_eq_emod_of_nonneg (by omega), wu64 (by omega) (by omega)]; omega
    rw [e1]
    refine T_ixV (Rd.vec (E := 109) (s := q) (vs := wds (nts ws)) (.init .last)) (by omega) (by rw [Int.toNat_natCast]; exact nts_at hlt) ?_
    rw [e2]
    refine T_nneg (by omega) ?_
    have hw : ws[n / 64] < 2 ^ 64 := ok.lt _ (List.getElem_mem hlt)
    have e3 : (bitI .and .u64 (shrI .u64 ((ws[n / 64] : Nat) : Int) ((n % 64 : Nat) : Int)) 1 == 1) = U n := by
      rw [ok.eq n, shr_n (by omega)]
      have := bit_and (a := ws[n / 64] / 2 ^ (n % 64)) (b := 1) (Nat.lt_of_le_of_lt (Nat.div_le_self _ _) hw) (by omega)
      rw [show ((1 : Nat) : Int) = 1 from rfl] at this
      rw [this, Nat.and_one_is_mod]
      unfold Uof
      rw [List.getD_eq_getElem?_getD, List.getElem?_eq_getElem hlt, Option.getD_some, Nat.testBit_eq_decide_div_mod_eq]
      rw [Bool.eq_iff_iff]; simp only [beq_iff_eq, decide_eq_true_eq]; omega
    (dsimp only [bitmap_Set_Has, bitmap_Set_Has_s0, bitmap_Set_Has_s1])
    rw [e3]
    refine Bm_close ok ?_
    rw [Int.toNat_natCast] at hk; exact hk
  · rw [decide_eq_false h0]
    (repeat (with_reducible refine T_brF ?_))
    by_cases h1 : 0 ≤ a
    · refine Bm_open fun q ws m ok => ?_
      have := ok.off a.toNat (by omega)
      rw [this, Bool.and_false] at hk
      exact Bm_close ok hk
    · rw [decide_eq_false h1, Bool.false_and] at hk; exact hk
end
end Go.Proofs.YtdgcbapclnnkkaaGreat.X
end
section
/- Contracts: an address into a set, out of it. Conditions: limits below 2^40. -/
set_option linter.unusedVariables false
set_option maxRecDepth 4000
namespace Go.Proofs.YtdgcbapclnnkkaaGreat.X
open Go
def uAdd (U : Nat → Bool) (a : Nat) : Nat → Bool := fun x => x == a || U x
def uDrop (U : Nat → Bool) (a : Nat) : Nat → Bool := fun x => x != a && U x
theorem nts_set (ws : List Nat) (i m : Nat) : (wds (nts ws)).set i (.int .u64 (m : Int)) = wds (nts (ws.set i m)) := by simp [wds, nts, List.map_set]
theorem Uof_set {ws : List Nat} {i m : Nat} (h : i < ws.length) (a : Nat) : Uof (ws.set i m) a = if a / 64 = i then m.testBit (a % 64) else Uof ws a := by
  unfold Uof
  rw [List.getD_eq_getElem?_getD, List.getElem?_set]
  by_cases e : a / 64 = i
  · rw [if_pos e, if_pos e.symm, if_pos (by omega)]; rfl
  · rw [if_neg e, if_neg (Ne.symm e), List.getD_eq_getElem?_getD]
theorem BmOk.set {lim : Nat} {U U' : Nat → Bool} {ws : List Nat} (ok : BmOk lim U ws) {a m : Nat} (ha : a < lim) (hm : m < 2 ^ 64)
    (h1 : ∀ j, j < 64 → j ≠ a % 64 → m.testBit j = (ws.getD (a / 64) 0).testBit j) (h2 : U' a = m.testBit (a % 64)) (h3 : ∀ x, x ≠ a → U' x = U x) : BmOk lim U' (ws.set (a / 64) m) := by
  have hlt : a / 64 < ws.length := by have := ok.len; omega
  refine ⟨by rw [List.length_set]; exact ok.len, ok.big, fun w hw => ?_, fun x => ?_, fun x hx => ?_⟩
  · rcases List.mem_or_eq_of_mem_set hw with h | h
    · exact ok.lt w h
    · rw [h]; exact hm
  · rw [Uof_set hlt]
    by_cases e : x = a
    · subst e; rw [if_pos rfl]; exact h2
    · rw [h3 x e, ok.eq x]
      split
      · rename_i e2
        rw [h1 (x % 64) (by omega) (by omega), ← e2]; rfl
      · rfl
  · rw [h3 x (by omega)]; exact ok.off x hx
section
variable {B : World} {P R : SL} {t : K}
theorem bitmap_Add_c {s lim : Nat} {U : Nat → Bool} {a : Int} {k : Bool → K} (h0 : ¬ (0 ≤ a ∧ a < lim ∧ U a.toNat = false) → T B (R * Bm s lim U) (k false))
    (h1 : 0 ≤ a → a < lim → U a.toNat = false → T B (R * Bm s lim (uAdd U a.toNat)) (k true)) : T B (R * Bm s lim U) (c_bitmap_Set_Add (da s) a k) := by
  refine T_of (bitmap_Set_Add_ok _ a k) ?_
  refine bitmap_in_c ?_
  by_cases hin : 0 ≤ a ∧ a < (lim : Int)
  · rw [decide_eq_true hin]
    skip
    simp only [Bool.not_true]
    (repeat (with_reducible refine T_brF ?_))
    refine bitmap_Has_c ?_
    obtain ⟨n, rfl⟩ := Int.eq_ofNat_of_zero_le hin.1
    rw [Int.toNat_natCast] at h1 h0
    have hh : has U (n : Int) = U n := by unfold has; rw [decide_eq_true hin.1, Bool.true_and, Int.toNat_natCast]
    rw [hh]
    cases hu : U n
    · have hk := h1 hin.1 hin.2 hu
      unfold da
      (repeat (first | with_reducible refine T_nn ?_ | with_reducible refine T_brF ?_))
      refine Bm_open fun q ws m ok => ?_
      have hb := ok.big
      have hlen := ok.len
      have hlt : n / 64 < ws.length := by omega
      (repeat (((with_reducible apply T_ldS); (focus rfl); (focus exact hasA); (focus rfl))))
      have e1 : IntKind.wrap .i64 (Int.tdiv (n : Int) 64) = ((n / 64 : Nat) : Int) := by rw [Int.tdiv_eq_ediv_of_nonneg (by omega), w64 (by omega) (by omega)]; omega
      have e2 : IntKind.wrap .u64 (Int.tmod (n : Int) 64) = ((n % 64 : Nat) : Int) := by rw [Int.tmod_eq_emod_of_nonneg (by omega), wu64 (by omega) (by omega)]; omega
      rw [e1]
      refine T_ixV (Rd.vec (E := 109) (s := q) (vs := wds (nts ws)) (.init .last)) (by omega) (by rw [Int.toNat_natCast]; exact nts_at hlt) ?_
      rw [e2]
      refine T_nneg (by omega) ?_
      have hw : ws[n / 64] < 2 ^ 64 := ok.lt _ (List.getElem_mem hlt)
      have h2p : 1 * 2 ^ (n % 64) < 2 ^ 64 := by rw [Nat.one_mul]; exact Nat.pow_lt_pow_right (by omega) (by omega)
      have e3 : shlI .u64 1 ((n % 64 : Nat) : Int) = ((1 * 2 ^ (n % 64) : Nat) : Int) := shl_n (a := 1) (by omega) h2p
      rw [e3, bit_or hw h2p]
      refine T_stV (E := 109) (i := ((n / 64 : Nat) : Int)) (s := q) (vs := wds (nts ws)) (.init .last) (by omega) (by rw [Int.toNat_natCast]; simp [wds, nts]; omega) ?_
      rw [Int.toNat_natCast, nts_set]
      have hg : ws.getD (n / 64) 0 = ws[n / 64] := by rw [List.getD_eq_getElem?_getD, List.getElem?_eq_getElem hlt]; rfl
      have ok' : BmOk lim (uAdd U n) (ws.set (n / 64) (ws[n / 64] ||| 1 * 2 ^ (n % 64))) := by
        refine ok.set (by omega) (Nat.or_lt_two_pow hw h2p) (fun j hj hne => ?_) ?_ (fun x hx => ?_)
        · rw [hg, Nat.testBit_or, Nat.one_mul, Nat.testBit_two_pow_of_ne (Ne.symm hne), Bool.or_false]
        · unfold uAdd; rw [Nat.testBit_or, Nat.one_mul, Nat.testBit_two_pow_self]; simp
        · unfold uAdd; simp [hx]
      (repeat (first | with_reducible refine T_nn ?_ | ((with_reducible apply T_ldI); (focus rfl); (focus exact hasA); (focus rfl)) | ((with_reducible apply T_st); (focus rfl); (focus exact updA); (focus simp); simp only [List.set, Nat.zero_add, Nat.reduceAdd])))
      refine T_bring (X := pt s (.cells [q.v, .int .i64 lim, .int .i64 (IntKind.wrap .i64 (m + 1))].toArray 191)) (.init .last) ?_
      exact Bm_close ok' hk
    · (repeat (with_reducible refine T_brT ?_))
      exact h0 (fun h => by rw [hu] at h; cases h.2.2)
  · rw [decide_eq_false hin]
    simp only [Bool.not_false]
    (repeat (with_reducible refine T_brT ?_))
    exact h0 (fun h => hin ⟨h.1, h.2.1⟩)
theorem bitmap_Drop_c {s lim : Nat} {U : Nat → Bool} {a : Int} {k : Bool → K} (h0 : has U a = false → T B (R * Bm s lim U) (k false))
    (h1 : 0 ≤ a → U a.toNat = true → T B (R * Bm s lim (uDrop U a.toNat)) (k true)) : T B (R * Bm s lim U) (c_bitmap_Set_Drop (da s) a k) := by
  refine T_of (bitmap_Set_Drop_ok _ a k) ?_
  refine bitmap_Has_c ?_
  cases hu : has U a
  · simp only [Bool.not_false]
    (repeat (with_reducible refine T_brT ?_))
    exact h0 hu
  · simp only [Bool.not_true]
    unfold has at hu
    simp only [Bool.and_eq_true, decide_eq_true_eq] at hu
    obtain ⟨hin, hu⟩ := hu
    obtain ⟨n, rfl⟩ := Int.eq_ofNat_of_zero_le hin
    rw [Int.toNat_natCast] at h1 hu
    have hk := h1 hin hu
    unfold da
    (repeat (first | with_reducible refine T_nn ?_ | with_reducible refine T_brF ?_))
    refine Bm_open fun q ws m ok => ?_
    have hb := ok.big
    have hlen := ok.len
    have hnl : n < lim := by
      rcases Nat.lt_or_ge n lim with h | h
      · exact h
      · rw [ok.off n h] at hu; cases hu
    have hlt : n / 64 < ws.length := by omega
    (repeat (((with_reducible apply T_ldS); (focus rfl); (focus exact hasA); (focus rfl))))
    have e1 : IntKind.wrap .i64 (Int.tdiv (n : Int) 64) = ((n / 64 : Nat) : Int) := by rw [Int.tdiv_eq_ediv_of_nonneg (by omega), w64 (by omega) (by omega)]; omega
    have e2 : IntKind.wrap .u64 (Int.tmod (n : Int) 64) = ((n % 64 : Nat) : Int) := by rw [Int.tmod_eq_emod_of_nonneg (by omega), wu64 (by omega) (by omega)]; omega
    rw [e1]
    refine T_ixV (Rd.vec (E := 109) (s := q) (vs := wds (nts ws)) (.init .last)) (by omega) (by rw [Int.toNat_natCast]; exact nts_at hlt) ?_
    rw [e2]
    refine T_nneg (by omega) ?_
    have hw : ws[n / 64] < 2 ^ 64 := ok.lt _ (List.getElem_mem hlt)
    have h2p : 1 * 2 ^ (n % 64) < 2 ^ 64 := by rw [Nat.one_mul]; exact Nat.pow_lt_pow_right (by omega) (by omega)
    have e3 : shlI .u64 1 ((n % 64 : Nat) : Int) = ((1 * 2 ^ (n % 64) : Nat) : Int) := shl_n (a := 1) (by omega) h2p
    obtain ⟨w', e4, e5, e6⟩ := bit_andN hw h2p
    rw [e3, e4]
    refine T_stV (E := 109) (i := ((n / 64 : Nat) : Int)) (s := q) (vs := wds (nts ws)) (.init .last) (by omega) (by rw [Int.toNat_natCast]; simp [wds, nts]; omega) ?_
    rw [Int.toNat_natCast, nts_set]
    have hg : ws.getD (n / 64) 0 = ws[n / 64] := by rw [List.getD_eq_getElem?_getD, List.getElem?_eq_getElem hlt]; rfl
    have ok' : BmOk lim (uDrop U n) (ws.set (n / 64) w') := by
      refine ok.set hnl e5 (fun j hj hne => ?_) ?_ (fun x hx => ?_)
      · rw [hg, e6 j hj, Nat.one_mul, Nat.testBit_two_pow_of_ne (Ne.symm hne)]; simp
      · unfold uDrop; rw [e6 _ (by omega), Nat.one_mul, Nat.testBit_two_pow_self]; simp
      · unfold uDrop; simp [hx]
    (repeat (first | with_reducible refine T_nn ?_ | ((with_reducible apply T_ldI); (focus rfl); (focus exact hasA); (focus rfl)) | ((with_reducible apply T_st); (focus rfl); (focus exact updA); (focus simp); simp only [List.set, Nat.zero_add, Nat.reduceAdd])))
    refine T_bring (X := pt s (.cells [q.v, .int .i64 lim, .int .i64 (IntKind.wrap .i64 (m - 1))].toArray 191)) (.init .last) ?_
    exact Bm_close ok' hk
end
end Go.Proofs.YtdgcbapclnnkkaaGreat.X
end
section
/- Contracts: the lowest bit of a word. Condition: the word is not 0. -/
set_option linter.unusedVariables false
set_option maxRecDepth 4000
namespace Go.Proofs.YtdgcbapclnnkkaaGreat.X
open Go
def cnt0 (w : Int) : Int := IntKind.wrap .u64 (w - (bitI .and .u64 (shrI .u64 w 1) 6148914691236517205))
def cnt1 (w : Int) : Int := IntKind.wrap .u64 ((bitI .and .u64 w 3689348814741910323) + (bitI .and .u64 (shrI .u64 w 2) 3689348814741910323))
def cnt2 (w : Int) : Int := bitI .and .u64 (IntKind.wrap .u64 (w + (shrI .u64 w 4))) 1085102592571150095
def cnt3 (w : Int) : Int := IntKind.wrap .i64 (shrI .u64 (IntKind.wrap .u64 (w * 72340172838076673)) 56)
def cnt (w : Int) : Int := cnt3 (cnt2 (cnt1 (cnt0 w)))
theorem cnt_ones : ∀ i : Fin 64, cnt ((2 ^ i.val - 1 : Nat) : Int) = ((i.val : Nat) : Int) := by decide +kernel
theorem low_and {w i : Nat} (hw : w < 2 ^ 64) (hi : i < 64) (h0 : ∀ j, j < i → w.testBit j = false) (h1 : w.testBit i = true) : w &&& (2 ^ 64 - w) = 2 ^ i := by
  have hpos : 0 < w := by
    rcases Nat.eq_zero_or_pos w with h | h
    · subst h; simp at h1
    · exact h
  obtain ⟨m, hm⟩ : ∃ m, w = 2 ^ i * m := by
    refine ⟨w / 2 ^ i, ?_⟩
    have : w % 2 ^ i = 0 := by
      apply Nat.eq_of_testBit_eq
      intro j
      rw [Nat.testBit_mod_two_pow, Nat.zero_testBit]
      by_cases hj : j < i
      · rw [h0 j hj, Bool.and_false]
      · simp [hj]
    have := Nat.div_add_mod w (2 ^ i)
    omega
  have hodd : m.testBit 0 = true := by
    have := h1
    rw [hm, Nat.testBit_two_pow_mul] at this
    simpa using this
  have hm1 : m % 2 = 1 := by simpa [Nat.testBit_zero] using hodd
  have hw1 : w - 1 = 2 ^ i * (m - 1) + (2 ^ i - 1) := by
    have hp : 0 < 2 ^ i := Nat.two_pow_pos i
    rw [hm, Nat.mul_sub, Nat.mul_one]
    have : 2 ^ i * 1 ≤ 2 ^ i * m := Nat.mul_le_mul_left _ (by omega)
    omega
  apply Nat.eq_of_testBit_eq
  intro j
  rw [Nat.testBit_and, show 2 ^ 64 - w = 2 ^ 64 - ((w - 1) + 1) by omega, Nat.testBit_two_pow_sub_succ (by omega)]
  rcases Nat.lt_trichotomy j i with h | h | h
  · rw [h0 j h, Bool.false_and, Nat.testBit_two_pow_of_ne (by omega)]
  · subst h
    rw [h1, Nat.testBit_two_pow_self]
    have : (w - 1).testBit j = false := by
      rw [hw1, Nat.testBit_two_pow_mul_add _ (by have := Nat.two_pow_pos j; omega)]
      simp only [Nat.lt_irrefl, if_false, Nat.sub_self, Nat.testBit_zero, decide_eq_false_iff_not]
      omega
    rw [this]; simp [hi]
  · rw [Nat.testBit_two_pow_of_ne (by omega)]
    have : (w - 1).testBit j = w.testBit j := by
      rw [hw1, Nat.testBit_two_pow_mul_add _ (by have := Nat.two_pow_pos i; omega), if_neg (by omega)]
      rw [hm, Nat.testBit_two_pow_mul]
      obtain ⟨c, hc⟩ : ∃ c, j - i = c + 1 := ⟨j - i - 1, by omega⟩
      rw [hc, Nat.testBit_succ, Nat.testBit_succ, show (m - 1) / 2 = m / 2 by omega]
      simp; omega
    rw [this]
    cases w.testBit j <;> simp
section
variable {B : World} {P R : SL} {t : K}
theorem bits_Count_c {w : Int} {k : Int → K} (hk : T B R (k (cnt w))) : T B R (c_bits_Count w k) := T_of (bits_Count_ok w k) hk
theorem bits_Lowest_c {w i : Nat} (hw : w < 2 ^ 64) (hi : i < 64) (h0 : ∀ j, j < i → w.testBit j = false) (h1 : w.testBit i = true) {k : Int → K} (hk : T B R (k i)) : T B R (c_bits_Lowest w k) := by
  refine T_of (bits_Lowest_ok w k) ?_
  have hpos : 0 < w := by
    rcases Nat.eq_zero_or_pos w with h | h
    · subst h; simp at h1
    · exact h
  have e1 : IntKind.wrap .u64 (0 - (w : Int)) = ((2 ^ 64 - w : Nat) : Int) := by
    unfold IntKind.wrap
    simp only [IntKind.bits, IntKind.signed, Bool.false_and, Bool.false_eq_true, if_false]
    omega
  (dsimp only [bits_Lowest, bits_Lowest_s0, bits_Lowest_s1])
  rw [e1, bit_and hw (by omega), low_and hw hi h0 h1]
  have hp : 1 ≤ 2 ^ i := Nat.two_pow_pos i
  have hlt : 2 ^ i < 2 ^ 64 := Nat.pow_lt_pow_right (by omega) hi
  rw [wu64 (by omega) (by omega), show ((2 ^ i : Nat) : Int) - 1 = ((2 ^ i - 1 : Nat) : Int) by omega]
  refine bits_Count_c ?_
  rw [cnt_ones ⟨i, hi⟩]
  exact hk
end
end Go.Proofs.YtdgcbapclnnkkaaGreat.X
end
section
/- Contracts: the next address of a set. Conditions: limits below 2^40. -/
set_option linter.unusedVariables false
set_option maxRecDepth 4000
namespace Go.Proofs.YtdgcbapclnnkkaaGreat.X
open Go
theorem least {p : Nat → Bool} {n : Nat} (h : p n = true) : ∃ m, m ≤ n ∧ p m = true ∧ ∀ j, j < m → p j = false := by
  induction n using Nat.strongRecOn with
  | ind n ih =>
    by_cases hx : ∃ j, j < n ∧ p j = true
    · obtain ⟨j, h1, h2⟩ := hx
      obtain ⟨m, h3, h4, h5⟩ := ih j h1 h2
      exact ⟨m, by omega, h4, h5⟩
    · refine ⟨n, Nat.le_refl _, h, fun j hj => ?_⟩
      cases hp : p j
      · rfl
      · exact absurd ⟨j, hj, hp⟩ hx
theorem low_ex {w : Nat} (hw : w < 2 ^ 64) (h : w ≠ 0) : ∃ i, i < 64 ∧ w.testBit i = true ∧ ∀ j, j < i → w.testBit j = false := by
  obtain ⟨i, hi⟩ : ∃ i, w.testBit i = true := by
    refine Classical.byContradiction fun hn => h ?_
    apply Nat.eq_of_testBit_eq
    intro i
    rw [Nat.zero_testBit]
    cases hb : w.testBit i
    · rfl
    · exact absurd ⟨i, hb⟩ hn
  obtain ⟨m, h1, h2, h3⟩ := least (p := w.testBit) hi
  refine ⟨m, ?_, h2, h3⟩
  rcases Nat.lt_or_ge m 64 with hm | hm
  · exact hm
  · rw [Nat.testBit_lt_two_pow (Nat.lt_of_lt_of_le hw (Nat.pow_le_pow_right (by omega) hm))] at h2; cases h2
section
variable {B : World} {P R : SL} {t : K}
theorem bitmap_Next_c {s lim : Nat} {U : Nat → Bool} {a : Int} {k : Int × Bool → K} (h0 : (∀ x : Nat, a ≤ x → U x = false) → T B (R * Bm s lim U) (k (0, false)))
    (h1 : ∀ x : Nat, a ≤ x → U x = true → x < lim → (∀ y : Nat, a ≤ y → y < x → U y = false) → T B (R * Bm s lim U) (k ((x : Int), true))) : T B (R * Bm s lim U) (c_bitmap_Set_Next (da s) a k) := by
  refine T_of (bitmap_Set_Next_ok _ a k) ?_
  obtain ⟨n, hn, hna⟩ : ∃ n : Nat, max2I a 0 = n ∧ ∀ x : Nat, a ≤ x ↔ n ≤ x := by
    refine ⟨a.toNat, ?_, fun x => by omega⟩
    unfold max2I; split <;> omega
  simp only [hna] at h0 h1
  (dsimp only [bitmap_Set_Next, bitmap_Set_Next_s0, bitmap_Set_Next_s1, bitmap_Set_Next_s2, bitmap_Set_Next_s3, bitmap_Set_Next_s4, bitmap_Set_Next_s5, bitmap_Set_Next_s6, bitmap_Set_Next_l7, bitmap_Set_Next_s8, bitmap_Set_Next_s9, bitmap_Set_Next_s10, bitmap_Set_Next_s11, bitmap_Set_Next_s12])
  rw [hn]
  unfold da
  refine Bm_open fun q ws m ok => ?_
  have hb := ok.big
  have hlen := ok.len
  (repeat' (first | with_reducible refine T_nn ?_ | ((with_reducible apply T_ldI); (focus rfl); (focus exact hasA); (focus rfl)) | ((with_reducible apply T_ldS); (focus rfl); (focus exact hasA); (focus rfl)) | with_reducible refine T_brD (fun _ => ?_) (fun _ => ?_)))
  · rename_i hge
    exact Bm_close ok (h0 fun x hx => ok.off x (by omega))
  rename_i hlt0
  have hnl : n < lim := by omega
  have e1 : IntKind.wrap .i64 (Int.tdiv (n : Int) 64) = ((n / 64 : Nat) : Int) := by rw [Int.tdiv_eq_ediv_of_nonneg (by omega), w64 (by omega) (by omega)]; omega
  have e2 : IntKind.wrap .u64 (Int.tmod (n : Int) 64) = ((n % 64 : Nat) : Int) := by rw [Int.tmod_eq_emod_of_nonneg (by omega), wu64 (by omega) (by omega)]; omega
  have hlt : n / 64 < ws.length := by omega
  rw [e1]
  refine T_ixV (Rd.vec (E := 109) (s := q) (vs := wds (nts ws)) (.init .last)) (by omega) (by rw [Int.toNat_natCast]; exact nts_at hlt) ?_
  rw [e2]
  refine T_nneg (by omega) ?_
  refine T_nneg (by omega) ?_
  have hw : ws[n / 64] < 2 ^ 64 := ok.lt _ (List.getElem_mem hlt)
  have hsl : ws[n / 64] / 2 ^ (n % 64) * 2 ^ (n % 64) ≤ ws[n / 64] := Nat.div_mul_le_self _ _
  rw [shr_n (by omega), shl_n (by omega) (by omega)]
  have hU : ∀ x : Nat, x / 64 < ws.length → U x = (ws.getD (x / 64) 0).testBit (x % 64) := fun x _ => ok.eq x
  refine T_lpX (fun _ _ => R * vec 109 1 q (wds (nts ws)) * pt s (.cells [q.v, .int .i64 lim, .int .i64 m].toArray 191))
    (fun mm (st : Int × Int × Unit) => ∃ i w : Nat, st.1 = i ∧ st.2.1 = w ∧ n / 64 ≤ i ∧ i < ws.length ∧ w < 2 ^ 64 ∧ mm = ws.length - i ∧ (∀ x : Nat, n ≤ x → x / 64 < i → U x = false) ∧ (∀ x : Nat, x / 64 = i → w.testBit (x % 64) = (decide (n ≤ x) && U x))) (ws.length - n / 64) rfl
    ⟨n / 64, _, rfl, rfl, Nat.le_refl _, hlt, by omega, rfl, fun x hx h => by omega, fun x hx => ?_⟩ ?_
  · rw [ok.eq x]; unfold Uof
    rw [hx, List.getD_eq_getElem?_getD, List.getElem?_eq_getElem hlt, Option.getD_some, Nat.testBit_mul_two_pow, Nat.testBit_div_two_pow]
    by_cases hnx : n ≤ x
    · rw [decide_eq_true hnx, decide_eq_true (show n % 64 ≤ x % 64 by omega)]
      rw [show x % 64 - n % 64 + n % 64 = x % 64 by omega]
    · rw [decide_eq_false hnx, decide_eq_false (show ¬ n % 64 ≤ x % 64 by omega)]; simp
  rintro mm ⟨s1, s2, u⟩ c ⟨i, w, f1, f2, f8, f3, f4, f5, f6, f7⟩ hc
  simp only at f1 f2
  subst f1 f2 f5
  refine T_vlen (E := 109) (sz := 1) (s := q) (vs := wds (nts ws)) (.init .last) fun hq => ?_
  have hqn : q.n = ws.length := by simpa [wds, nts] using hq
  (repeat' (first | with_reducible refine T_nn ?_ | ((with_reducible apply T_ldS); (focus rfl); (focus exact hasA); (focus rfl)) | with_reducible refine T_brD (fun _ => ?_) (fun _ => ?_) | with_reducible refine T_brE (fun _ => ?_) (fun _ => ?_)))
  · rename_i hz hge
    refine Bm_close ok (h0 fun x hx => ?_)
    rw [w64 (by omega) (by omega)] at hge
    by_cases hxl : x < lim
    · rcases Nat.lt_trichotomy (x / 64) i with h | h | h
      · exact f6 x hx h
      · have := f7 x h
        have hw0 : w = 0 := by simp only at hz; omega
        rw [hw0, decide_eq_true hx, Bool.true_and, Nat.zero_testBit] at this
        exact this.symm
      · omega
    · exact ok.off x (by omega)
  · rename_i hz hlt2
    have hw0 : w = 0 := by simp only at hz; omega
    rw [w64 (by omega) (by omega)] at hlt2
    have hi : i + 1 < ws.length := by omega
    have e3 : IntKind.wrap .i64 ((i : Int) + 1) = ((i + 1 : Nat) : Int) := by rw [w64 (by omega) (by omega)]; omega
    (dsimp only [bitmap_Set_Next, bitmap_Set_Next_s0, bitmap_Set_Next_s1, bitmap_Set_Next_s2, bitmap_Set_Next_s3, bitmap_Set_Next_s4, bitmap_Set_Next_s5, bitmap_Set_Next_s6, bitmap_Set_Next_l7, bitmap_Set_Next_s8, bitmap_Set_Next_s9, bitmap_Set_Next_s10, bitmap_Set_Next_s11, bitmap_Set_Next_s12])
    rw [e3]
    refine T_ixV (Rd.vec (E := 109) (s := q) (vs := wds (nts ws)) (.init .last)) (by omega) (by rw [Int.toNat_natCast]; exact nts_at hi) ?_
    refine hc (ws.length - (i + 1)) _ (by omega) ⟨i + 1, ws[i + 1], rfl, rfl, by omega, hi, ok.lt _ (List.getElem_mem hi), rfl, fun x hx hxi => ?_, fun x hx => ?_⟩
    · by_cases hxe : x / 64 = i
      · have := f7 x hxe
        rw [hw0, decide_eq_true hx, Bool.true_and, Nat.zero_testBit] at this
        exact this.symm
      · exact f6 x hx (by omega)
    · rw [ok.eq x]; unfold Uof
      rw [hx, List.getD_eq_getElem?_getD, List.getElem?_eq_getElem hi, Option.getD_some, decide_eq_true (show n ≤ x by omega), Bool.true_and]
  · rename_i hne
    have hw0 : w ≠ 0 := by simp only at hne; omega
    obtain ⟨j, g1, g2, g3⟩ := low_ex f4 hw0
    refine bits_Lowest_c f4 g1 g3 g2 ?_
    (dsimp only [bitmap_Set_Next, bitmap_Set_Next_s0, bitmap_Set_Next_s1, bitmap_Set_Next_s2, bitmap_Set_Next_s3, bitmap_Set_Next_s4, bitmap_Set_Next_s5, bitmap_Set_Next_s6, bitmap_Set_Next_l7, bitmap_Set_Next_s8, bitmap_Set_Next_s9, bitmap_Set_Next_s10, bitmap_Set_Next_s11, bitmap_Set_Next_s12])
    have e3 : IntKind.wrap .i64 ((IntKind.wrap .i64 ((i : Int) * 64)) + j) = ((64 * i + j : Nat) : Int) := by rw [w64 (n := (i : Int) * 64) (by omega) (by omega), w64 (by omega) (by omega)]; omega
    rw [e3]
    have hx := f7 (64 * i + j) (by omega)
    rw [show (64 * i + j) % 64 = j by omega, g2] at hx
    have hx' := (Bool.and_eq_true_iff.1 hx.symm)
    have hnx : n ≤ 64 * i + j := by simpa using hx'.1
    refine Bm_close ok (h1 _ hnx hx'.2 ?_ fun y hy hyx => ?_)
    · rcases Nat.lt_or_ge (64 * i + j) lim with h | h
      · exact h
      · rw [ok.off _ h] at hx'; cases hx'.2
    · by_cases hyi : y / 64 < i
      · exact f6 y hy hyi
      · have := f7 y (by omega)
        rw [g3 _ (by omega), decide_eq_true hy, Bool.true_and] at this
        exact this.symm
end
end Go.Proofs.YtdgcbapclnnkkaaGreat.X
end
section
/- Printed by a program of this session (gen.py): the functions of the dump over typed primitives, and that they serve for the model's code. No condition. -/
set_option maxRecDepth 100000
set_option linter.unusedVariables false
namespace Go.Proofs.YtdgcbapclnnkkaaGreat.X
open Go
@[reducible] def alloc_Allocator_Objects_s0 (k : (Sl → K)) (x2 : Sl) : K :=
  k x2
@[reducible] def alloc_Allocator_Objects_s1 (a : (Option Addr)) (k : (Sl → K)) : K :=
  nn a fun x4 =>
  ldP (Addr.add x4 3) fun x6 =>
  c_bitmap_Set_List x6 fun x7 =>
  alloc_Allocator_Objects_s0 k x7
@[reducible] def alloc_Allocator_Objects (a : (Option Addr)) : M Sl := fun k =>
  alloc_Allocator_Objects_s1 a k
theorem alloc_Allocator_Objects_ok (a : (Option Addr)) (k : Sl → K) (w : World) (hyp_ : alloc_Allocator_Objects a k w) : c_alloc_Allocator_Objects a k w :=
  cl_of (P := Tryz.prog) Tryz.func12 rfl (by kernel_rfl)
  (RefK.seq [] [0] (fun z_ => [(0, .pointer a)]) (fun z_ => alloc_Allocator_Objects_s1 a k) (by kernel_rfl) (fun _ => by kernel_rfl)
  (RefK.plain [] (by kernel_rfl))
  (fun _ => RefK.seq [(2, .slice)] [] (fun z_ => [(2, z_.1.v)]) (fun z_ => alloc_Allocator_Objects_s0 k z_.1) (by kernel_rfl) (fun _ => by kernel_rfl)
  (RefK.plain [] (by kernel_rfl))
  (fun ⟨x2, _⟩ => RefK.ret (by kernel_rfl)))) hyp_
@[reducible] def alloc_Allocator_Free_s0 (k : (Int → K)) (x6 : Int) : K :=
  k x6
@[reducible] def alloc_Allocator_Free_s1 (x0 : (Option Addr)) (x1 : Int) (x2 : Int) (k : (Int → K)) (x9 : Int) : K :=
  nn x0 fun x76 =>
  ldP (Addr.add x76 4) fun x78 =>
  c_free_Lists_Put x78 x1 x9 x2 fun x82 =>
  alloc_Allocator_Free_s0 k x82
@[reducible] def alloc_Allocator_Free_s2 (k : (Int → K)) (x6_1 : Int) : K :=
  k x6_1
@[reducible] def alloc_Allocator_Free_s3 (x0 : (Option Addr)) (x2 : Int) (k : (Int → K)) (x9 : Int) : K :=
  nn x0 fun x69 =>
  ldP (Addr.add x69 4) fun x71 =>
  c_free_Lists_Push x71 x9 x2 fun x74 =>
  alloc_Allocator_Free_s2 k x74
@[reducible] def alloc_Allocator_Free_s4 (x0 : (Option Addr)) (x1 : Int) (x2 : Int) (k : (Int → K)) (x9 : Int) (x67 : Bool) : K :=
  brK x67
  (alloc_Allocator_Free_s3 x0 x2 k x9)
  (alloc_Allocator_Free_s1 x0 x1 x2 k x9)
@[reducible] def alloc_Allocator_Free_s5 (x0 : (Option Addr)) (x1 : Int) (x2 : Int) (k : (Int → K)) (x9 : Int) : K :=
  brK (decide (x1 < 0))
  (alloc_Allocator_Free_s4 x0 x1 x2 k x9 true)
  (alloc_Allocator_Free_s4 x0 x1 x2 k x9 (decide (x1 ≥ 4)))
@[reducible] def alloc_Allocator_Free_s6 (x0 : (Option Addr)) (x1 : Int) (x2 : Int) (k : (Int → K)) (x9 : Int) : K :=
  nn x0 fun x57 =>
  ldP (Addr.add x57 3) fun x59 =>
  c_bitmap_Set_Drop x59 x2 fun x61 =>
  alloc_Allocator_Free_s5 x0 x1 x2 k x9
@[reducible] def alloc_Allocator_Free_s7 (k : (Int → K)) (x6_2 : Int) : K :=
  k x6_2
@[reducible] def alloc_Allocator_Free_s8 (x0 : (Option Addr)) (x2 : Int) (k : (Int → K)) : K :=
  nn x0 fun x51 =>
  ldP (Addr.add x51 3) fun x53 =>
  c_bitmap_Set_Drop x53 x2 fun x55 =>
  alloc_Allocator_Free_s7 k 0
@[reducible] def alloc_Allocator_Free_s9 (k : (Int → K)) (x6_3 : Int) : K :=
  k x6_3
@[reducible] def alloc_Allocator_Free_s10 (x0 : (Option Addr)) (x2 : Int) (k : (Int → K)) (x11 : Int) (x48 : Bool) : K :=
  brK x48
  (alloc_Allocator_Free_s9 k x11)
  (alloc_Allocator_Free_s8 x0 x2 k)
@[reducible] def alloc_Allocator_Free_s11 (x0 : (Option Addr)) (x2 : Int) (k : (Int → K)) (x11 : Int) : K :=
  alloc_Allocator_Free_s10 x0 x2 k x11 (x11 != 0)
@[reducible] def alloc_Allocator_Free_s12 (x0 : (Option Addr)) (x2 : Int) (k : (Int → K)) : K :=
  tick fun _ =>
  nn x0 fun x37 =>
  ldP (Addr.add x37 0) fun x39 =>
  nn x0 fun x41 =>
  ldI .i64 (Addr.add (Addr.add x41 2) 0) fun x43_0 =>
  c_geom_Geometry_BlockOf x43_0 x2 fun x45 =>
  chk [.cell (Addr.add x37 0) (.pointer x39)] fun _ =>
  c_bman_Manager_Release x39 x45 fun x46 =>
  alloc_Allocator_Free_s11 x0 x2 k x46
@[reducible] def alloc_Allocator_Free_s13 (x0 : (Option Addr)) (x1 : Int) (x2 : Int) (k : (Int → K)) (x9 : Int) (x35 : Bool) : K :=
  brK x35
  (alloc_Allocator_Free_s12 x0 x2 k)
  (alloc_Allocator_Free_s6 x0 x1 x2 k x9)
@[reducible] def alloc_Allocator_Free_s14 (x0 : (Option Addr)) (x1 : Int) (x2 : Int) (k : (Int → K)) (x9 : Int) (x10 : Bool) : K :=
  alloc_Allocator_Free_s13 x0 x1 x2 k x9 (!x10)
@[reducible] def alloc_Allocator_Free_s15 (x0 : (Option Addr)) (x1 : Int) (x2 : Int) (k : (Int → K)) (x7 : Addr) : K :=
  ldI .i64 (Addr.add x7 0) fun x30_0 =>
  ldI .i64 (Addr.add x7 1) fun x30_1 =>
  c_ohead_Object_Small (x30_0, x30_1) fun x31 =>
  alloc_Allocator_Free_s14 x0 x1 x2 k x31.1 x31.2
@[reducible] def alloc_Allocator_Free_s16 (k : (Int → K)) (x6_4 : Int) : K :=
  k x6_4
@[reducible] def alloc_Allocator_Free_s17 (x0 : (Option Addr)) (x1 : Int) (x2 : Int) (k : (Int → K)) (x7 : Addr) (x28 : Bool) : K :=
  brK x28
  (alloc_Allocator_Free_s16 k 42)
  (alloc_Allocator_Free_s15 x0 x1 x2 k x7)
@[reducible] def alloc_Allocator_Free_s18 (x0 : (Option Addr)) (x1 : Int) (x2 : Int) (k : (Int → K)) (x7 : Addr) (x8 : Bool) : K :=
  brK (!x8)
  (alloc_Allocator_Free_s17 x0 x1 x2 k x7 true)
  (nn x0 fun x22 =>
  ldP (Addr.add x22 3) fun x24 =>
  c_bitmap_Set_Has x24 x2 fun x26 =>
  alloc_Allocator_Free_s17 x0 x1 x2 k x7 (!x26))
@[reducible] def alloc_Allocator_Free_s19 (x0 : (Option Addr)) (x1 : Int) (x2 : Int) (k : (Int → K)) : K :=
  c_alloc_Allocator_Place x0 x2 fun x15 =>
  alK (.cells #[.int .i64 0, .int .i64 0] 68) fun b =>
  stK (Addr.add ⟨b, 0, none⟩ 0) (.int .i64 x15.1.1) <|
  stK (Addr.add ⟨b, 0, none⟩ 1) (.int .i64 x15.1.2) <|
  alloc_Allocator_Free_s18 x0 x1 x2 k ⟨b, 0, none⟩ x15.2
@[reducible] def alloc_Allocator_Free (x0 : (Option Addr)) (x1 : Int) (x2 : Int) : M Int := fun k =>
  alloc_Allocator_Free_s19 x0 x1 x2 k
theorem alloc_Allocator_Free_ok (x0 : (Option Addr)) (x1 : Int) (x2 : Int) (k : Int → K) (w : World) (hyp_ : alloc_Allocator_Free x0 x1 x2 k w) : c_alloc_Allocator_Free x0 x1 x2 k w :=
  cl_of (P := Tryz.prog) Tryz.func24 rfl (by kernel_rfl)
  (RefK.seq [] [0, 1, 2] (fun z_ => [(0, .pointer x0), (1, .int .i64 x1), (2, .int .i64 x2)]) (fun z_ => alloc_Allocator_Free_s19 x0 x1 x2 k) (by kernel_rfl) (fun _ => by kernel_rfl)
  (RefK.plain [] (by kernel_rfl))
  (fun _ => RefK.seq [(7, .addr), (8, .bool)] [0, 1, 2] (fun z_ => [(7, .pointer (some z_.1)), (8, .bool z_.2.1), (0, .pointer x0), (1, .int .i64 x1), (2, .int .i64 x2)]) (fun z_ => alloc_Allocator_Free_s18 x0 x1 x2 k z_.1 z_.2.1) (by kernel_rfl) (fun _ => by kernel_rfl)
  (RefK.plain [] (by kernel_rfl))
  (fun ⟨x7, x8, _⟩ => RefK.seq [] [0, 1, 2, 7] (fun z_ => [(0, .pointer x0), (1, .int .i64 x1), (2, .int .i64 x2), (7, .pointer (some x7))]) (fun z_ => alloc_Allocator_Free_s15 x0 x1 x2 k x7) (by kernel_rfl) (fun _ => by kernel_rfl)
  (RefK.seq [(28, .bool)] [0, 1, 2, 7] (fun z_ => [(28, .bool z_.1), (0, .pointer x0), (1, .int .i64 x1), (2, .int .i64 x2), (7, .pointer (some x7))]) (fun z_ => alloc_Allocator_Free_s17 x0 x1 x2 k x7 z_.1) (by kernel_rfl) (fun _ => by kernel_rfl)
  (RefK.plain [2] (by kernel_rfl))
  (fun ⟨x28, _⟩ => RefK.cond (b := x28) (t1 := alloc_Allocator_Free_s16 k 42) (t2 := alloc_Allocator_Free_s15 x0 x1 x2 k x7) (by kernel_rfl) (by kernel_rfl) (fun w h => brK_spec w h) (RefK.seq [(6, .int .i64)] [] (fun z_ => [(6, .int .i64 z_.1)]) (fun z_ => alloc_Allocator_Free_s16 k z_.1) (by kernel_rfl) (fun _ => by kernel_rfl)
  (RefK.plain [] (by kernel_rfl))
  (fun ⟨x6_4, _⟩ => RefK.ret (by kernel_rfl))) (RefK.skip (by kernel_rfl))))
  (fun _ => RefK.seq [(9, .int .i64), (10, .bool)] [0, 1, 2] (fun z_ => [(9, .int .i64 z_.1), (10, .bool z_.2.1), (0, .pointer x0), (1, .int .i64 x1), (2, .int .i64 x2)]) (fun z_ => alloc_Allocator_Free_s14 x0 x1 x2 k z_.1 z_.2.1) (by kernel_rfl) (fun _ => by kernel_rfl)
  (RefK.plain [] (by kernel_rfl))
  (fun ⟨x9, x10, _⟩ => RefK.seq [] [0, 1, 2, 9] (fun z_ => [(0, .pointer x0), (1, .int .i64 x1), (2, .int .i64 x2), (9, .int .i64 x9)]) (fun z_ => alloc_Allocator_Free_s6 x0 x1 x2 k x9) (by kernel_rfl) (fun _ => by kernel_rfl)
  (RefK.seq [(35, .bool)] [0, 1, 2, 9] (fun z_ => [(35, .bool z_.1), (0, .pointer x0), (1, .int .i64 x1), (2, .int .i64 x2), (9, .int .i64 x9)]) (fun z_ => alloc_Allocator_Free_s13 x0 x1 x2 k x9 z_.1) (by kernel_rfl) (fun _ => by kernel_rfl)
  (RefK.plain [] (by kernel_rfl))
  (fun ⟨x35, _⟩ => RefK.cond (b := x35) (t1 := alloc_Allocator_Free_s12 x0 x2 k) (t2 := alloc_Allocator_Free_s6 x0 x1 x2 k x9) (by kernel_rfl) (by kernel_rfl) (fun w h => brK_spec w h) (RefK.seq [] [0, 2] (fun z_ => [(0, .pointer x0), (2, .int .i64 x2)]) (fun z_ => alloc_Allocator_Free_s8 x0 x2 k) (by kernel_rfl) (fun _ => by kernel_rfl)
  (RefK.seq [(11, .int .i64)] [0, 2] (fun z_ => [(11, .int .i64 z_.1), (0, .pointer x0), (2, .int .i64 x2)]) (fun z_ => alloc_Allocator_Free_s11 x0 x2 k z_.1) (by kernel_rfl) (fun _ => by kernel_rfl)
  (RefK.draw [] [0, 1, 3, 7, 0, 16, 48, 112, 0, 496, 1023, 2047] [0, 1, 2, 3, 4, 5, 6, 7, 8, 9, 10, 11] [0, 1, 2, 3, 4, 5, 6, 7, 8, 9, 10, 11] (by kernel_rfl) (by kernel_rfl))
  (fun ⟨x11, _⟩ => RefK.seq [(48, .bool)] [0, 2, 11] (fun z_ => [(48, .bool z_.1), (0, .pointer x0), (2, .int .i64 x2), (11, .int .i64 x11)]) (fun z_ => alloc_Allocator_Free_s10 x0 x2 k x11 z_.1) (by kernel_rfl) (fun _ => by kernel_rfl)
  (RefK.plain [] (by kernel_rfl))
  (fun ⟨x48, _⟩ => RefK.cond (b := x48) (t1 := alloc_Allocator_Free_s9 k x11) (t2 := alloc_Allocator_Free_s8 x0 x2 k) (by kernel_rfl) (by kernel_rfl) (fun w h => brK_spec w h) (RefK.seq [(6, .int .i64)] [] (fun z_ => [(6, .int .i64 z_.1)]) (fun z_ => alloc_Allocator_Free_s9 k z_.1) (by kernel_rfl) (fun _ => by kernel_rfl)
  (RefK.plain [] (by kernel_rfl))
  (fun ⟨x6_3, _⟩ => RefK.ret (by kernel_rfl))) (RefK.skip (by kernel_rfl)))))
  (fun _ => RefK.seq [] [] (fun z_ => []) (fun z_ => alloc_Allocator_Free_s7 k 0) (by kernel_rfl) (fun _ => by kernel_rfl)
  (RefK.plain [] (by kernel_rfl))
  (fun _ => RefK.seq [(6, .int .i64)] [] (fun z_ => [(6, .int .i64 z_.1)]) (fun z_ => alloc_Allocator_Free_s7 k z_.1) (by kernel_rfl) (fun _ => by kernel_rfl)
  (RefK.plain [] (by kernel_rfl))
  (fun ⟨x6_2, _⟩ => RefK.ret (by kernel_rfl))))) (RefK.skip (by kernel_rfl))))
  (fun _ => RefK.seq [] [0, 1, 2, 9] (fun z_ => [(0, .pointer x0), (1, .int .i64 x1), (2, .int .i64 x2), (9, .int .i64 x9)]) (fun z_ => alloc_Allocator_Free_s5 x0 x1 x2 k x9) (by kernel_rfl) (fun _ => by kernel_rfl)
  (RefK.plain [] (by kernel_rfl))
  (fun _ => RefK.seq [] [0, 1, 2, 9] (fun z_ => [(0, .pointer x0), (1, .int .i64 x1), (2, .int .i64 x2), (9, .int .i64 x9)]) (fun z_ => alloc_Allocator_Free_s1 x0 x1 x2 k x9) (by kernel_rfl) (fun _ => by kernel_rfl)
  (RefK.seq [(67, .bool)] [0, 1, 2, 9] (fun z_ => [(67, .bool z_.1), (0, .pointer x0), (1, .int .i64 x1), (2, .int .i64 x2), (9, .int .i64 x9)]) (fun z_ => alloc_Allocator_Free_s4 x0 x1 x2 k x9 z_.1) (by kernel_rfl) (fun _ => by kernel_rfl)
  (RefK.plain [2] (by kernel_rfl))
  (fun ⟨x67, _⟩ => RefK.cond (b := x67) (t1 := alloc_Allocator_Free_s3 x0 x2 k x9) (t2 := alloc_Allocator_Free_s1 x0 x1 x2 k x9) (by kernel_rfl) (by kernel_rfl) (fun w h => brK_spec w h) (RefK.seq [(6, .int .i64)] [] (fun z_ => [(6, .int .i64 z_.1)]) (fun z_ => alloc_Allocator_Free_s2 k z_.1) (by kernel_rfl) (fun _ => by kernel_rfl)
  (RefK.plain [] (by kernel_rfl))
  (fun ⟨x6_1, _⟩ => RefK.ret (by kernel_rfl))) (RefK.skip (by kernel_rfl))))
  (fun _ => RefK.seq [(6, .int .i64)] [] (fun z_ => [(6, .int .i64 z_.1)]) (fun z_ => alloc_Allocator_Free_s0 k z_.1) (by kernel_rfl) (fun _ => by kernel_rfl)
  (RefK.plain [] (by kernel_rfl))
  (fun ⟨x6, _⟩ => RefK.ret (by kernel_rfl)))))))))) hyp_
@[reducible] def alloc_Allocator_Alloc_s0 (k : ((Int × Int) → K)) (x8 : Int) (x9 : Int) : K :=
  k (x8, x9)
@[reducible] def alloc_Allocator_Alloc_s1 (x0 : (Option Addr)) (k : ((Int × Int) → K)) (x11 : Int) : K :=
  nn x0 fun x59 =>
  ldP (Addr.add x59 3) fun x61 =>
  c_bitmap_Set_Add x61 x11 fun x63 =>
  alloc_Allocator_Alloc_s0 k x11 0
@[reducible] def alloc_Allocator_Alloc_s2 (k : ((Int × Int) → K)) (x8_1 : Int) (x9_1 : Int) : K :=
  k (x8_1, x9_1)
@[reducible] def alloc_Allocator_Alloc_s3 (x0 : (Option Addr)) (k : ((Int × Int) → K)) (x11 : Int) (x13 : Int) (x56 : Bool) : K :=
  brK x56
  (alloc_Allocator_Alloc_s2 k 0 x13)
  (alloc_Allocator_Alloc_s1 x0 k x11)
@[reducible] def alloc_Allocator_Alloc_s4 (x0 : (Option Addr)) (k : ((Int × Int) → K)) (x11 : Int) (x13 : Int) : K :=
  alloc_Allocator_Alloc_s3 x0 k x11 x13 (x13 != 0)
@[reducible] def alloc_Allocator_Alloc_s5 (x0 : (Option Addr)) (k : ((Int × Int) → K)) (x10 : Addr) (x11 : Int) : K :=
  tick fun _ =>
  nn x0 fun x49 =>
  ldP (Addr.add x49 1) fun x51 =>
  ldI .i64 (Addr.add x10 0) fun x53_0 =>
  ldI .i64 (Addr.add x10 1) fun x53_1 =>
  c_object_Init x51 x11 (x53_0, x53_1) fun x54 =>
  alloc_Allocator_Alloc_s4 x0 k x11 x54
@[reducible] def alloc_Allocator_Alloc_s6 (k : ((Int × Int) → K)) (x8_2 : Int) (x9_2 : Int) : K :=
  k (x8_2, x9_2)
@[reducible] def alloc_Allocator_Alloc_s7 (x0 : (Option Addr)) (k : ((Int × Int) → K)) (x10 : Addr) (x11 : Int) (x12 : Int) (x46 : Bool) : K :=
  brK x46
  (alloc_Allocator_Alloc_s6 k 0 x12)
  (alloc_Allocator_Alloc_s5 x0 k x10 x11)
@[reducible] def alloc_Allocator_Alloc_s8 (x0 : (Option Addr)) (k : ((Int × Int) → K)) (x10 : Addr) (x11 : Int) (x12 : Int) : K :=
  alloc_Allocator_Alloc_s7 x0 k x10 x11 x12 (x12 != 0)
@[reducible] def alloc_Allocator_Alloc_s9 (x0 : (Option Addr)) (x1 : Int) (k : ((Int × Int) → K)) (x10 : Addr) : K :=
  ldI .i64 (Addr.add x10 0) fun x41_0 =>
  ldI .i64 (Addr.add x10 1) fun x41_1 =>
  c_alloc_Allocator_room x0 x1 (x41_0, x41_1) fun x42 =>
  alloc_Allocator_Alloc_s8 x0 k x10 x42.1 x42.2
@[reducible] def alloc_Allocator_Alloc_s10 (k : ((Int × Int) → K)) (x8_3 : Int) (x9_3 : Int) : K :=
  k (x8_3, x9_3)
@[reducible] def alloc_Allocator_Alloc_s11 (k : ((Int × Int) → K)) (x8_4 : Int) (x9_4 : Int) : K :=
  k (x8_4, x9_4)
@[reducible] def alloc_Allocator_Alloc_s12 (x0 : (Option Addr)) (x1 : Int) (k : ((Int × Int) → K)) (x10 : Addr) (x24 : Bool) : K :=
  brK x24
  (alloc_Allocator_Alloc_s11 k 0 5)
  (alloc_Allocator_Alloc_s9 x0 x1 k x10)
@[reducible] def alloc_Allocator_Alloc_s13 (x0 : (Option Addr)) (x1 : Int) (k : ((Int × Int) → K)) (x10 : Addr) : K :=
  tick fun _ =>
  ldI .i64 (Addr.add x10 0) fun x25_0 =>
  ldI .i64 (Addr.add x10 1) fun x25_1 =>
  c_ohead_Object_Size (x25_0, x25_1) fun x26 =>
  brK (x26 == 0)
  (alloc_Allocator_Alloc_s12 x0 x1 k x10 true)
  (ldI .i64 (Addr.add x10 0) fun x29_0 =>
  ldI .i64 (Addr.add x10 1) fun x29_1 =>
  nn x0 fun x32 =>
  ldI .i64 (Addr.add (Addr.add x32 2) 0) fun x34_0 =>
  c_ohead_Object_Size (x29_0, x29_1) fun x30 =>
  chk [.cell (Addr.add (Addr.add x32 2) 0) (.int .i64 x34_0)] fun _ =>
  c_geom_Geometry_Most x34_0 fun x35 =>
  alloc_Allocator_Alloc_s12 x0 x1 k x10 (decide (x30 > x35)))
@[reducible] def alloc_Allocator_Alloc_s14 (x0 : (Option Addr)) (x1 : Int) (k : ((Int × Int) → K)) (x10 : Addr) (x17 : Bool) : K :=
  brK x17
  (alloc_Allocator_Alloc_s10 k 0 1)
  (alloc_Allocator_Alloc_s13 x0 x1 k x10)
@[reducible] def alloc_Allocator_Alloc_s15 (x0 : (Option Addr)) (x1 : Int) (k : ((Int × Int) → K)) (x10 : Addr) : K :=
  brK (decide (x1 < 0))
  (alloc_Allocator_Alloc_s14 x0 x1 k x10 true)
  (alloc_Allocator_Alloc_s14 x0 x1 k x10 (decide (x1 ≥ 4)))
@[reducible] def alloc_Allocator_Alloc_s16 (x0 : (Option Addr)) (x1 : Int) (x2 : Int) (x3 : Int) (k : ((Int × Int) → K)) : K :=
  alK (.cells #[.int .i64 0, .int .i64 0] 68) fun b =>
  stK (Addr.add ⟨b, 0, none⟩ 0) (.int .i64 x2) <|
  stK (Addr.add ⟨b, 0, none⟩ 1) (.int .i64 x3) <|
  alloc_Allocator_Alloc_s15 x0 x1 k ⟨b, 0, none⟩
@[reducible] def alloc_Allocator_Alloc (x0 : (Option Addr)) (x1 : Int) (x2 : Int) (x3 : Int) : M (Int × Int) := fun k =>
  alloc_Allocator_Alloc_s16 x0 x1 x2 x3 k
theorem alloc_Allocator_Alloc_ok (x0 : (Option Addr)) (x1 : Int) (x2 : Int) (x3 : Int) (k : (Int × Int) → K) (w : World) (hyp_ : alloc_Allocator_Alloc x0 x1 x2 x3 k w) : c_alloc_Allocator_Alloc x0 x1 x2 x3 k w :=
  cl_of (P := Tryz.prog) Tryz.func32 rfl (by kernel_rfl)
  (RefK.seq [] [0, 1, 2, 3] (fun z_ => [(0, .pointer x0), (1, .int .i64 x1), (2, .int .i64 x2), (3, .int .i64 x3)]) (fun z_ => alloc_Allocator_Alloc_s16 x0 x1 x2 x3 k) (by kernel_rfl) (fun _ => by kernel_rfl)
  (RefK.plain [] (by kernel_rfl))
  (fun _ => RefK.seq [(10, .addr)] [0, 1] (fun z_ => [(10, .pointer (some z_.1)), (0, .pointer x0), (1, .int .i64 x1)]) (fun z_ => alloc_Allocator_Alloc_s15 x0 x1 k z_.1) (by kernel_rfl) (fun _ => by kernel_rfl)
  (RefK.plain [] (by kernel_rfl))
  (fun ⟨x10, _⟩ => RefK.seq [] [0, 1, 10] (fun z_ => [(0, .pointer x0), (1, .int .i64 x1), (10, .pointer (some x10))]) (fun z_ => alloc_Allocator_Alloc_s9 x0 x1 k x10) (by kernel_rfl) (fun _ => by kernel_rfl)
  (RefK.block (RefK.seq [(17, .bool)] [0, 1, 10] (fun z_ => [(17, .bool z_.1), (0, .pointer x0), (1, .int .i64 x1), (10, .pointer (some x10))]) (fun z_ => alloc_Allocator_Alloc_s14 x0 x1 k x10 z_.1) (by kernel_rfl) (fun _ => by kernel_rfl)
  (RefK.plain [2] (by kernel_rfl))
  (fun ⟨x17, _⟩ => RefK.cond (b := x17) (t1 := alloc_Allocator_Alloc_s10 k 0 1) (t2 := alloc_Allocator_Alloc_s13 x0 x1 k x10) (by kernel_rfl) (by kernel_rfl) (fun w h => brK_spec w h) (RefK.seq [(8, .int .i64), (9, .int .i64)] [] (fun z_ => [(8, .int .i64 z_.1), (9, .int .i64 z_.2.1)]) (fun z_ => alloc_Allocator_Alloc_s10 k z_.1 z_.2.1) (by kernel_rfl) (fun _ => by kernel_rfl)
  (RefK.plain [] (by kernel_rfl))
  (fun ⟨x8_3, x9_3, _⟩ => RefK.ret (by kernel_rfl))) (RefK.seq [(24, .bool)] [0, 1, 10] (fun z_ => [(24, .bool z_.1), (0, .pointer x0), (1, .int .i64 x1), (10, .pointer (some x10))]) (fun z_ => alloc_Allocator_Alloc_s12 x0 x1 k x10 z_.1) (by kernel_rfl) (fun _ => by kernel_rfl)
  (RefK.draw [3] [0, 1, 3, 7, 15, 31, 15, 79, 207, 463, 1023, 2047, 4095, 8191] [0, 1, 2, 3, 4, 6, 7, 8, 9, 5, 10, 11, 12, 13] [0, 1, 2, 3, 4, 5, 6, 7, 8, 9, 10, 11, 12, 13] (by kernel_rfl) (by kernel_rfl))
  (fun ⟨x24, _⟩ => RefK.cond (b := x24) (t1 := alloc_Allocator_Alloc_s11 k 0 5) (t2 := alloc_Allocator_Alloc_s9 x0 x1 k x10) (by kernel_rfl) (by kernel_rfl) (fun w h => brK_spec w h) (RefK.seq [(8, .int .i64), (9, .int .i64)] [] (fun z_ => [(8, .int .i64 z_.1), (9, .int .i64 z_.2.1)]) (fun z_ => alloc_Allocator_Alloc_s11 k z_.1 z_.2.1) (by kernel_rfl) (fun _ => by kernel_rfl)
  (RefK.plain [] (by kernel_rfl))
  (fun ⟨x8_4, x9_4, _⟩ => RefK.ret (by kernel_rfl))) (RefK.skip (by kernel_rfl)))))))
  (fun _ => RefK.seq [(11, .int .i64), (12, .int .i64)] [0, 10] (fun z_ => [(11, .int .i64 z_.1), (12, .int .i64 z_.2.1), (0, .pointer x0), (10, .pointer (some x10))]) (fun z_ => alloc_Allocator_Alloc_s8 x0 k x10 z_.1 z_.2.1) (by kernel_rfl) (fun _ => by kernel_rfl)
  (RefK.plain [] (by kernel_rfl))
  (fun ⟨x11, x12, _⟩ => RefK.seq [] [0, 10, 11] (fun z_ => [(0, .pointer x0), (10, .pointer (some x10)), (11, .int .i64 x11)]) (fun z_ => alloc_Allocator_Alloc_s5 x0 k x10 x11) (by kernel_rfl) (fun _ => by kernel_rfl)
  (RefK.seq [(46, .bool)] [0, 10, 11, 12] (fun z_ => [(46, .bool z_.1), (0, .pointer x0), (10, .pointer (some x10)), (11, .int .i64 x11), (12, .int .i64 x12)]) (fun z_ => alloc_Allocator_Alloc_s7 x0 k x10 x11 x12 z_.1) (by kernel_rfl) (fun _ => by kernel_rfl)
  (RefK.plain [] (by kernel_rfl))
  (fun ⟨x46, _⟩ => RefK.cond (b := x46) (t1 := alloc_Allocator_Alloc_s6 k 0 x12) (t2 := alloc_Allocator_Alloc_s5 x0 k x10 x11) (by kernel_rfl) (by kernel_rfl) (fun w h => brK_spec w h) (RefK.seq [(8, .int .i64), (9, .int .i64)] [] (fun z_ => [(8, .int .i64 z_.1), (9, .int .i64 z_.2.1)]) (fun z_ => alloc_Allocator_Alloc_s6 k z_.1 z_.2.1) (by kernel_rfl) (fun _ => by kernel_rfl)
  (RefK.plain [] (by kernel_rfl))
  (fun ⟨x8_2, x9_2, _⟩ => RefK.ret (by kernel_rfl))) (RefK.skip (by kernel_rfl))))
  (fun _ => RefK.seq [] [0, 11] (fun z_ => [(0, .pointer x0), (11, .int .i64 x11)]) (fun z_ => alloc_Allocator_Alloc_s1 x0 k x11) (by kernel_rfl) (fun _ => by kernel_rfl)
  (RefK.seq [(13, .int .i64)] [0, 11] (fun z_ => [(13, .int .i64 z_.1), (0, .pointer x0), (11, .int .i64 x11)]) (fun z_ => alloc_Allocator_Alloc_s4 x0 k x11 z_.1) (by kernel_rfl) (fun _ => by kernel_rfl)
  (RefK.draw [] [0, 1, 3, 7, 0, 0, 63, 127] [0, 1, 2, 3, 4, 5, 6, 7] [0, 1, 2, 3, 4, 5, 6, 7] (by kernel_rfl) (by kernel_rfl))
  (fun ⟨x13, _⟩ => RefK.seq [(56, .bool)] [0, 11, 13] (fun z_ => [(56, .bool z_.1), (0, .pointer x0), (11, .int .i64 x11), (13, .int .i64 x13)]) (fun z_ => alloc_Allocator_Alloc_s3 x0 k x11 x13 z_.1) (by kernel_rfl) (fun _ => by kernel_rfl)
  (RefK.plain [] (by kernel_rfl))
  (fun ⟨x56, _⟩ => RefK.cond (b := x56) (t1 := alloc_Allocator_Alloc_s2 k 0 x13) (t2 := alloc_Allocator_Alloc_s1 x0 k x11) (by kernel_rfl) (by kernel_rfl) (fun w h => brK_spec w h) (RefK.seq [(8, .int .i64), (9, .int .i64)] [] (fun z_ => [(8, .int .i64 z_.1), (9, .int .i64 z_.2.1)]) (fun z_ => alloc_Allocator_Alloc_s2 k z_.1 z_.2.1) (by kernel_rfl) (fun _ => by kernel_rfl)
  (RefK.plain [] (by kernel_rfl))
  (fun ⟨x8_1, x9_1, _⟩ => RefK.ret (by kernel_rfl))) (RefK.skip (by kernel_rfl)))))
  (fun _ => RefK.seq [] [11] (fun z_ => [(11, .int .i64 x11)]) (fun z_ => alloc_Allocator_Alloc_s0 k x11 0) (by kernel_rfl) (fun _ => by kernel_rfl)
  (RefK.plain [] (by kernel_rfl))
  (fun _ => RefK.seq [(8, .int .i64), (9, .int .i64)] [] (fun z_ => [(8, .int .i64 z_.1), (9, .int .i64 z_.2.1)]) (fun z_ => alloc_Allocator_Alloc_s0 k z_.1 z_.2.1) (by kernel_rfl) (fun _ => by kernel_rfl)
  (RefK.plain [] (by kernel_rfl))
  (fun ⟨x8, x9, _⟩ => RefK.ret (by kernel_rfl)))))))))) hyp_
@[reducible] def object_Head_s0 (k : (((Int × Int) × Int) → K)) (x4 : Addr) (x5 : Int) : K :=
  ldI .i64 (Addr.add x4 0) fun x4_0 =>
  ldI .i64 (Addr.add x4 1) fun x4_1 =>
  k ((x4_0, x4_1), x5)
@[reducible] def object_Head_s1 (k : (((Int × Int) × Int) → K)) (x4 : Addr) (o : Addr) : K :=
  ldI .i64 (Addr.add o 0) fun x37_0 =>
  ldI .i64 (Addr.add o 1) fun x37_1 =>
  stK (Addr.add x4 0) (.int .i64 x37_0) <|
  stK (Addr.add x4 1) (.int .i64 x37_1) <|
  object_Head_s0 k x4 0
@[reducible] def object_Head_s2 (k : (((Int × Int) × Int) → K)) (x4 : Addr) (x5_1 : Int) : K :=
  ldI .i64 (Addr.add x4 0) fun x4_0_1 =>
  ldI .i64 (Addr.add x4 1) fun x4_1_1 =>
  k ((x4_0_1, x4_1_1), x5_1)
@[reducible] def object_Head_s3 (k : (((Int × Int) × Int) → K)) (x4 : Addr) : K :=
  stK (Addr.add x4 0) (.int .i64 0) <|
  stK (Addr.add x4 1) (.int .i64 0) <|
  object_Head_s2 k x4 22
@[reducible] def object_Head_s4 (k : (((Int × Int) × Int) → K)) (x4 : Addr) (o : Addr) (x35 : Bool) : K :=
  brK x35
  (object_Head_s3 k x4)
  (object_Head_s1 k x4 o)
@[reducible] def object_Head_s5 (d : (Option Addr)) (at_1 : Int) (k : (((Int × Int) × Int) → K)) (x4 : Addr) (o : Addr) (e : Int) : K :=
  brK (e != 0)
  (object_Head_s4 k x4 o true)
  (ldI .i64 (Addr.add o 0) fun x28_0 =>
  ldI .i64 (Addr.add o 1) fun x28_1 =>
  c_ohead_Object_Size (x28_0, x28_1) fun x29 =>
  c_nvm_Device_Len d fun x31 =>
  object_Head_s4 k x4 o (decide (x29 > (IntKind.wrap .i64 (x31 - at_1)))))
@[reducible] def object_Head_s6 (d : (Option Addr)) (at_1 : Int) (k : (((Int × Int) × Int) → K)) (x4 : Addr) : K :=
  c_nvm_Device_Get d at_1 fun x21 =>
  c_ohead_Decode at_1 x21 fun x22 =>
  alK (.cells #[.int .i64 0, .int .i64 0] 68) fun b =>
  stK (Addr.add ⟨b, 0, none⟩ 0) (.int .i64 x22.1.1) <|
  stK (Addr.add ⟨b, 0, none⟩ 1) (.int .i64 x22.1.2) <|
  object_Head_s5 d at_1 k x4 ⟨b, 0, none⟩ x22.2
@[reducible] def object_Head_s7 (k : (((Int × Int) × Int) → K)) (x4 : Addr) (x5_2 : Int) : K :=
  ldI .i64 (Addr.add x4 0) fun x4_0_2 =>
  ldI .i64 (Addr.add x4 1) fun x4_1_2 =>
  k ((x4_0_2, x4_1_2), x5_2)
@[reducible] def object_Head_s8 (k : (((Int × Int) × Int) → K)) (x4 : Addr) : K :=
  stK (Addr.add x4 0) (.int .i64 0) <|
  stK (Addr.add x4 1) (.int .i64 0) <|
  object_Head_s7 k x4 22
@[reducible] def object_Head_s9 (d : (Option Addr)) (at_1 : Int) (k : (((Int × Int) × Int) → K)) (x4 : Addr) (x15 : Bool) : K :=
  brK x15
  (object_Head_s8 k x4)
  (object_Head_s6 d at_1 k x4)
@[reducible] def object_Head_s10 (d : (Option Addr)) (at_1 : Int) (k : (((Int × Int) × Int) → K)) (x4 : Addr) : K :=
  brK (decide (at_1 < 0))
  (object_Head_s9 d at_1 k x4 true)
  (c_nvm_Device_Len d fun x13 =>
  object_Head_s9 d at_1 k x4 (decide (at_1 ≥ x13)))
@[reducible] def object_Head (d : (Option Addr)) (at_1 : Int) : M ((Int × Int) × Int) := fun k =>
  alK (.cells #[.int .i64 0, .int .i64 0] 68) fun b_1 =>
  object_Head_s10 d at_1 k ⟨b_1, 0, none⟩
theorem object_Head_ok (d : (Option Addr)) (at_1 : Int) (k : ((Int × Int) × Int) → K) (w : World) (hyp_ : object_Head d at_1 k w) : c_object_Head d at_1 k w :=
  cl_of (P := Tryz.prog) Tryz.func55 rfl (by kernel_rfl)
  (RefK.seq [(4, .addr)] [0, 1] (fun z_ => [(4, .pointer (some z_.1)), (0, .pointer d), (1, .int .i64 at_1)]) (fun z_ => object_Head_s10 d at_1 k z_.1) (by kernel_rfl) (fun _ => by kernel_rfl)
  (RefK.plain [] (by kernel_rfl))
  (fun ⟨x4, _⟩ => RefK.seq [] [0, 1, 4] (fun z_ => [(0, .pointer d), (1, .int .i64 at_1), (4, .pointer (some x4))]) (fun z_ => object_Head_s6 d at_1 k x4) (by kernel_rfl) (fun _ => by kernel_rfl)
  (RefK.seq [(15, .bool)] [0, 1, 4] (fun z_ => [(15, .bool z_.1), (0, .pointer d), (1, .int .i64 at_1), (4, .pointer (some x4))]) (fun z_ => object_Head_s9 d at_1 k x4 z_.1) (by kernel_rfl) (fun _ => by kernel_rfl)
  (RefK.plain [2] (by kernel_rfl))
  (fun ⟨x15, _⟩ => RefK.cond (b := x15) (t1 := object_Head_s8 k x4) (t2 := object_Head_s6 d at_1 k x4) (by kernel_rfl) (by kernel_rfl) (fun w h => brK_spec w h) (RefK.seq [(5, .int .i64)] [4] (fun z_ => [(5, .int .i64 z_.1), (4, .pointer (some x4))]) (fun z_ => object_Head_s7 k x4 z_.1) (by kernel_rfl) (fun _ => by kernel_rfl)
  (RefK.plain [] (by kernel_rfl))
  (fun ⟨x5_2, _⟩ => RefK.ret (by kernel_rfl))) (RefK.skip (by kernel_rfl))))
  (fun _ => RefK.seq [(6, .addr), (7, .int .i64)] [0, 1, 4] (fun z_ => [(6, .pointer (some z_.1)), (7, .int .i64 z_.2.1), (0, .pointer d), (1, .int .i64 at_1), (4, .pointer (some x4))]) (fun z_ => object_Head_s5 d at_1 k x4 z_.1 z_.2.1) (by kernel_rfl) (fun _ => by kernel_rfl)
  (RefK.plain [] (by kernel_rfl))
  (fun ⟨o, e, _⟩ => RefK.seq [] [4, 6] (fun z_ => [(4, .pointer (some x4)), (6, .pointer (some o))]) (fun z_ => object_Head_s1 k x4 o) (by kernel_rfl) (fun _ => by kernel_rfl)
  (RefK.seq [(35, .bool)] [4, 6] (fun z_ => [(35, .bool z_.1), (4, .pointer (some x4)), (6, .pointer (some o))]) (fun z_ => object_Head_s4 k x4 o z_.1) (by kernel_rfl) (fun _ => by kernel_rfl)
  (RefK.plain [2] (by kernel_rfl))
  (fun ⟨x35, _⟩ => RefK.cond (b := x35) (t1 := object_Head_s3 k x4) (t2 := object_Head_s1 k x4 o) (by kernel_rfl) (by kernel_rfl) (fun w h => brK_spec w h) (RefK.seq [(5, .int .i64)] [4] (fun z_ => [(5, .int .i64 z_.1), (4, .pointer (some x4))]) (fun z_ => object_Head_s2 k x4 z_.1) (by kernel_rfl) (fun _ => by kernel_rfl)
  (RefK.plain [] (by kernel_rfl))
  (fun ⟨x5_1, _⟩ => RefK.ret (by kernel_rfl))) (RefK.skip (by kernel_rfl))))
  (fun _ => RefK.seq [(5, .int .i64)] [4] (fun z_ => [(5, .int .i64 z_.1), (4, .pointer (some x4))]) (fun z_ => object_Head_s0 k x4 z_.1) (by kernel_rfl) (fun _ => by kernel_rfl)
  (RefK.plain [] (by kernel_rfl))
  (fun ⟨x5, _⟩ => RefK.ret (by kernel_rfl))))))) hyp_
@[reducible] def alloc_Placed_s0 (k : (((Int × Int) × Bool) → K)) (x8 : Addr) (x9 : Bool) : K :=
  ldI .i64 (Addr.add x8 0) fun x8_0 =>
  ldI .i64 (Addr.add x8 1) fun x8_1 =>
  k ((x8_0, x8_1), x9)
@[reducible] def alloc_Placed_s1 (x3 : Int) (k : (((Int × Int) × Bool) → K)) (x5 : Addr) (x8 : Addr) (x10 : Int) (x11 : Addr) (x18 : Int) (x19 : Bool) : K :=
  tick fun _ =>
  ldI .i64 (Addr.add x11 0) fun x72_0 =>
  ldI .i64 (Addr.add x11 1) fun x72_1 =>
  brK x19
  (ldI .i64 (Addr.add x5 0) fun x76_0 =>
  c_geom_Geometry_First x76_0 x10 fun x78 =>
  chk [.cell (Addr.add x11 0) (.int .i64 x72_0), .cell (Addr.add x11 1) (.int .i64 x72_1)] fun _ =>
  brK (x3 == x78)
  (ldI .i64 (Addr.add x11 0) fun x83_0 =>
  ldI .i64 (Addr.add x11 1) fun x83_1 =>
  c_ohead_Object_Blocks (x83_0, x83_1) fun x84 =>
  chk [.cell (Addr.add x11 0) (.int .i64 x72_0), .cell (Addr.add x11 1) (.int .i64 x72_1)] fun _ =>
  stK (Addr.add x8 0) (.int .i64 x72_0) <|
  stK (Addr.add x8 1) (.int .i64 x72_1) <|
  alloc_Placed_s0 k x8 (x18 == x84))
  (stK (Addr.add x8 0) (.int .i64 x72_0) <|
  stK (Addr.add x8 1) (.int .i64 x72_1) <|
  alloc_Placed_s0 k x8 false))
  (stK (Addr.add x8 0) (.int .i64 x72_0) <|
  stK (Addr.add x8 1) (.int .i64 x72_1) <|
  alloc_Placed_s0 k x8 false)
@[reducible] def alloc_Placed_s2 (x2 : Sl) (x3 : Int) (k : (((Int × Int) × Bool) → K)) (x5 : Addr) (x8 : Addr) (x10 : Int) (x11 : Addr) : K :=
  c_bhead_Whole x2 x10 fun x69 =>
  alloc_Placed_s1 x3 k x5 x8 x10 x11 x69.1 x69.2
@[reducible] def alloc_Placed_s3 (k : (((Int × Int) × Bool) → K)) (x8 : Addr) (x9_1 : Bool) : K :=
  ldI .i64 (Addr.add x8 0) fun x8_0_1 =>
  ldI .i64 (Addr.add x8 1) fun x8_1_1 =>
  k ((x8_0_1, x8_1_1), x9_1)
@[reducible] def alloc_Placed_s4 (k : (((Int × Int) × Bool) → K)) (x8 : Addr) (x11 : Addr) (x13 : Addr) (x14 : Int) (x17 : Bool) : K :=
  tick fun _ =>
  ldI .i64 (Addr.add x11 0) fun x58_0 =>
  ldI .i64 (Addr.add x11 1) fun x58_1 =>
  brK x17
  (ldI .i64 (Addr.add x13 0) fun x61_0 =>
  ldI .i64 (Addr.add x13 1) fun x61_1 =>
  ldI .i64 (Addr.add x13 2) fun x61_2 =>
  stK (Addr.add x8 0) (.int .i64 x58_0) <|
  stK (Addr.add x8 1) (.int .i64 x58_1) <|
  chk [.cell (Addr.add x13 0) (.int .i64 x61_0), .cell (Addr.add x13 1) (.int .i64 x61_1), .cell (Addr.add x13 2) (.int .i64 x61_2)] fun _ =>
  alloc_Placed_s3 k x8 ((x61_0 == 1) && ((x61_1 == x14) && ((x61_2 == 0) && true))))
  (stK (Addr.add x8 0) (.int .i64 x58_0) <|
  stK (Addr.add x8 1) (.int .i64 x58_1) <|
  alloc_Placed_s3 k x8 false)
@[reducible] def alloc_Placed_s5 (x3 : Int) (k : (((Int × Int) × Bool) → K)) (x5 : Addr) (x8 : Addr) (x11 : Addr) (x13 : Addr) (x14 : Int) : K :=
  ldI .i64 (Addr.add x5 0) fun x52_0 =>
  c_cells_At x52_0 x14 x3 fun x55 =>
  alK (.cells #[.int .i64 0, .int .i64 0] 168) fun b =>
  stK (Addr.add ⟨b, 0, none⟩ 0) (.int .i64 x55.1.1) <|
  stK (Addr.add ⟨b, 0, none⟩ 1) (.int .i64 x55.1.2) <|
  alloc_Placed_s4 k x8 x11 x13 x14 x55.2
@[reducible] def alloc_Placed_s6 (x2 : Sl) (x3 : Int) (k : (((Int × Int) × Bool) → K)) (x5 : Addr) (x8 : Addr) (x10 : Int) (x11 : Addr) (x13 : Addr) (x14 : Int) (x50 : Bool) : K :=
  brK x50
  (alloc_Placed_s5 x3 k x5 x8 x11 x13 x14)
  (alloc_Placed_s2 x2 x3 k x5 x8 x10 x11)
@[reducible] def alloc_Placed_s7 (x2 : Sl) (x3 : Int) (k : (((Int × Int) × Bool) → K)) (x5 : Addr) (x8 : Addr) (x10 : Int) (x11 : Addr) (x13 : Addr) (x14 : Int) (x15 : Bool) : K :=
  alloc_Placed_s6 x2 x3 k x5 x8 x10 x11 x13 x14 x15
@[reducible] def alloc_Placed_s8 (x2 : Sl) (x3 : Int) (k : (((Int × Int) × Bool) → K)) (x5 : Addr) (x8 : Addr) (x10 : Int) (x11 : Addr) (x13 : Addr) : K :=
  ldI .i64 (Addr.add x11 0) fun x46_0 =>
  ldI .i64 (Addr.add x11 1) fun x46_1 =>
  c_ohead_Object_Small (x46_0, x46_1) fun x47 =>
  alloc_Placed_s7 x2 x3 k x5 x8 x10 x11 x13 x47.1 x47.2
@[reducible] def alloc_Placed_s9 (x2 : Sl) (x3 : Int) (k : (((Int × Int) × Bool) → K)) (x5 : Addr) (x8 : Addr) (x10 : Int) (x11 : Addr) : K :=
  ixS x2.p x2.n x10 3 fun x43 =>
  ldI .i64 (Addr.add x43 0) fun x44_0 =>
  ldI .i64 (Addr.add x43 1) fun x44_1 =>
  ldI .i64 (Addr.add x43 2) fun x44_2 =>
  alK (.cells #[.int .i64 0, .int .i64 0, .int .i64 0] 143) fun b_1 =>
  stK (Addr.add ⟨b_1, 0, none⟩ 0) (.int .i64 x44_0) <|
  stK (Addr.add ⟨b_1, 0, none⟩ 1) (.int .i64 x44_1) <|
  stK (Addr.add ⟨b_1, 0, none⟩ 2) (.int .i64 x44_2) <|
  alloc_Placed_s8 x2 x3 k x5 x8 x10 x11 ⟨b_1, 0, none⟩
@[reducible] def alloc_Placed_s10 (k : (((Int × Int) × Bool) → K)) (x8 : Addr) (x9_2 : Bool) : K :=
  ldI .i64 (Addr.add x8 0) fun x8_0_2 =>
  ldI .i64 (Addr.add x8 1) fun x8_1_2 =>
  k ((x8_0_2, x8_1_2), x9_2)
@[reducible] def alloc_Placed_s11 (k : (((Int × Int) × Bool) → K)) (x8 : Addr) : K :=
  stK (Addr.add x8 0) (.int .i64 0) <|
  stK (Addr.add x8 1) (.int .i64 0) <|
  alloc_Placed_s10 k x8 false
@[reducible] def alloc_Placed_s12 (x2 : Sl) (x3 : Int) (k : (((Int × Int) × Bool) → K)) (x5 : Addr) (x8 : Addr) (x10 : Int) (x11 : Addr) (x39 : Bool) : K :=
  brK x39
  (alloc_Placed_s11 k x8)
  (alloc_Placed_s9 x2 x3 k x5 x8 x10 x11)
@[reducible] def alloc_Placed_s13 (x2 : Sl) (x3 : Int) (k : (((Int × Int) × Bool) → K)) (x5 : Addr) (x8 : Addr) (x10 : Int) (x11 : Addr) (x12 : Int) : K :=
  alloc_Placed_s12 x2 x3 k x5 x8 x10 x11 (x12 != 0)
@[reducible] def alloc_Placed_s14 (x0 : (Option Addr)) (x2 : Sl) (x3 : Int) (k : (((Int × Int) × Bool) → K)) (x5 : Addr) (x8 : Addr) (x10 : Int) : K :=
  c_object_Head x0 x3 fun x35 =>
  alK (.cells #[.int .i64 0, .int .i64 0] 68) fun b_2 =>
  stK (Addr.add ⟨b_2, 0, none⟩ 0) (.int .i64 x35.1.1) <|
  stK (Addr.add ⟨b_2, 0, none⟩ 1) (.int .i64 x35.1.2) <|
  alloc_Placed_s13 x2 x3 k x5 x8 x10 ⟨b_2, 0, none⟩ x35.2
@[reducible] def alloc_Placed_s15 (k : (((Int × Int) × Bool) → K)) (x8 : Addr) (x9_3 : Bool) : K :=
  ldI .i64 (Addr.add x8 0) fun x8_0_3 =>
  ldI .i64 (Addr.add x8 1) fun x8_1_3 =>
  k ((x8_0_3, x8_1_3), x9_3)
@[reducible] def alloc_Placed_s16 (k : (((Int × Int) × Bool) → K)) (x8 : Addr) : K :=
  stK (Addr.add x8 0) (.int .i64 0) <|
  stK (Addr.add x8 1) (.int .i64 0) <|
  alloc_Placed_s15 k x8 false
@[reducible] def alloc_Placed_s17 (x0 : (Option Addr)) (x2 : Sl) (x3 : Int) (k : (((Int × Int) × Bool) → K)) (x5 : Addr) (x8 : Addr) (x10 : Int) (x30 : Bool) : K :=
  brK x30
  (alloc_Placed_s16 k x8)
  (alloc_Placed_s14 x0 x2 x3 k x5 x8 x10)
@[reducible] def alloc_Placed_s18 (x0 : (Option Addr)) (x2 : Sl) (x3 : Int) (k : (((Int × Int) × Bool) → K)) (x5 : Addr) (x8 : Addr) (x10 : Int) : K :=
  brK (decide (x10 < 1))
  (alloc_Placed_s17 x0 x2 x3 k x5 x8 x10 true)
  (alloc_Placed_s17 x0 x2 x3 k x5 x8 x10 (decide (x10 ≥ ((x2.n : Nat) : Int))))
@[reducible] def alloc_Placed_s19 (x0 : (Option Addr)) (x2 : Sl) (x3 : Int) (k : (((Int × Int) × Bool) → K)) (x5 : Addr) (x8 : Addr) : K :=
  ldI .i64 (Addr.add x5 0) fun x20_0 =>
  c_geom_Geometry_BlockOf x20_0 x3 fun x22 =>
  alloc_Placed_s18 x0 x2 x3 k x5 x8 x22
@[reducible] def alloc_Placed (x0 : (Option Addr)) (x1 : Int) (x2 : Sl) (x3 : Int) : M ((Int × Int) × Bool) := fun k =>
  alK (.cells #[.int .i64 x1] 43) fun b_3 =>
  alK (.cells #[.int .i64 0, .int .i64 0] 68) fun b_4 =>
  alloc_Placed_s19 x0 x2 x3 k ⟨b_3, 0, none⟩ ⟨b_4, 0, none⟩
theorem alloc_Placed_ok (x0 : (Option Addr)) (x1 : Int) (x2 : Sl) (x3 : Int) (k : ((Int × Int) × Bool) → K) (w : World) (hyp_ : alloc_Placed x0 x1 x2 x3 k w) : c_alloc_Placed x0 x1 x2 x3 k w :=
  cl_of (P := Tryz.prog) Tryz.func56 rfl (by kernel_rfl)
  (RefK.seq [(5, .addr), (8, .addr)] [0, 2, 3] (fun z_ => [(5, .pointer (some z_.1)), (8, .pointer (some z_.2.1)), (0, .pointer x0), (2, x2.v), (3, .int .i64 x3)]) (fun z_ => alloc_Placed_s19 x0 x2 x3 k z_.1 z_.2.1) (by kernel_rfl) (fun _ => by kernel_rfl)
  (RefK.plain [] (by kernel_rfl))
  (fun ⟨x5, x8, _⟩ => RefK.seq [(10, .int .i64)] [0, 2, 3, 5, 8] (fun z_ => [(10, .int .i64 z_.1), (0, .pointer x0), (2, x2.v), (3, .int .i64 x3), (5, .pointer (some x5)), (8, .pointer (some x8))]) (fun z_ => alloc_Placed_s18 x0 x2 x3 k x5 x8 z_.1) (by kernel_rfl) (fun _ => by kernel_rfl)
  (RefK.plain [] (by kernel_rfl))
  (fun ⟨x10, _⟩ => RefK.seq [] [0, 2, 3, 5, 8, 10] (fun z_ => [(0, .pointer x0), (2, x2.v), (3, .int .i64 x3), (5, .pointer (some x5)), (8, .pointer (some x8)), (10, .int .i64 x10)]) (fun z_ => alloc_Placed_s14 x0 x2 x3 k x5 x8 x10) (by kernel_rfl) (fun _ => by kernel_rfl)
  (RefK.seq [(30, .bool)] [0, 2, 3, 5, 8, 10] (fun z_ => [(30, .bool z_.1), (0, .pointer x0), (2, x2.v), (3, .int .i64 x3), (5, .pointer (some x5)), (8, .pointer (some x8)), (10, .int .i64 x10)]) (fun z_ => alloc_Placed_s17 x0 x2 x3 k x5 x8 x10 z_.1) (by kernel_rfl) (fun _ => by kernel_rfl)
  (RefK.plain [2] (by kernel_rfl))
  (fun ⟨x30, _⟩ => RefK.cond (b := x30) (t1 := alloc_Placed_s16 k x8) (t2 := alloc_Placed_s14 x0 x2 x3 k x5 x8 x10) (by kernel_rfl) (by kernel_rfl) (fun w h => brK_spec w h) (RefK.seq [(9, .bool)] [8] (fun z_ => [(9, .bool z_.1), (8, .pointer (some x8))]) (fun z_ => alloc_Placed_s15 k x8 z_.1) (by kernel_rfl) (fun _ => by kernel_rfl)
  (RefK.plain [] (by kernel_rfl))
  (fun ⟨x9_3, _⟩ => RefK.ret (by kernel_rfl))) (RefK.skip (by kernel_rfl))))
  (fun _ => RefK.seq [(11, .addr), (12, .int .i64)] [2, 3, 5, 8, 10] (fun z_ => [(11, .pointer (some z_.1)), (12, .int .i64 z_.2.1), (2, x2.v), (3, .int .i64 x3), (5, .pointer (some x5)), (8, .pointer (some x8)), (10, .int .i64 x10)]) (fun z_ => alloc_Placed_s13 x2 x3 k x5 x8 x10 z_.1 z_.2.1) (by kernel_rfl) (fun _ => by kernel_rfl)
  (RefK.plain [] (by kernel_rfl))
  (fun ⟨x11, x12, _⟩ => RefK.seq [] [2, 3, 5, 8, 10, 11] (fun z_ => [(2, x2.v), (3, .int .i64 x3), (5, .pointer (some x5)), (8, .pointer (some x8)), (10, .int .i64 x10), (11, .pointer (some x11))]) (fun z_ => alloc_Placed_s9 x2 x3 k x5 x8 x10 x11) (by kernel_rfl) (fun _ => by kernel_rfl)
  (RefK.seq [(39, .bool)] [2, 3, 5, 8, 10, 11] (fun z_ => [(39, .bool z_.1), (2, x2.v), (3, .int .i64 x3), (5, .pointer (some x5)), (8, .pointer (some x8)), (10, .int .i64 x10), (11, .pointer (some x11))]) (fun z_ => alloc_Placed_s12 x2 x3 k x5 x8 x10 x11 z_.1) (by kernel_rfl) (fun _ => by kernel_rfl)
  (RefK.plain [] (by kernel_rfl))
  (fun ⟨x39, _⟩ => RefK.cond (b := x39) (t1 := alloc_Placed_s11 k x8) (t2 := alloc_Placed_s9 x2 x3 k x5 x8 x10 x11) (by kernel_rfl) (by kernel_rfl) (fun w h => brK_spec w h) (RefK.seq [(9, .bool)] [8] (fun z_ => [(9, .bool z_.1), (8, .pointer (some x8))]) (fun z_ => alloc_Placed_s10 k x8 z_.1) (by kernel_rfl) (fun _ => by kernel_rfl)
  (RefK.plain [] (by kernel_rfl))
  (fun ⟨x9_2, _⟩ => RefK.ret (by kernel_rfl))) (RefK.skip (by kernel_rfl))))
  (fun _ => RefK.seq [(13, .addr)] [2, 3, 5, 8, 10, 11] (fun z_ => [(13, .pointer (some z_.1)), (2, x2.v), (3, .int .i64 x3), (5, .pointer (some x5)), (8, .pointer (some x8)), (10, .int .i64 x10), (11, .pointer (some x11))]) (fun z_ => alloc_Placed_s8 x2 x3 k x5 x8 x10 x11 z_.1) (by kernel_rfl) (fun _ => by kernel_rfl)
  (RefK.plain [] (by kernel_rfl))
  (fun ⟨x13, _⟩ => RefK.seq [(14, .int .i64), (15, .bool)] [2, 3, 5, 8, 10, 11, 13] (fun z_ => [(14, .int .i64 z_.1), (15, .bool z_.2.1), (2, x2.v), (3, .int .i64 x3), (5, .pointer (some x5)), (8, .pointer (some x8)), (10, .int .i64 x10), (11, .pointer (some x11)), (13, .pointer (some x13))]) (fun z_ => alloc_Placed_s7 x2 x3 k x5 x8 x10 x11 x13 z_.1 z_.2.1) (by kernel_rfl) (fun _ => by kernel_rfl)
  (RefK.plain [] (by kernel_rfl))
  (fun ⟨x14, x15, _⟩ => RefK.seq [] [2, 3, 5, 8, 10, 11] (fun z_ => [(2, x2.v), (3, .int .i64 x3), (5, .pointer (some x5)), (8, .pointer (some x8)), (10, .int .i64 x10), (11, .pointer (some x11))]) (fun z_ => alloc_Placed_s2 x2 x3 k x5 x8 x10 x11) (by kernel_rfl) (fun _ => by kernel_rfl)
  (RefK.seq [(50, .bool)] [2, 3, 5, 8, 10, 11, 13, 14] (fun z_ => [(50, .bool z_.1), (2, x2.v), (3, .int .i64 x3), (5, .pointer (some x5)), (8, .pointer (some x8)), (10, .int .i64 x10), (11, .pointer (some x11)), (13, .pointer (some x13)), (14, .int .i64 x14)]) (fun z_ => alloc_Placed_s6 x2 x3 k x5 x8 x10 x11 x13 x14 z_.1) (by kernel_rfl) (fun _ => by kernel_rfl)
  (RefK.plain [] (by kernel_rfl))
  (fun ⟨x50, _⟩ => RefK.cond (b := x50) (t1 := alloc_Placed_s5 x3 k x5 x8 x11 x13 x14) (t2 := alloc_Placed_s2 x2 x3 k x5 x8 x10 x11) (by kernel_rfl) (by kernel_rfl) (fun w h => brK_spec w h) (RefK.seq [(17, .bool)] [8, 11, 13, 14] (fun z_ => [(17, .bool z_.1), (8, .pointer (some x8)), (11, .pointer (some x11)), (13, .pointer (some x13)), (14, .int .i64 x14)]) (fun z_ => alloc_Placed_s4 k x8 x11 x13 x14 z_.1) (by kernel_rfl) (fun _ => by kernel_rfl)
  (RefK.plain [] (by kernel_rfl))
  (fun ⟨x17, _⟩ => RefK.seq [(9, .bool)] [8] (fun z_ => [(9, .bool z_.1), (8, .pointer (some x8))]) (fun z_ => alloc_Placed_s3 k x8 z_.1) (by kernel_rfl) (fun _ => by kernel_rfl)
  (RefK.draw [2] [0, 0, 2, 6, 6, 22, 62, 126, 7, 511] [0, 1, 2, 3, 4, 5, 6, 7, 8, 9] [0, 1, 2, 8, 3, 4, 5, 6, 7, 9] (by kernel_rfl) (by kernel_rfl))
  (fun ⟨x9_1, _⟩ => RefK.ret (by kernel_rfl)))) (RefK.skip (by kernel_rfl))))
  (fun _ => RefK.seq [(18, .int .i64), (19, .bool)] [3, 5, 8, 10, 11] (fun z_ => [(18, .int .i64 z_.1), (19, .bool z_.2.1), (3, .int .i64 x3), (5, .pointer (some x5)), (8, .pointer (some x8)), (10, .int .i64 x10), (11, .pointer (some x11))]) (fun z_ => alloc_Placed_s1 x3 k x5 x8 x10 x11 z_.1 z_.2.1) (by kernel_rfl) (fun _ => by kernel_rfl)
  (RefK.plain [] (by kernel_rfl))
  (fun ⟨x18, x19, _⟩ => RefK.seq [(9, .bool)] [8] (fun z_ => [(9, .bool z_.1), (8, .pointer (some x8))]) (fun z_ => alloc_Placed_s0 k x8 z_.1) (by kernel_rfl) (fun _ => by kernel_rfl)
  (RefK.draw [2, 9] [0, 0, 2, 6, 6, 6, 54, 126, 254, 510, 1022, 1022, 3070, 8190, 16382, 7167, 65535] [0, 1, 2, 3, 4, 5, 6, 7, 8, 9, 10, 11, 12, 13, 14, 15, 16] [0, 1, 2, 3, 4, 5, 6, 7, 8, 9, 11, 12, 15, 10, 13, 14, 16] (by kernel_rfl) (by kernel_rfl))
  (fun ⟨x9, _⟩ => RefK.ret (by kernel_rfl)))))))))))) hyp_
@[reducible] def alloc_Allocator_Place_s0 (k : (((Int × Int) × Bool) → K)) (x4 : Addr) (x5 : Bool) : K :=
  ldI .i64 (Addr.add x4 0) fun x4_0 =>
  ldI .i64 (Addr.add x4 1) fun x4_1 =>
  k ((x4_0, x4_1), x5)
@[reducible] def alloc_Allocator_Place_s1 (a : (Option Addr)) (at_1 : Int) (k : (((Int × Int) × Bool) → K)) (x4 : Addr) : K :=
  tick fun _ =>
  nn a fun x7 =>
  ldP (Addr.add x7 1) fun x9 =>
  nn a fun x11 =>
  ldI .i64 (Addr.add (Addr.add x11 2) 0) fun x13_0 =>
  nn a fun x15 =>
  ldP (Addr.add x15 0) fun x17 =>
  nn x17 fun x18 =>
  ldP (Addr.add x18 0) fun x20 =>
  c_blocks_Table_All x20 fun x21 =>
  chk [.cell (Addr.add (Addr.add x11 2) 0) (.int .i64 x13_0), .cell (Addr.add x7 1) (.pointer x9)] fun _ =>
  c_alloc_Placed x9 x13_0 x21 at_1 fun x23 =>
  stK (Addr.add x4 0) (.int .i64 x23.1.1) <|
  stK (Addr.add x4 1) (.int .i64 x23.1.2) <|
  alloc_Allocator_Place_s0 k x4 x23.2
@[reducible] def alloc_Allocator_Place (a : (Option Addr)) (at_1 : Int) : M ((Int × Int) × Bool) := fun k =>
  alK (.cells #[.int .i64 0, .int .i64 0] 68) fun b =>
  alloc_Allocator_Place_s1 a at_1 k ⟨b, 0, none⟩
theorem alloc_Allocator_Place_ok (a : (Option Addr)) (at_1 : Int) (k : ((Int × Int) × Bool) → K) (w : World) (hyp_ : alloc_Allocator_Place a at_1 k w) : c_alloc_Allocator_Place a at_1 k w :=
  cl_of (P := Tryz.prog) Tryz.func76 rfl (by kernel_rfl)
  (RefK.seq [(4, .addr)] [0, 1] (fun z_ => [(4, .pointer (some z_.1)), (0, .pointer a), (1, .int .i64 at_1)]) (fun z_ => alloc_Allocator_Place_s1 a at_1 k z_.1) (by kernel_rfl) (fun _ => by kernel_rfl)
  (RefK.plain [] (by kernel_rfl))
  (fun ⟨x4, _⟩ => RefK.seq [(5, .bool)] [4] (fun z_ => [(5, .bool z_.1), (4, .pointer (some x4))]) (fun z_ => alloc_Allocator_Place_s0 k x4 z_.1) (by kernel_rfl) (fun _ => by kernel_rfl)
  (RefK.draw [] [0, 1, 3, 7, 0, 16, 48, 112, 0, 256, 768, 1792, 3840, 7936, 16128, 32512, 0, 131071, 262143, 262143, 1048575, 2097151] [0, 1, 2, 3, 4, 5, 6, 7, 8, 9, 10, 11, 12, 13, 14, 16, 15, 17, 18, 19, 20, 21] [0, 1, 2, 3, 4, 5, 6, 7, 8, 9, 10, 11, 12, 13, 14, 15, 16, 17, 18, 19, 20, 21] (by kernel_rfl) (by kernel_rfl))
  (fun ⟨x5, _⟩ => RefK.ret (by kernel_rfl)))) hyp_
@[reducible] def alloc_Allocator_room_s0 (k : ((Int × Int) → K)) (x6 : Int) (x7 : Int) : K :=
  k (x6, x7)
@[reducible] def alloc_Allocator_room_s1 (x0 : (Option Addr)) (x1 : Int) (k : ((Int × Int) → K)) (x8 : Int) : K :=
  c_alloc_Allocator_steal x0 x1 x8 fun x86 =>
  alloc_Allocator_room_s0 k x86.1 x86.2
@[reducible] def alloc_Allocator_room_s2 (k : ((Int × Int) → K)) (x6_1 : Int) (x7_1 : Int) : K :=
  k (x6_1, x7_1)
@[reducible] def alloc_Allocator_room_s3 (x0 : (Option Addr)) (x1 : Int) (k : ((Int × Int) → K)) (x8 : Int) : K :=
  nn x0 fun x72 =>
  ldP (Addr.add x72 4) fun x74 =>
  c_free_Lists_Take x74 x1 x8 fun x77 =>
  alloc_Allocator_room_s2 k x77.1 x77.2
@[reducible] def alloc_Allocator_room_s4 (k : ((Int × Int) → K)) (x6_2 : Int) (x7_2 : Int) : K :=
  k (x6_2, x7_2)
@[reducible] def alloc_Allocator_room_s5 (x0 : (Option Addr)) (x1 : Int) (k : ((Int × Int) → K)) (x8 : Int) (x15 : Int) (x81 : Bool) : K :=
  brK x81
  (alloc_Allocator_room_s4 k 0 x15)
  (alloc_Allocator_room_s1 x0 x1 k x8)
@[reducible] def alloc_Allocator_room_s6 (x0 : (Option Addr)) (x1 : Int) (k : ((Int × Int) → K)) (x8 : Int) (x14 : Int) : K :=
  c_alloc_Allocator_carve x0 x14 x8 fun x70 =>
  alloc_Allocator_room_s3 x0 x1 k x8
@[reducible] def alloc_Allocator_room_s7 (x0 : (Option Addr)) (x1 : Int) (k : ((Int × Int) → K)) (x8 : Int) (x14 : Int) (x15 : Int) (x66 : Bool) : K :=
  brK x66
  (alloc_Allocator_room_s6 x0 x1 k x8 x14)
  (alloc_Allocator_room_s5 x0 x1 k x8 x15 (x15 != 4))
@[reducible] def alloc_Allocator_room_s8 (x0 : (Option Addr)) (x1 : Int) (k : ((Int × Int) → K)) (x8 : Int) (x14 : Int) (x15 : Int) : K :=
  alloc_Allocator_room_s7 x0 x1 k x8 x14 x15 (x15 == 0)
@[reducible] def alloc_Allocator_room_s9 (x0 : (Option Addr)) (x1 : Int) (k : ((Int × Int) → K)) (x8 : Int) : K :=
  nn x0 fun x58 =>
  ldP (Addr.add x58 0) fun x60 =>
  c_bman_Manager_Small x60 x8 fun x62 =>
  alloc_Allocator_room_s8 x0 x1 k x8 x62.1 x62.2
@[reducible] def alloc_Allocator_room_s10 (k : ((Int × Int) → K)) (x6_3 : Int) (x7_3 : Int) : K :=
  k (x6_3, x7_3)
@[reducible] def alloc_Allocator_room_s11 (x0 : (Option Addr)) (x1 : Int) (k : ((Int × Int) → K)) (x8 : Int) (x12 : Int) (x13 : Int) (x53 : Bool) : K :=
  brK x53
  (alloc_Allocator_room_s10 k x12 x13)
  (alloc_Allocator_room_s9 x0 x1 k x8)
@[reducible] def alloc_Allocator_room_s12 (x0 : (Option Addr)) (x1 : Int) (k : ((Int × Int) → K)) (x8 : Int) (x12 : Int) (x13 : Int) : K :=
  alloc_Allocator_room_s11 x0 x1 k x8 x12 x13 (x13 == 0)
@[reducible] def alloc_Allocator_room_s13 (x0 : (Option Addr)) (x1 : Int) (k : ((Int × Int) → K)) (x8 : Int) : K :=
  nn x0 fun x44 =>
  ldP (Addr.add x44 4) fun x46 =>
  c_free_Lists_Take x46 x1 x8 fun x49 =>
  alloc_Allocator_room_s12 x0 x1 k x8 x49.1 x49.2
@[reducible] def alloc_Allocator_room_s14 (k : ((Int × Int) → K)) (x6_4 : Int) (x7_4 : Int) : K :=
  k (x6_4, x7_4)
@[reducible] def alloc_Allocator_room_s15 (x0 : (Option Addr)) (k : ((Int × Int) → K)) (x10 : Int) : K :=
  nn x0 fun x37 =>
  ldI .i64 (Addr.add (Addr.add x37 2) 0) fun x39_0 =>
  c_geom_Geometry_First x39_0 x10 fun x41 =>
  alloc_Allocator_room_s14 k x41 0
@[reducible] def alloc_Allocator_room_s16 (k : ((Int × Int) → K)) (x6_5 : Int) (x7_5 : Int) : K :=
  k (x6_5, x7_5)
@[reducible] def alloc_Allocator_room_s17 (x0 : (Option Addr)) (k : ((Int × Int) → K)) (x10 : Int) (x11 : Int) (x34 : Bool) : K :=
  brK x34
  (alloc_Allocator_room_s16 k 0 x11)
  (alloc_Allocator_room_s15 x0 k x10)
@[reducible] def alloc_Allocator_room_s18 (x0 : (Option Addr)) (k : ((Int × Int) → K)) (x10 : Int) (x11 : Int) : K :=
  alloc_Allocator_room_s17 x0 k x10 x11 (x11 != 0)
@[reducible] def alloc_Allocator_room_s19 (x0 : (Option Addr)) (k : ((Int × Int) → K)) (x5 : Addr) : K :=
  tick fun _ =>
  nn x0 fun x25 =>
  ldP (Addr.add x25 0) fun x27 =>
  ldI .i64 (Addr.add x5 0) fun x28_0 =>
  ldI .i64 (Addr.add x5 1) fun x28_1 =>
  c_ohead_Object_Blocks (x28_0, x28_1) fun x29 =>
  chk [.cell (Addr.add x25 0) (.pointer x27)] fun _ =>
  c_bman_Manager_Large x27 x29 fun x30 =>
  alloc_Allocator_room_s18 x0 k x30.1 x30.2
@[reducible] def alloc_Allocator_room_s20 (x0 : (Option Addr)) (x1 : Int) (k : ((Int × Int) → K)) (x5 : Addr) (x8 : Int) (x22 : Bool) : K :=
  brK x22
  (alloc_Allocator_room_s19 x0 k x5)
  (alloc_Allocator_room_s13 x0 x1 k x8)
@[reducible] def alloc_Allocator_room_s21 (x0 : (Option Addr)) (x1 : Int) (k : ((Int × Int) → K)) (x5 : Addr) (x8 : Int) (x9 : Bool) : K :=
  alloc_Allocator_room_s20 x0 x1 k x5 x8 (!x9)
@[reducible] def alloc_Allocator_room_s22 (x0 : (Option Addr)) (x1 : Int) (k : ((Int × Int) → K)) (x5 : Addr) : K :=
  ldI .i64 (Addr.add x5 0) fun x17_0 =>
  ldI .i64 (Addr.add x5 1) fun x17_1 =>
  c_ohead_Object_Small (x17_0, x17_1) fun x18 =>
  alloc_Allocator_room_s21 x0 x1 k x5 x18.1 x18.2
@[reducible] def alloc_Allocator_room (x0 : (Option Addr)) (x1 : Int) (x2 : (Int × Int)) : M (Int × Int) := fun k =>
  alK (.cells #[.int .i64 x2.1, .int .i64 x2.2] 68) fun b =>
  alloc_Allocator_room_s22 x0 x1 k ⟨b, 0, none⟩
theorem alloc_Allocator_room_ok (x0 : (Option Addr)) (x1 : Int) (x2 : (Int × Int)) (k : (Int × Int) → K) (w : World) (hyp_ : alloc_Allocator_room x0 x1 x2 k w) : c_alloc_Allocator_room x0 x1 x2 k w :=
  cl_of (P := Tryz.prog) Tryz.func89 rfl (by kernel_rfl)
  (RefK.seq [(5, .addr)] [0, 1] (fun z_ => [(5, .pointer (some z_.1)), (0, .pointer x0), (1, .int .i64 x1)]) (fun z_ => alloc_Allocator_room_s22 x0 x1 k z_.1) (by kernel_rfl) (fun _ => by kernel_rfl)
  (RefK.plain [] (by kernel_rfl))
  (fun ⟨x5, _⟩ => RefK.seq [(8, .int .i64), (9, .bool)] [0, 1, 5] (fun z_ => [(8, .int .i64 z_.1), (9, .bool z_.2.1), (0, .pointer x0), (1, .int .i64 x1), (5, .pointer (some x5))]) (fun z_ => alloc_Allocator_room_s21 x0 x1 k x5 z_.1 z_.2.1) (by kernel_rfl) (fun _ => by kernel_rfl)
  (RefK.plain [] (by kernel_rfl))
  (fun ⟨x8, x9, _⟩ => RefK.seq [] [0, 1, 8] (fun z_ => [(0, .pointer x0), (1, .int .i64 x1), (8, .int .i64 x8)]) (fun z_ => alloc_Allocator_room_s13 x0 x1 k x8) (by kernel_rfl) (fun _ => by kernel_rfl)
  (RefK.seq [(22, .bool)] [0, 1, 5, 8] (fun z_ => [(22, .bool z_.1), (0, .pointer x0), (1, .int .i64 x1), (5, .pointer (some x5)), (8, .int .i64 x8)]) (fun z_ => alloc_Allocator_room_s20 x0 x1 k x5 x8 z_.1) (by kernel_rfl) (fun _ => by kernel_rfl)
  (RefK.plain [] (by kernel_rfl))
  (fun ⟨x22, _⟩ => RefK.cond (b := x22) (t1 := alloc_Allocator_room_s19 x0 k x5) (t2 := alloc_Allocator_room_s13 x0 x1 k x8) (by kernel_rfl) (by kernel_rfl) (fun w h => brK_spec w h) (RefK.seq [(10, .int .i64), (11, .int .i64)] [0] (fun z_ => [(10, .int .i64 z_.1), (11, .int .i64 z_.2.1), (0, .pointer x0)]) (fun z_ => alloc_Allocator_room_s18 x0 k z_.1 z_.2.1) (by kernel_rfl) (fun _ => by kernel_rfl)
  (RefK.draw [] [0, 1, 3, 7, 0, 16, 63, 127, 255, 255, 511, 2047] [0, 1, 2, 3, 4, 5, 6, 7, 8, 9, 10, 11] [0, 1, 2, 3, 4, 5, 6, 7, 8, 10, 9, 11] (by kernel_rfl) (by kernel_rfl))
  (fun ⟨x10, x11, _⟩ => RefK.seq [] [0, 10] (fun z_ => [(0, .pointer x0), (10, .int .i64 x10)]) (fun z_ => alloc_Allocator_room_s15 x0 k x10) (by kernel_rfl) (fun _ => by kernel_rfl)
  (RefK.seq [(34, .bool)] [0, 10, 11] (fun z_ => [(34, .bool z_.1), (0, .pointer x0), (10, .int .i64 x10), (11, .int .i64 x11)]) (fun z_ => alloc_Allocator_room_s17 x0 k x10 x11 z_.1) (by kernel_rfl) (fun _ => by kernel_rfl)
  (RefK.plain [] (by kernel_rfl))
  (fun ⟨x34, _⟩ => RefK.cond (b := x34) (t1 := alloc_Allocator_room_s16 k 0 x11) (t2 := alloc_Allocator_room_s15 x0 k x10) (by kernel_rfl) (by kernel_rfl) (fun w h => brK_spec w h) (RefK.seq [(6, .int .i64), (7, .int .i64)] [] (fun z_ => [(6, .int .i64 z_.1), (7, .int .i64 z_.2.1)]) (fun z_ => alloc_Allocator_room_s16 k z_.1 z_.2.1) (by kernel_rfl) (fun _ => by kernel_rfl)
  (RefK.plain [] (by kernel_rfl))
  (fun ⟨x6_5, x7_5, _⟩ => RefK.ret (by kernel_rfl))) (RefK.skip (by kernel_rfl))))
  (fun _ => RefK.seq [(6, .int .i64), (7, .int .i64)] [] (fun z_ => [(6, .int .i64 z_.1), (7, .int .i64 z_.2.1)]) (fun z_ => alloc_Allocator_room_s14 k z_.1 z_.2.1) (by kernel_rfl) (fun _ => by kernel_rfl)
  (RefK.plain [] (by kernel_rfl))
  (fun ⟨x6_4, x7_4, _⟩ => RefK.ret (by kernel_rfl))))) (RefK.skip (by kernel_rfl))))
  (fun _ => RefK.seq [] [0, 1, 8] (fun z_ => [(0, .pointer x0), (1, .int .i64 x1), (8, .int .i64 x8)]) (fun z_ => alloc_Allocator_room_s9 x0 x1 k x8) (by kernel_rfl) (fun _ => by kernel_rfl)
  (RefK.seq [(12, .int .i64), (13, .int .i64)] [0, 1, 8] (fun z_ => [(12, .int .i64 z_.1), (13, .int .i64 z_.2.1), (0, .pointer x0), (1, .int .i64 x1), (8, .int .i64 x8)]) (fun z_ => alloc_Allocator_room_s12 x0 x1 k x8 z_.1 z_.2.1) (by kernel_rfl) (fun _ => by kernel_rfl)
  (RefK.plain [] (by kernel_rfl))
  (fun ⟨x12, x13, _⟩ => RefK.seq [(53, .bool)] [0, 1, 8, 12, 13] (fun z_ => [(53, .bool z_.1), (0, .pointer x0), (1, .int .i64 x1), (8, .int .i64 x8), (12, .int .i64 x12), (13, .int .i64 x13)]) (fun z_ => alloc_Allocator_room_s11 x0 x1 k x8 x12 x13 z_.1) (by kernel_rfl) (fun _ => by kernel_rfl)
  (RefK.plain [] (by kernel_rfl))
  (fun ⟨x53, _⟩ => RefK.cond (b := x53) (t1 := alloc_Allocator_room_s10 k x12 x13) (t2 := alloc_Allocator_room_s9 x0 x1 k x8) (by kernel_rfl) (by kernel_rfl) (fun w h => brK_spec w h) (RefK.seq [(6, .int .i64), (7, .int .i64)] [] (fun z_ => [(6, .int .i64 z_.1), (7, .int .i64 z_.2.1)]) (fun z_ => alloc_Allocator_room_s10 k z_.1 z_.2.1) (by kernel_rfl) (fun _ => by kernel_rfl)
  (RefK.plain [] (by kernel_rfl))
  (fun ⟨x6_3, x7_3, _⟩ => RefK.ret (by kernel_rfl))) (RefK.skip (by kernel_rfl)))))
  (fun _ => RefK.seq [] [0, 1, 8] (fun z_ => [(0, .pointer x0), (1, .int .i64 x1), (8, .int .i64 x8)]) (fun z_ => alloc_Allocator_room_s1 x0 x1 k x8) (by kernel_rfl) (fun _ => by kernel_rfl)
  (RefK.seq [(14, .int .i64), (15, .int .i64)] [0, 1, 8] (fun z_ => [(14, .int .i64 z_.1), (15, .int .i64 z_.2.1), (0, .pointer x0), (1, .int .i64 x1), (8, .int .i64 x8)]) (fun z_ => alloc_Allocator_room_s8 x0 x1 k x8 z_.1 z_.2.1) (by kernel_rfl) (fun _ => by kernel_rfl)
  (RefK.plain [] (by kernel_rfl))
  (fun ⟨x14, x15, _⟩ => RefK.seq [(66, .bool)] [0, 1, 8, 14, 15] (fun z_ => [(66, .bool z_.1), (0, .pointer x0), (1, .int .i64 x1), (8, .int .i64 x8), (14, .int .i64 x14), (15, .int .i64 x15)]) (fun z_ => alloc_Allocator_room_s7 x0 x1 k x8 x14 x15 z_.1) (by kernel_rfl) (fun _ => by kernel_rfl)
  (RefK.plain [] (by kernel_rfl))
  (fun ⟨x66, _⟩ => RefK.cond (b := x66) (t1 := alloc_Allocator_room_s6 x0 x1 k x8 x14) (t2 := alloc_Allocator_room_s5 x0 x1 k x8 x15 (x15 != 4)) (by kernel_rfl) (by kernel_rfl) (fun w h => brK_spec w h) (RefK.seq [] [0, 1, 8] (fun z_ => [(0, .pointer x0), (1, .int .i64 x1), (8, .int .i64 x8)]) (fun z_ => alloc_Allocator_room_s3 x0 x1 k x8) (by kernel_rfl) (fun _ => by kernel_rfl)
  (RefK.plain [] (by kernel_rfl))
  (fun _ => RefK.seq [(6, .int .i64), (7, .int .i64)] [] (fun z_ => [(6, .int .i64 z_.1), (7, .int .i64 z_.2.1)]) (fun z_ => alloc_Allocator_room_s2 k z_.1 z_.2.1) (by kernel_rfl) (fun _ => by kernel_rfl)
  (RefK.plain [] (by kernel_rfl))
  (fun ⟨x6_1, x7_1, _⟩ => RefK.ret (by kernel_rfl)))) (RefK.seq [(81, .bool)] [0, 1, 8, 15] (fun z_ => [(81, .bool z_.1), (0, .pointer x0), (1, .int .i64 x1), (8, .int .i64 x8), (15, .int .i64 x15)]) (fun z_ => alloc_Allocator_room_s5 x0 x1 k x8 x15 z_.1) (by kernel_rfl) (fun _ => by kernel_rfl)
  (RefK.plain [] (by kernel_rfl))
  (fun ⟨x81, _⟩ => RefK.cond (b := x81) (t1 := alloc_Allocator_room_s4 k 0 x15) (t2 := alloc_Allocator_room_s1 x0 x1 k x8) (by kernel_rfl) (by kernel_rfl) (fun w h => brK_spec w h) (RefK.seq [(6, .int .i64), (7, .int .i64)] [] (fun z_ => [(6, .int .i64 z_.1), (7, .int .i64 z_.2.1)]) (fun z_ => alloc_Allocator_room_s4 k z_.1 z_.2.1) (by kernel_rfl) (fun _ => by kernel_rfl)
  (RefK.plain [] (by kernel_rfl))
  (fun ⟨x6_2, x7_2, _⟩ => RefK.ret (by kernel_rfl))) (RefK.skip (by kernel_rfl)))))))
  (fun _ => RefK.seq [(6, .int .i64), (7, .int .i64)] [] (fun z_ => [(6, .int .i64 z_.1), (7, .int .i64 z_.2.1)]) (fun z_ => alloc_Allocator_room_s0 k z_.1 z_.2.1) (by kernel_rfl) (fun _ => by kernel_rfl)
  (RefK.plain [] (by kernel_rfl))
  (fun ⟨x6, x7, _⟩ => RefK.ret (by kernel_rfl)))))))) hyp_
@[reducible] def object_Init_s0 (k : (Int → K)) (x6 : Int) : K :=
  k x6
@[reducible] def object_Init_s1 (d : (Option Addr)) (at_1 : Int) (k : (Int → K)) (o_1 : Addr) : K :=
  ldI .i64 (Addr.add o_1 0) fun x47_0 =>
  ldI .i64 (Addr.add o_1 1) fun x47_1 =>
  c_ohead_Object_Encode (x47_0, x47_1) at_1 fun x49 =>
  c_nvm_Device_Store d at_1 x49 fun x50 =>
  object_Init_s0 k x50
@[reducible] def object_Init_s2 (k : (Int → K)) (x6_1 : Int) : K :=
  k x6_1
@[reducible] def object_Init_s3 (k : (Int → K)) (i_1 : Int) (c : ((Int × Unit) → K)) (e : Int) (x43 : Bool) : K :=
  brK x43
  (object_Init_s2 k e)
  (c ((IntKind.wrap .i64 (i_1 + 1)), ()))
@[reducible] def object_Init_s4 (k : (Int → K)) (i_1 : Int) (c : ((Int × Unit) → K)) (e : Int) : K :=
  object_Init_s3 k i_1 c e (e != 0)
@[reducible] def object_Init_s5 (d : (Option Addr)) (at_1 : Int) (k : (Int → K)) (i_1 : Int) (c : ((Int × Unit) → K)) : K :=
  c_nvm_Device_Store d (IntKind.wrap .i64 (at_1 + i_1)) 0 fun x41 =>
  object_Init_s4 k i_1 c x41
@[reducible] def object_Init_s6 (d : (Option Addr)) (at_1 : Int) (k : (Int → K)) (o_1 : Addr) (i_1 : Int) (c : ((Int × Unit) → K)) (x34 : Bool) : K :=
  brK x34
  (object_Init_s5 d at_1 k i_1 c)
  (object_Init_s1 d at_1 k o_1)
@[reducible] def object_Init_l7 (d : (Option Addr)) (at_1 : Int) (k : (Int → K)) (o_1 : Addr) (n : Int) (i_1 : Int) (c : ((Int × Unit) → K)) : K :=
  object_Init_s6 d at_1 k o_1 i_1 c (decide (i_1 < n))
@[reducible] def object_Init_s8 (d : (Option Addr)) (at_1 : Int) (k : (Int → K)) (o_1 : Addr) (n : Int) (i : Int) : K :=
  lp (fun (z_ : (Int × Unit)) c_ => object_Init_l7 d at_1 k o_1 n z_.1 c_) (i, ())
@[reducible] def object_Init_s9 (k : (Int → K)) (x6_2 : Int) : K :=
  k x6_2
@[reducible] def object_Init_s10 (k : (Int → K)) (x6_3 : Int) : K :=
  k x6_3
@[reducible] def object_Init_s11 (d : (Option Addr)) (at_1 : Int) (k : (Int → K)) (o_1 : Addr) (n : Int) (x15 : Bool) : K :=
  brK x15
  (object_Init_s10 k 2)
  (object_Init_s8 d at_1 k o_1 n 1)
@[reducible] def object_Init_s12 (d : (Option Addr)) (at_1 : Int) (k : (Int → K)) (o_1 : Addr) (n : Int) : K :=
  brK (decide (at_1 < 0))
  (object_Init_s11 d at_1 k o_1 n true)
  (c_nvm_Device_Len d fun x21 =>
  brK (decide (at_1 ≥ x21))
  (object_Init_s11 d at_1 k o_1 n true)
  (c_nvm_Device_Len d fun x27 =>
  object_Init_s11 d at_1 k o_1 n (decide (n > (IntKind.wrap .i64 (x27 - at_1))))))
@[reducible] def object_Init_s13 (d : (Option Addr)) (at_1 : Int) (k : (Int → K)) (o_1 : Addr) (n : Int) (x12 : Bool) : K :=
  brK x12
  (object_Init_s9 k 5)
  (object_Init_s12 d at_1 k o_1 n)
@[reducible] def object_Init_s14 (d : (Option Addr)) (at_1 : Int) (k : (Int → K)) (o_1 : Addr) (n : Int) : K :=
  object_Init_s13 d at_1 k o_1 n (n == 0)
@[reducible] def object_Init_s15 (d : (Option Addr)) (at_1 : Int) (k : (Int → K)) (o_1 : Addr) : K :=
  ldI .i64 (Addr.add o_1 0) fun x10_0 =>
  ldI .i64 (Addr.add o_1 1) fun x10_1 =>
  c_ohead_Object_Size (x10_0, x10_1) fun x11 =>
  object_Init_s14 d at_1 k o_1 x11
@[reducible] def object_Init (d : (Option Addr)) (at_1 : Int) (o : (Int × Int)) : M Int := fun k =>
  alK (.cells #[.int .i64 o.1, .int .i64 o.2] 68) fun b =>
  object_Init_s15 d at_1 k ⟨b, 0, none⟩
theorem object_Init_ok (d : (Option Addr)) (at_1 : Int) (o : (Int × Int)) (k : Int → K) (w : World) (hyp_ : object_Init d at_1 o k w) : c_object_Init d at_1 o k w :=
  cl_of (P := Tryz.prog) Tryz.func90 rfl (by kernel_rfl)
  (RefK.seq [(5, .addr)] [0, 1] (fun z_ => [(5, .pointer (some z_.1)), (0, .pointer d), (1, .int .i64 at_1)]) (fun z_ => object_Init_s15 d at_1 k z_.1) (by kernel_rfl) (fun _ => by kernel_rfl)
  (RefK.plain [] (by kernel_rfl))
  (fun ⟨o_1, _⟩ => RefK.seq [(7, .int .i64)] [0, 1, 5] (fun z_ => [(7, .int .i64 z_.1), (0, .pointer d), (1, .int .i64 at_1), (5, .pointer (some o_1))]) (fun z_ => object_Init_s14 d at_1 k o_1 z_.1) (by kernel_rfl) (fun _ => by kernel_rfl)
  (RefK.plain [] (by kernel_rfl))
  (fun ⟨n, _⟩ => RefK.seq [] [0, 1, 5, 7] (fun z_ => [(0, .pointer d), (1, .int .i64 at_1), (5, .pointer (some o_1)), (7, .int .i64 n)]) (fun z_ => object_Init_s8 d at_1 k o_1 n 1) (by kernel_rfl) (fun _ => by kernel_rfl)
  (RefK.block (RefK.seq [(12, .bool)] [0, 1, 5, 7] (fun z_ => [(12, .bool z_.1), (0, .pointer d), (1, .int .i64 at_1), (5, .pointer (some o_1)), (7, .int .i64 n)]) (fun z_ => object_Init_s13 d at_1 k o_1 n z_.1) (by kernel_rfl) (fun _ => by kernel_rfl)
  (RefK.plain [] (by kernel_rfl))
  (fun ⟨x12, _⟩ => RefK.cond (b := x12) (t1 := object_Init_s9 k 5) (t2 := object_Init_s12 d at_1 k o_1 n) (by kernel_rfl) (by kernel_rfl) (fun w h => brK_spec w h) (RefK.seq [(6, .int .i64)] [] (fun z_ => [(6, .int .i64 z_.1)]) (fun z_ => object_Init_s9 k z_.1) (by kernel_rfl) (fun _ => by kernel_rfl)
  (RefK.plain [] (by kernel_rfl))
  (fun ⟨x6_2, _⟩ => RefK.ret (by kernel_rfl))) (RefK.seq [(15, .bool)] [0, 1, 5, 7] (fun z_ => [(15, .bool z_.1), (0, .pointer d), (1, .int .i64 at_1), (5, .pointer (some o_1)), (7, .int .i64 n)]) (fun z_ => object_Init_s11 d at_1 k o_1 n z_.1) (by kernel_rfl) (fun _ => by kernel_rfl)
  (RefK.plain [2, 8] (by kernel_rfl))
  (fun ⟨x15, _⟩ => RefK.cond (b := x15) (t1 := object_Init_s10 k 2) (t2 := object_Init_s8 d at_1 k o_1 n 1) (by kernel_rfl) (by kernel_rfl) (fun w h => brK_spec w h) (RefK.seq [(6, .int .i64)] [] (fun z_ => [(6, .int .i64 z_.1)]) (fun z_ => object_Init_s10 k z_.1) (by kernel_rfl) (fun _ => by kernel_rfl)
  (RefK.plain [] (by kernel_rfl))
  (fun ⟨x6_3, _⟩ => RefK.ret (by kernel_rfl))) (RefK.skip (by kernel_rfl)))))))
  (fun _ => RefK.seq [] [0, 1, 5] (fun z_ => [(0, .pointer d), (1, .int .i64 at_1), (5, .pointer (some o_1))]) (fun z_ => object_Init_s1 d at_1 k o_1) (by kernel_rfl) (fun _ => by kernel_rfl)
  (RefK.seq [(8, .int .i64)] [0, 1, 5, 7] (fun z_ => [(8, .int .i64 z_.1), (0, .pointer d), (1, .int .i64 at_1), (5, .pointer (some o_1)), (7, .int .i64 n)]) (fun z_ => object_Init_s8 d at_1 k o_1 n z_.1) (by kernel_rfl) (fun _ => by kernel_rfl)
  (RefK.plain [] (by kernel_rfl))
  (fun ⟨i, _⟩ => RefK.block (RefK.loop [(8, .int .i64)] [0, 1, 5, 7] (fun z_ => [(8, .int .i64 z_.1), (0, .pointer d), (1, .int .i64 at_1), (5, .pointer (some o_1)), (7, .int .i64 n)]) (fun (z_ : (Int × Unit)) c_ => object_Init_l7 d at_1 k o_1 n z_.1 c_) (i, ()) (by kernel_rfl) (fun _ => by kernel_rfl) (by kernel_rfl) (by kernel_rfl)
  (fun ⟨i_1, _⟩ c => RefK.seq [] [0, 1, 5, 7, 8] (fun z_ => [(0, .pointer d), (1, .int .i64 at_1), (5, .pointer (some o_1)), (7, .int .i64 n), (8, .int .i64 i_1)]) (fun z_ => object_Init_s5 d at_1 k i_1 c) (by kernel_rfl) (fun _ => by kernel_rfl)
  (RefK.seq [(34, .bool)] [0, 1, 5, 7, 8] (fun z_ => [(34, .bool z_.1), (0, .pointer d), (1, .int .i64 at_1), (5, .pointer (some o_1)), (7, .int .i64 n), (8, .int .i64 i_1)]) (fun z_ => object_Init_s6 d at_1 k o_1 i_1 c z_.1) (by kernel_rfl) (fun _ => by kernel_rfl)
  (RefK.plain [] (by kernel_rfl))
  (fun ⟨x34, _⟩ => RefK.cond (b := x34) (t1 := object_Init_s5 d at_1 k i_1 c) (t2 := object_Init_s1 d at_1 k o_1) (by kernel_rfl) (by kernel_rfl) (fun w h => brK_spec w h) (RefK.skip (by kernel_rfl)) (RefK.exit (by kernel_rfl))))
  (fun _ => RefK.seq [] [0, 1, 5, 7, 8] (fun z_ => [(0, .pointer d), (1, .int .i64 at_1), (5, .pointer (some o_1)), (7, .int .i64 n), (8, .int .i64 i_1)]) (fun z_ => c ((IntKind.wrap .i64 (i_1 + 1)), ())) (by kernel_rfl) (fun _ => by kernel_rfl)
  (RefK.block (RefK.seq [(9, .int .i64)] [0, 1, 5, 7, 8] (fun z_ => [(9, .int .i64 z_.1), (0, .pointer d), (1, .int .i64 at_1), (5, .pointer (some o_1)), (7, .int .i64 n), (8, .int .i64 i_1)]) (fun z_ => object_Init_s4 k i_1 c z_.1) (by kernel_rfl) (fun _ => by kernel_rfl)
  (RefK.plain [] (by kernel_rfl))
  (fun ⟨e, _⟩ => RefK.seq [(43, .bool)] [0, 1, 5, 7, 8, 9] (fun z_ => [(43, .bool z_.1), (0, .pointer d), (1, .int .i64 at_1), (5, .pointer (some o_1)), (7, .int .i64 n), (8, .int .i64 i_1), (9, .int .i64 e)]) (fun z_ => object_Init_s3 k i_1 c e z_.1) (by kernel_rfl) (fun _ => by kernel_rfl)
  (RefK.plain [] (by kernel_rfl))
  (fun ⟨x43, _⟩ => RefK.cond (b := x43) (t1 := object_Init_s2 k e) (t2 := c ((IntKind.wrap .i64 (i_1 + 1)), ())) (by kernel_rfl) (by kernel_rfl) (fun w h => brK_spec w h) (RefK.seq [(6, .int .i64)] [] (fun z_ => [(6, .int .i64 z_.1)]) (fun z_ => object_Init_s2 k z_.1) (by kernel_rfl) (fun _ => by kernel_rfl)
  (RefK.plain [] (by kernel_rfl))
  (fun ⟨x6_1, _⟩ => RefK.ret (by kernel_rfl))) (RefK.skip (by kernel_rfl))))))
  (fun _ => RefK.plain [] (by kernel_rfl)))))))
  (fun _ => RefK.seq [(6, .int .i64)] [] (fun z_ => [(6, .int .i64 z_.1)]) (fun z_ => object_Init_s0 k z_.1) (by kernel_rfl) (fun _ => by kernel_rfl)
  (RefK.plain [] (by kernel_rfl))
  (fun ⟨x6, _⟩ => RefK.ret (by kernel_rfl))))))) hyp_
@[reducible] def alloc_Allocator_FreeCells_s0 (k : (Sl → K)) (x4 : Sl) : K :=
  k x4
@[reducible] def alloc_Allocator_FreeCells_s1 (a : (Option Addr)) (k_1 : Int) (k : (Sl → K)) : K :=
  nn a fun x6 =>
  ldP (Addr.add x6 4) fun x8 =>
  c_free_Lists_List x8 k_1 fun x10 =>
  alloc_Allocator_FreeCells_s0 k x10
@[reducible] def alloc_Allocator_FreeCells (a : (Option Addr)) (k_1 : Int) : M Sl := fun k =>
  alloc_Allocator_FreeCells_s1 a k_1 k
theorem alloc_Allocator_FreeCells_ok (a : (Option Addr)) (k_1 : Int) (k : Sl → K) (w : World) (hyp_ : alloc_Allocator_FreeCells a k_1 k w) : c_alloc_Allocator_FreeCells a k_1 k w :=
  cl_of (P := Tryz.prog) Tryz.func96 rfl (by kernel_rfl)
  (RefK.seq [] [0, 1] (fun z_ => [(0, .pointer a), (1, .int .i64 k_1)]) (fun z_ => alloc_Allocator_FreeCells_s1 a k_1 k) (by kernel_rfl) (fun _ => by kernel_rfl)
  (RefK.plain [] (by kernel_rfl))
  (fun _ => RefK.seq [(4, .slice)] [] (fun z_ => [(4, z_.1.v)]) (fun z_ => alloc_Allocator_FreeCells_s0 k z_.1) (by kernel_rfl) (fun _ => by kernel_rfl)
  (RefK.plain [] (by kernel_rfl))
  (fun ⟨x4, _⟩ => RefK.ret (by kernel_rfl)))) hyp_
@[reducible] def alloc_New_s0 (k : (((Option Addr) × Int) → K)) (x6 : Addr) (x7 : Int) : K :=
  k ((some x6), x7)
@[reducible] def alloc_New_s1 (x8 : Addr) (x13_1 : Int) (c : ((Int × Unit) → K)) (x14 : Addr) : K :=
  ldI .i64 (Addr.add x14 1) fun x68 =>
  c_alloc_Allocator_carve (some x8) x13_1 x68 fun x69 =>
  c ((IntKind.wrap .i64 (x13_1 + 1)), ())
@[reducible] def alloc_New_s2 (x8 : Addr) (x13_1 : Int) (c : ((Int × Unit) → K)) (x14 : Addr) (x64 : Bool) : K :=
  brK x64
  (alloc_New_s1 x8 x13_1 c x14)
  (c ((IntKind.wrap .i64 (x13_1 + 1)), ()))
@[reducible] def alloc_New_s3 (x8 : Addr) (x13_1 : Int) (c : ((Int × Unit) → K)) (x14 : Addr) : K :=
  ldI .i64 (Addr.add x14 0) fun x63 =>
  alloc_New_s2 x8 x13_1 c x14 (x63 == 1)
@[reducible] def alloc_New_s4 (x1 : (Option Addr)) (x8 : Addr) (x13_1 : Int) (c : ((Int × Unit) → K)) : K :=
  nn x1 fun x57 =>
  ldP (Addr.add x57 0) fun x59 =>
  c_blocks_Table_Get x59 x13_1 fun x61 =>
  alK (.cells #[.int .i64 0, .int .i64 0, .int .i64 0] 143) fun b =>
  stK (Addr.add ⟨b, 0, none⟩ 0) (.int .i64 x61.1) <|
  stK (Addr.add ⟨b, 0, none⟩ 1) (.int .i64 x61.2.1) <|
  stK (Addr.add ⟨b, 0, none⟩ 2) (.int .i64 x61.2.2) <|
  alloc_New_s3 x8 x13_1 c ⟨b, 0, none⟩
@[reducible] def alloc_New_s5 (x1 : (Option Addr)) (k : (((Option Addr) × Int) → K)) (x8 : Addr) (x13_1 : Int) (c : ((Int × Unit) → K)) (x53 : Bool) : K :=
  brK x53
  (alloc_New_s4 x1 x8 x13_1 c)
  (alloc_New_s0 k x8 0)
@[reducible] def alloc_New_l6 (x1 : (Option Addr)) (k : (((Option Addr) × Int) → K)) (x8 : Addr) (x13_1 : Int) (c : ((Int × Unit) → K)) : K :=
  nn x1 fun x49 =>
  ldP (Addr.add x49 0) fun x51 =>
  c_blocks_Table_Len x51 fun x52 =>
  alloc_New_s5 x1 k x8 x13_1 c (decide (x13_1 < x52))
@[reducible] def alloc_New_s7 (x1 : (Option Addr)) (k : (((Option Addr) × Int) → K)) (x8 : Addr) (x13 : Int) : K :=
  lp (fun (z_ : (Int × Unit)) c_ => alloc_New_l6 x1 k x8 z_.1 c_) (x13, ())
@[reducible] def alloc_New_s8 (k : (((Option Addr) × Int) → K)) (x6_1 : (Option Addr)) (x7_1 : Int) : K :=
  k (x6_1, x7_1)
@[reducible] def alloc_New_s9 (k : (((Option Addr) × Int) → K)) (x27_1 : Int) (c_1 : ((Int × Unit) → K)) (x45 : Bool) : K :=
  brK x45
  (alloc_New_s8 k none 41)
  (c_1 ((IntKind.wrap .i64 (x27_1 + 1)), ()))
@[reducible] def alloc_New_s10 (k : (((Option Addr) × Int) → K)) (x8 : Addr) (x27_1 : Int) (c_1 : ((Int × Unit) → K)) (x10 : Int) : K :=
  ldP (Addr.add x8 3) fun x42 =>
  c_bitmap_Set_Add x42 x10 fun x44 =>
  alloc_New_s9 k x27_1 c_1 (!x44)
@[reducible] def alloc_New_s11 (k : (((Option Addr) × Int) → K)) (x6_2 : (Option Addr)) (x7_2 : Int) : K :=
  k (x6_2, x7_2)
@[reducible] def alloc_New_s12 (k : (((Option Addr) × Int) → K)) (x8 : Addr) (x27_1 : Int) (c_1 : ((Int × Unit) → K)) (x10 : Int) (x38 : Bool) : K :=
  brK x38
  (alloc_New_s11 k none 22)
  (alloc_New_s10 k x8 x27_1 c_1 x10)
@[reducible] def alloc_New_s13 (k : (((Option Addr) × Int) → K)) (x8 : Addr) (x27_1 : Int) (c_1 : ((Int × Unit) → K)) (x10 : Int) (x12 : Bool) : K :=
  alloc_New_s12 k x8 x27_1 c_1 x10 (!x12)
@[reducible] def alloc_New_s14 (k : (((Option Addr) × Int) → K)) (x8 : Addr) (x27_1 : Int) (c_1 : ((Int × Unit) → K)) (x10 : Int) : K :=
  c_alloc_Allocator_Place (some x8) x10 fun x34 =>
  alK (.cells #[.int .i64 0, .int .i64 0] 68) fun b_1 =>
  stK (Addr.add ⟨b_1, 0, none⟩ 0) (.int .i64 x34.1.1) <|
  stK (Addr.add ⟨b_1, 0, none⟩ 1) (.int .i64 x34.1.2) <|
  alloc_New_s13 k x8 x27_1 c_1 x10 x34.2
@[reducible] def alloc_New_s15 (k : (((Option Addr) × Int) → K)) (x8 : Addr) (x25 : Sl) (x27_1 : Int) (c_1 : ((Int × Unit) → K)) : K :=
  ixS x25.p x25.n x27_1 1 fun x29 =>
  ldI .i64 x29 fun x30 =>
  alloc_New_s14 k x8 x27_1 c_1 x30
@[reducible] def alloc_New_s16 (x1 : (Option Addr)) (k : (((Option Addr) × Int) → K)) (x8 : Addr) (x25 : Sl) (x27_1 : Int) (c_1 : ((Int × Unit) → K)) (x28 : Bool) : K :=
  brK x28
  (alloc_New_s15 k x8 x25 x27_1 c_1)
  (alloc_New_s7 x1 k x8 1)
@[reducible] def alloc_New_l17 (x1 : (Option Addr)) (k : (((Option Addr) × Int) → K)) (x8 : Addr) (x25 : Sl) (x26 : Int) (x27_1 : Int) (c_1 : ((Int × Unit) → K)) : K :=
  alloc_New_s16 x1 k x8 x25 x27_1 c_1 (decide (x27_1 < x26))
@[reducible] def alloc_New_s18 (x1 : (Option Addr)) (k : (((Option Addr) × Int) → K)) (x8 : Addr) (x25 : Sl) (x26 : Int) (x27 : Int) : K :=
  lp (fun (z_ : (Int × Unit)) c_ => alloc_New_l17 x1 k x8 x25 x26 z_.1 c_) (x27, ())
@[reducible] def alloc_New_s19 (x1 : (Option Addr)) (x2 : Sl) (k : (((Option Addr) × Int) → K)) (x8 : Addr) : K :=
  alloc_New_s18 x1 k x8 x2 ((x2.n : Nat) : Int) 0
@[reducible] def alloc_New_s20 (x0 : (Option Addr)) (x1 : (Option Addr)) (x2 : Sl) (k : (((Option Addr) × Int) → K)) : K :=
  c_bman_Manager_Geometry x1 fun x18 =>
  c_nvm_Device_Len x0 fun x20 =>
  c_bitmap_New x20 fun x21 =>
  c_free_New fun x22 =>
  alK (.cells #[.pointer x1, .pointer x0, .int .i64 x18, .pointer x21, .pointer x22] 47) fun b_2 =>
  alloc_New_s19 x1 x2 k ⟨b_2, 0, none⟩
@[reducible] def alloc_New (x0 : (Option Addr)) (x1 : (Option Addr)) (x2 : Sl) : M ((Option Addr) × Int) := fun k =>
  alloc_New_s20 x0 x1 x2 k
theorem alloc_New_ok (x0 : (Option Addr)) (x1 : (Option Addr)) (x2 : Sl) (k : ((Option Addr) × Int) → K) (w : World) (hyp_ : alloc_New x0 x1 x2 k w) : c_alloc_New x0 x1 x2 k w :=
  cl_of (P := Tryz.prog) Tryz.func124 rfl (by kernel_rfl)
  (RefK.seq [] [0, 1, 2] (fun z_ => [(0, .pointer x0), (1, .pointer x1), (2, x2.v)]) (fun z_ => alloc_New_s20 x0 x1 x2 k) (by kernel_rfl) (fun _ => by kernel_rfl)
  (RefK.plain [] (by kernel_rfl))
  (fun _ => RefK.seq [(8, .addr)] [1, 2] (fun z_ => [(8, .pointer (some z_.1)), (1, .pointer x1), (2, x2.v)]) (fun z_ => alloc_New_s19 x1 x2 k z_.1) (by kernel_rfl) (fun _ => by kernel_rfl)
  (RefK.plain [] (by kernel_rfl))
  (fun ⟨x8, _⟩ => RefK.seq [] [1, 8] (fun z_ => [(1, .pointer x1), (8, .pointer (some x8))]) (fun z_ => alloc_New_s7 x1 k x8 1) (by kernel_rfl) (fun _ => by kernel_rfl)
  (RefK.seq [(25, .slice), (26, .int .i64), (27, .int .i64)] [1, 8] (fun z_ => [(25, z_.1.v), (26, .int .i64 z_.2.1), (27, .int .i64 z_.2.2.1), (1, .pointer x1), (8, .pointer (some x8))]) (fun z_ => alloc_New_s18 x1 k x8 z_.1 z_.2.1 z_.2.2.1) (by kernel_rfl) (fun _ => by kernel_rfl)
  (RefK.plain [] (by kernel_rfl))
  (fun ⟨x25, x26, x27, _⟩ => RefK.block (RefK.loop [(27, .int .i64)] [1, 8, 25, 26] (fun z_ => [(27, .int .i64 z_.1), (1, .pointer x1), (8, .pointer (some x8)), (25, x25.v), (26, .int .i64 x26)]) (fun (z_ : (Int × Unit)) c_ => alloc_New_l17 x1 k x8 x25 x26 z_.1 c_) (x27, ()) (by kernel_rfl) (fun _ => by kernel_rfl) (by kernel_rfl) (by kernel_rfl)
  (fun ⟨x27_1, _⟩ c_1 => RefK.seq [(28, .bool)] [1, 8, 25, 26, 27] (fun z_ => [(28, .bool z_.1), (1, .pointer x1), (8, .pointer (some x8)), (25, x25.v), (26, .int .i64 x26), (27, .int .i64 x27_1)]) (fun z_ => alloc_New_s16 x1 k x8 x25 x27_1 c_1 z_.1) (by kernel_rfl) (fun _ => by kernel_rfl)
  (RefK.plain [] (by kernel_rfl))
  (fun ⟨x28, _⟩ => RefK.seq [] [1, 8, 25, 26, 27] (fun z_ => [(1, .pointer x1), (8, .pointer (some x8)), (25, x25.v), (26, .int .i64 x26), (27, .int .i64 x27_1)]) (fun z_ => alloc_New_s15 k x8 x25 x27_1 c_1) (by kernel_rfl) (fun _ => by kernel_rfl)
  (RefK.cond (b := x28) (t1 := alloc_New_s15 k x8 x25 x27_1 c_1) (t2 := alloc_New_s7 x1 k x8 1) (by kernel_rfl) (by kernel_rfl) (fun w h => brK_spec w h) (RefK.skip (by kernel_rfl)) (RefK.exit (by kernel_rfl)))
  (fun _ => RefK.seq [] [1, 8, 25, 26, 27] (fun z_ => [(1, .pointer x1), (8, .pointer (some x8)), (25, x25.v), (26, .int .i64 x26), (27, .int .i64 x27_1)]) (fun z_ => c_1 ((IntKind.wrap .i64 (x27_1 + 1)), ())) (by kernel_rfl) (fun _ => by kernel_rfl)
  (RefK.block (RefK.seq [(10, .int .i64)] [1, 8, 25, 26, 27] (fun z_ => [(10, .int .i64 z_.1), (1, .pointer x1), (8, .pointer (some x8)), (25, x25.v), (26, .int .i64 x26), (27, .int .i64 x27_1)]) (fun z_ => alloc_New_s14 k x8 x27_1 c_1 z_.1) (by kernel_rfl) (fun _ => by kernel_rfl)
  (RefK.plain [] (by kernel_rfl))
  (fun ⟨x10, _⟩ => RefK.seq [] [1, 8, 10, 25, 26, 27] (fun z_ => [(1, .pointer x1), (8, .pointer (some x8)), (10, .int .i64 x10), (25, x25.v), (26, .int .i64 x26), (27, .int .i64 x27_1)]) (fun z_ => alloc_New_s10 k x8 x27_1 c_1 x10) (by kernel_rfl) (fun _ => by kernel_rfl)
  (RefK.seq [(12, .bool)] [1, 8, 10, 25, 26, 27] (fun z_ => [(12, .bool z_.1), (1, .pointer x1), (8, .pointer (some x8)), (10, .int .i64 x10), (25, x25.v), (26, .int .i64 x26), (27, .int .i64 x27_1)]) (fun z_ => alloc_New_s13 k x8 x27_1 c_1 x10 z_.1) (by kernel_rfl) (fun _ => by kernel_rfl)
  (RefK.plain [] (by kernel_rfl))
  (fun ⟨x12, _⟩ => RefK.seq [(38, .bool)] [1, 8, 10, 25, 26, 27] (fun z_ => [(38, .bool z_.1), (1, .pointer x1), (8, .pointer (some x8)), (10, .int .i64 x10), (25, x25.v), (26, .int .i64 x26), (27, .int .i64 x27_1)]) (fun z_ => alloc_New_s12 k x8 x27_1 c_1 x10 z_.1) (by kernel_rfl) (fun _ => by kernel_rfl)
  (RefK.plain [] (by kernel_rfl))
  (fun ⟨x38, _⟩ => RefK.cond (b := x38) (t1 := alloc_New_s11 k none 22) (t2 := alloc_New_s10 k x8 x27_1 c_1 x10) (by kernel_rfl) (by kernel_rfl) (fun w h => brK_spec w h) (RefK.seq [(6, .ptr), (7, .int .i64)] [] (fun z_ => [(6, .pointer z_.1), (7, .int .i64 z_.2.1)]) (fun z_ => alloc_New_s11 k z_.1 z_.2.1) (by kernel_rfl) (fun _ => by kernel_rfl)
  (RefK.plain [] (by kernel_rfl))
  (fun ⟨x6_2, x7_2, _⟩ => RefK.ret (by kernel_rfl))) (RefK.skip (by kernel_rfl)))))
  (fun _ => RefK.seq [(45, .bool)] [1, 8, 25, 26, 27] (fun z_ => [(45, .bool z_.1), (1, .pointer x1), (8, .pointer (some x8)), (25, x25.v), (26, .int .i64 x26), (27, .int .i64 x27_1)]) (fun z_ => alloc_New_s9 k x27_1 c_1 z_.1) (by kernel_rfl) (fun _ => by kernel_rfl)
  (RefK.plain [] (by kernel_rfl))
  (fun ⟨x45, _⟩ => RefK.cond (b := x45) (t1 := alloc_New_s8 k none 41) (t2 := c_1 ((IntKind.wrap .i64 (x27_1 + 1)), ())) (by kernel_rfl) (by kernel_rfl) (fun w h => brK_spec w h) (RefK.seq [(6, .ptr), (7, .int .i64)] [] (fun z_ => [(6, .pointer z_.1), (7, .int .i64 z_.2.1)]) (fun z_ => alloc_New_s8 k z_.1 z_.2.1) (by kernel_rfl) (fun _ => by kernel_rfl)
  (RefK.plain [] (by kernel_rfl))
  (fun ⟨x6_1, x7_1, _⟩ => RefK.ret (by kernel_rfl))) (RefK.skip (by kernel_rfl)))))))
  (fun _ => RefK.plain [] (by kernel_rfl))))))))
  (fun _ => RefK.seq [] [8] (fun z_ => [(8, .pointer (some x8))]) (fun z_ => alloc_New_s0 k x8 0) (by kernel_rfl) (fun _ => by kernel_rfl)
  (RefK.seq [(13, .int .i64)] [1, 8] (fun z_ => [(13, .int .i64 z_.1), (1, .pointer x1), (8, .pointer (some x8))]) (fun z_ => alloc_New_s7 x1 k x8 z_.1) (by kernel_rfl) (fun _ => by kernel_rfl)
  (RefK.plain [] (by kernel_rfl))
  (fun ⟨x13, _⟩ => RefK.block (RefK.loop [(13, .int .i64)] [1, 8] (fun z_ => [(13, .int .i64 z_.1), (1, .pointer x1), (8, .pointer (some x8))]) (fun (z_ : (Int × Unit)) c_ => alloc_New_l6 x1 k x8 z_.1 c_) (x13, ()) (by kernel_rfl) (fun _ => by kernel_rfl) (by kernel_rfl) (by kernel_rfl)
  (fun ⟨x13_1, _⟩ c => RefK.seq [] [1, 8, 13] (fun z_ => [(1, .pointer x1), (8, .pointer (some x8)), (13, .int .i64 x13_1)]) (fun z_ => alloc_New_s4 x1 x8 x13_1 c) (by kernel_rfl) (fun _ => by kernel_rfl)
  (RefK.seq [(53, .bool)] [1, 8, 13] (fun z_ => [(53, .bool z_.1), (1, .pointer x1), (8, .pointer (some x8)), (13, .int .i64 x13_1)]) (fun z_ => alloc_New_s5 x1 k x8 x13_1 c z_.1) (by kernel_rfl) (fun _ => by kernel_rfl)
  (RefK.plain [] (by kernel_rfl))
  (fun ⟨x53, _⟩ => RefK.cond (b := x53) (t1 := alloc_New_s4 x1 x8 x13_1 c) (t2 := alloc_New_s0 k x8 0) (by kernel_rfl) (by kernel_rfl) (fun w h => brK_spec w h) (RefK.skip (by kernel_rfl)) (RefK.exit (by kernel_rfl))))
  (fun _ => RefK.seq [] [1, 8, 13] (fun z_ => [(1, .pointer x1), (8, .pointer (some x8)), (13, .int .i64 x13_1)]) (fun z_ => c ((IntKind.wrap .i64 (x13_1 + 1)), ())) (by kernel_rfl) (fun _ => by kernel_rfl)
  (RefK.block (RefK.seq [(14, .addr)] [1, 8, 13] (fun z_ => [(14, .pointer (some z_.1)), (1, .pointer x1), (8, .pointer (some x8)), (13, .int .i64 x13_1)]) (fun z_ => alloc_New_s3 x8 x13_1 c z_.1) (by kernel_rfl) (fun _ => by kernel_rfl)
  (RefK.plain [] (by kernel_rfl))
  (fun ⟨x14, _⟩ => RefK.seq [(64, .bool)] [1, 8, 13, 14] (fun z_ => [(64, .bool z_.1), (1, .pointer x1), (8, .pointer (some x8)), (13, .int .i64 x13_1), (14, .pointer (some x14))]) (fun z_ => alloc_New_s2 x8 x13_1 c x14 z_.1) (by kernel_rfl) (fun _ => by kernel_rfl)
  (RefK.plain [] (by kernel_rfl))
  (fun ⟨x64, _⟩ => RefK.cond (b := x64) (t1 := alloc_New_s1 x8 x13_1 c x14) (t2 := c ((IntKind.wrap .i64 (x13_1 + 1)), ())) (by kernel_rfl) (by kernel_rfl) (fun w h => brK_spec w h) (RefK.plain [] (by kernel_rfl)) (RefK.skip (by kernel_rfl))))))
  (fun _ => RefK.plain [] (by kernel_rfl)))))))
  (fun _ => RefK.seq [(6, .addr), (7, .int .i64)] [] (fun z_ => [(6, .pointer (some z_.1)), (7, .int .i64 z_.2.1)]) (fun z_ => alloc_New_s0 k z_.1 z_.2.1) (by kernel_rfl) (fun _ => by kernel_rfl)
  (RefK.plain [] (by kernel_rfl))
  (fun ⟨x6, x7, _⟩ => RefK.ret (by kernel_rfl))))))) hyp_
@[reducible] def alloc_Allocator_carve_s0 (a : (Option Addr)) (k_1 : Int) (i_1 : Int) (c : ((Int × Unit) → K)) (at_1 : Int) : K :=
  nn a fun x32 =>
  ldP (Addr.add x32 4) fun x34 =>
  c_free_Lists_Push x34 k_1 at_1 fun x37 =>
  c ((IntKind.wrap .i64 (i_1 - 1)), ())
@[reducible] def alloc_Allocator_carve_s1 (a : (Option Addr)) (k_1 : Int) (i_1 : Int) (c : ((Int × Unit) → K)) (at_1 : Int) (x30 : Bool) : K :=
  brK x30
  (alloc_Allocator_carve_s0 a k_1 i_1 c at_1)
  (c ((IntKind.wrap .i64 (i_1 - 1)), ()))
@[reducible] def alloc_Allocator_carve_s2 (a : (Option Addr)) (k_1 : Int) (i_1 : Int) (c : ((Int × Unit) → K)) (at_1 : Int) : K :=
  nn a fun x25 =>
  ldP (Addr.add x25 3) fun x27 =>
  c_bitmap_Set_Has x27 at_1 fun x29 =>
  alloc_Allocator_carve_s1 a k_1 i_1 c at_1 (!x29)
@[reducible] def alloc_Allocator_carve_s3 (a : (Option Addr)) (block : Int) (k_1 : Int) (i_1 : Int) (c : ((Int × Unit) → K)) : K :=
  nn a fun x16 =>
  ldI .i64 (Addr.add (Addr.add x16 2) 0) fun x18_0 =>
  c_cells_Address x18_0 k_1 (block, i_1) fun x23 =>
  alloc_Allocator_carve_s2 a k_1 i_1 c x23
@[reducible] def alloc_Allocator_carve_s4 (a : (Option Addr)) (block : Int) (k_1 : Int) (k : (Unit → K)) (i_1 : Int) (c : ((Int × Unit) → K)) (x12 : Bool) : K :=
  brK x12
  (alloc_Allocator_carve_s3 a block k_1 i_1 c)
  (k ())
@[reducible] def alloc_Allocator_carve_l5 (a : (Option Addr)) (block : Int) (k_1 : Int) (k : (Unit → K)) (i_1 : Int) (c : ((Int × Unit) → K)) : K :=
  alloc_Allocator_carve_s4 a block k_1 k i_1 c (decide (i_1 ≥ 0))
@[reducible] def alloc_Allocator_carve_s6 (a : (Option Addr)) (block : Int) (k_1 : Int) (k : (Unit → K)) (i : Int) : K :=
  lp (fun (z_ : (Int × Unit)) c_ => alloc_Allocator_carve_l5 a block k_1 k z_.1 c_) (i, ())
@[reducible] def alloc_Allocator_carve (a : (Option Addr)) (block : Int) (k_1 : Int) : M Unit := fun k =>
  c_class_Cells k_1 fun x9 =>
  alloc_Allocator_carve_s6 a block k_1 k (IntKind.wrap .i64 (x9 - 1))
theorem alloc_Allocator_carve_ok (a : (Option Addr)) (block : Int) (k_1 : Int) (k : Unit → K) (w : World) (hyp_ : alloc_Allocator_carve a block k_1 k w) : c_alloc_Allocator_carve a block k_1 k w :=
  cl_of (P := Tryz.prog) Tryz.func152 rfl (by kernel_rfl)
  (RefK.seq [(6, .int .i64)] [0, 1, 2] (fun z_ => [(6, .int .i64 z_.1), (0, .pointer a), (1, .int .i64 block), (2, .int .i64 k_1)]) (fun z_ => alloc_Allocator_carve_s6 a block k_1 k z_.1) (by kernel_rfl) (fun _ => by kernel_rfl)
  (RefK.plain [] (by kernel_rfl))
  (fun ⟨i, _⟩ => RefK.block (RefK.loop [(6, .int .i64)] [0, 1, 2] (fun z_ => [(6, .int .i64 z_.1), (0, .pointer a), (1, .int .i64 block), (2, .int .i64 k_1)]) (fun (z_ : (Int × Unit)) c_ => alloc_Allocator_carve_l5 a block k_1 k z_.1 c_) (i, ()) (by kernel_rfl) (fun _ => by kernel_rfl) (by kernel_rfl) (by kernel_rfl)
  (fun ⟨i_1, _⟩ c => RefK.seq [] [0, 1, 2, 6] (fun z_ => [(0, .pointer a), (1, .int .i64 block), (2, .int .i64 k_1), (6, .int .i64 i_1)]) (fun z_ => alloc_Allocator_carve_s3 a block k_1 i_1 c) (by kernel_rfl) (fun _ => by kernel_rfl)
  (RefK.seq [(12, .bool)] [0, 1, 2, 6] (fun z_ => [(12, .bool z_.1), (0, .pointer a), (1, .int .i64 block), (2, .int .i64 k_1), (6, .int .i64 i_1)]) (fun z_ => alloc_Allocator_carve_s4 a block k_1 k i_1 c z_.1) (by kernel_rfl) (fun _ => by kernel_rfl)
  (RefK.plain [] (by kernel_rfl))
  (fun ⟨x12, _⟩ => RefK.cond (b := x12) (t1 := alloc_Allocator_carve_s3 a block k_1 i_1 c) (t2 := k ()) (by kernel_rfl) (by kernel_rfl) (fun w h => brK_spec w h) (RefK.skip (by kernel_rfl)) (RefK.exit (by kernel_rfl))))
  (fun _ => RefK.seq [] [0, 1, 2, 6] (fun z_ => [(0, .pointer a), (1, .int .i64 block), (2, .int .i64 k_1), (6, .int .i64 i_1)]) (fun z_ => c ((IntKind.wrap .i64 (i_1 - 1)), ())) (by kernel_rfl) (fun _ => by kernel_rfl)
  (RefK.block (RefK.seq [(7, .int .i64)] [0, 1, 2, 6] (fun z_ => [(7, .int .i64 z_.1), (0, .pointer a), (1, .int .i64 block), (2, .int .i64 k_1), (6, .int .i64 i_1)]) (fun z_ => alloc_Allocator_carve_s2 a k_1 i_1 c z_.1) (by kernel_rfl) (fun _ => by kernel_rfl)
  (RefK.plain [] (by kernel_rfl))
  (fun ⟨at_1, _⟩ => RefK.seq [(30, .bool)] [0, 1, 2, 6, 7] (fun z_ => [(30, .bool z_.1), (0, .pointer a), (1, .int .i64 block), (2, .int .i64 k_1), (6, .int .i64 i_1), (7, .int .i64 at_1)]) (fun z_ => alloc_Allocator_carve_s1 a k_1 i_1 c at_1 z_.1) (by kernel_rfl) (fun _ => by kernel_rfl)
  (RefK.plain [] (by kernel_rfl))
  (fun ⟨x30, _⟩ => RefK.cond (b := x30) (t1 := alloc_Allocator_carve_s0 a k_1 i_1 c at_1) (t2 := c ((IntKind.wrap .i64 (i_1 - 1)), ())) (by kernel_rfl) (by kernel_rfl) (fun w h => brK_spec w h) (RefK.plain [] (by kernel_rfl)) (RefK.skip (by kernel_rfl))))))
  (fun _ => RefK.plain [] (by kernel_rfl))))))) hyp_
@[reducible] def alloc_Allocator_steal_s0 (k : ((Int × Int) → K)) (x6 : Int) (x7 : Int) : K :=
  k (x6, x7)
@[reducible] def alloc_Allocator_steal_s1 (k : ((Int × Int) → K)) (x6_1 : Int) (x7_1 : Int) : K :=
  k (x6_1, x7_1)
@[reducible] def alloc_Allocator_steal_s2 (a : (Option Addr)) (mutator : Int) (k_1 : Int) (k : ((Int × Int) → K)) : K :=
  nn a fun x27 =>
  ldP (Addr.add x27 4) fun x29 =>
  c_free_Lists_Take x29 mutator k_1 fun x32 =>
  alloc_Allocator_steal_s1 k x32.1 x32.2
@[reducible] def alloc_Allocator_steal_s3 (a : (Option Addr)) (mutator : Int) (k_1 : Int) (k : ((Int × Int) → K)) (m : Int) : K :=
  nn a fun x21 =>
  ldP (Addr.add x21 4) fun x23 =>
  c_free_Lists_Drain x23 m fun x25 =>
  alloc_Allocator_steal_s2 a mutator k_1 k
@[reducible] def alloc_Allocator_steal_s4 (a : (Option Addr)) (mutator : Int) (k_1 : Int) (k : ((Int × Int) → K)) (x9_1 : Int) (c : ((Int × Unit) → K)) (m : Int) (x19 : Bool) : K :=
  brK x19
  (alloc_Allocator_steal_s3 a mutator k_1 k m)
  (c ((IntKind.wrap .i64 (x9_1 + 1)), ()))
@[reducible] def alloc_Allocator_steal_s5 (a : (Option Addr)) (mutator : Int) (k_1 : Int) (k : ((Int × Int) → K)) (x9_1 : Int) (c : ((Int × Unit) → K)) (m : Int) : K :=
  nn a fun x13 =>
  ldP (Addr.add x13 4) fun x15 =>
  c_free_Lists_Own x15 m k_1 fun x18 =>
  alloc_Allocator_steal_s4 a mutator k_1 k x9_1 c m (decide (x18 > 0))
@[reducible] def alloc_Allocator_steal_s6 (a : (Option Addr)) (mutator : Int) (k_1 : Int) (k : ((Int × Int) → K)) (x9_1 : Int) (c : ((Int × Unit) → K)) (x10 : Bool) : K :=
  brK x10
  (alloc_Allocator_steal_s5 a mutator k_1 k x9_1 c x9_1)
  (alloc_Allocator_steal_s0 k 0 4)
@[reducible] def alloc_Allocator_steal_l7 (a : (Option Addr)) (mutator : Int) (k_1 : Int) (k : ((Int × Int) → K)) (x9_1 : Int) (c : ((Int × Unit) → K)) : K :=
  alloc_Allocator_steal_s6 a mutator k_1 k x9_1 c (decide (x9_1 < 4))
@[reducible] def alloc_Allocator_steal_s8 (a : (Option Addr)) (mutator : Int) (k_1 : Int) (k : ((Int × Int) → K)) (x9 : Int) : K :=
  lp (fun (z_ : (Int × Unit)) c_ => alloc_Allocator_steal_l7 a mutator k_1 k z_.1 c_) (x9, ())
@[reducible] def alloc_Allocator_steal (a : (Option Addr)) (mutator : Int) (k_1 : Int) : M (Int × Int) := fun k =>
  alloc_Allocator_steal_s8 a mutator k_1 k 0
theorem alloc_Allocator_steal_ok (a : (Option Addr)) (mutator : Int) (k_1 : Int) (k : (Int × Int) → K) (w : World) (hyp_ : alloc_Allocator_steal a mutator k_1 k w) : c_alloc_Allocator_steal a mutator k_1 k w :=
  cl_of (P := Tryz.prog) Tryz.func153 rfl (by kernel_rfl)
  (RefK.seq [] [0, 1, 2] (fun z_ => [(0, .pointer a), (1, .int .i64 mutator), (2, .int .i64 k_1)]) (fun z_ => alloc_Allocator_steal_s8 a mutator k_1 k 0) (by kernel_rfl) (fun _ => by kernel_rfl)
  (RefK.plain [] (by kernel_rfl))
  (fun _ => RefK.seq [] [] (fun z_ => []) (fun z_ => alloc_Allocator_steal_s0 k 0 4) (by kernel_rfl) (fun _ => by kernel_rfl)
  (RefK.seq [(9, .int .i64)] [0, 1, 2] (fun z_ => [(9, .int .i64 z_.1), (0, .pointer a), (1, .int .i64 mutator), (2, .int .i64 k_1)]) (fun z_ => alloc_Allocator_steal_s8 a mutator k_1 k z_.1) (by kernel_rfl) (fun _ => by kernel_rfl)
  (RefK.plain [] (by kernel_rfl))
  (fun ⟨x9, _⟩ => RefK.block (RefK.loop [(9, .int .i64)] [0, 1, 2] (fun z_ => [(9, .int .i64 z_.1), (0, .pointer a), (1, .int .i64 mutator), (2, .int .i64 k_1)]) (fun (z_ : (Int × Unit)) c_ => alloc_Allocator_steal_l7 a mutator k_1 k z_.1 c_) (x9, ()) (by kernel_rfl) (fun _ => by kernel_rfl) (by kernel_rfl) (by kernel_rfl)
  (fun ⟨x9_1, _⟩ c => RefK.seq [(10, .bool)] [0, 1, 2, 9] (fun z_ => [(10, .bool z_.1), (0, .pointer a), (1, .int .i64 mutator), (2, .int .i64 k_1), (9, .int .i64 x9_1)]) (fun z_ => alloc_Allocator_steal_s6 a mutator k_1 k x9_1 c z_.1) (by kernel_rfl) (fun _ => by kernel_rfl)
  (RefK.plain [] (by kernel_rfl))
  (fun ⟨x10, _⟩ => RefK.seq [] [0, 1, 2, 9] (fun z_ => [(0, .pointer a), (1, .int .i64 mutator), (2, .int .i64 k_1), (9, .int .i64 x9_1)]) (fun z_ => alloc_Allocator_steal_s5 a mutator k_1 k x9_1 c x9_1) (by kernel_rfl) (fun _ => by kernel_rfl)
  (RefK.cond (b := x10) (t1 := alloc_Allocator_steal_s5 a mutator k_1 k x9_1 c x9_1) (t2 := alloc_Allocator_steal_s0 k 0 4) (by kernel_rfl) (by kernel_rfl) (fun w h => brK_spec w h) (RefK.skip (by kernel_rfl)) (RefK.exit (by kernel_rfl)))
  (fun _ => RefK.seq [] [0, 1, 2, 9] (fun z_ => [(0, .pointer a), (1, .int .i64 mutator), (2, .int .i64 k_1), (9, .int .i64 x9_1)]) (fun z_ => c ((IntKind.wrap .i64 (x9_1 + 1)), ())) (by kernel_rfl) (fun _ => by kernel_rfl)
  (RefK.block (RefK.seq [(8, .int .i64)] [0, 1, 2, 9] (fun z_ => [(8, .int .i64 z_.1), (0, .pointer a), (1, .int .i64 mutator), (2, .int .i64 k_1), (9, .int .i64 x9_1)]) (fun z_ => alloc_Allocator_steal_s5 a mutator k_1 k x9_1 c z_.1) (by kernel_rfl) (fun _ => by kernel_rfl)
  (RefK.plain [] (by kernel_rfl))
  (fun ⟨m, _⟩ => RefK.seq [(19, .bool)] [0, 1, 2, 8, 9] (fun z_ => [(19, .bool z_.1), (0, .pointer a), (1, .int .i64 mutator), (2, .int .i64 k_1), (8, .int .i64 m), (9, .int .i64 x9_1)]) (fun z_ => alloc_Allocator_steal_s4 a mutator k_1 k x9_1 c m z_.1) (by kernel_rfl) (fun _ => by kernel_rfl)
  (RefK.plain [] (by kernel_rfl))
  (fun ⟨x19, _⟩ => RefK.cond (b := x19) (t1 := alloc_Allocator_steal_s3 a mutator k_1 k m) (t2 := c ((IntKind.wrap .i64 (x9_1 + 1)), ())) (by kernel_rfl) (by kernel_rfl) (fun w h => brK_spec w h) (RefK.seq [] [0, 1, 2] (fun z_ => [(0, .pointer a), (1, .int .i64 mutator), (2, .int .i64 k_1)]) (fun z_ => alloc_Allocator_steal_s2 a mutator k_1 k) (by kernel_rfl) (fun _ => by kernel_rfl)
  (RefK.plain [] (by kernel_rfl))
  (fun _ => RefK.seq [(6, .int .i64), (7, .int .i64)] [] (fun z_ => [(6, .int .i64 z_.1), (7, .int .i64 z_.2.1)]) (fun z_ => alloc_Allocator_steal_s1 k z_.1 z_.2.1) (by kernel_rfl) (fun _ => by kernel_rfl)
  (RefK.plain [] (by kernel_rfl))
  (fun ⟨x6_1, x7_1, _⟩ => RefK.ret (by kernel_rfl)))) (RefK.skip (by kernel_rfl))))))
  (fun _ => RefK.plain [] (by kernel_rfl))))))))
  (fun _ => RefK.seq [(6, .int .i64), (7, .int .i64)] [] (fun z_ => [(6, .int .i64 z_.1), (7, .int .i64 z_.2.1)]) (fun z_ => alloc_Allocator_steal_s0 k z_.1 z_.2.1) (by kernel_rfl) (fun _ => by kernel_rfl)
  (RefK.plain [] (by kernel_rfl))
  (fun ⟨x6, x7, _⟩ => RefK.ret (by kernel_rfl))))) hyp_
end Go.Proofs.YtdgcbapclnnkkaaGreat.X
end
section
/- Contracts: objects' headers on a device. Conditions: at most 2^32 lines. -/
set_option linter.unusedVariables false
set_option maxRecDepth 4000
namespace Go.Proofs.YtdgcbapclnnkkaaGreat.X
open Go
def oHead (c : List Int) (n : Nat) (a : Int) : Ob × Int :=
  if a < 0 ∨ a ≥ ((8 * n : Nat) : Int) ∨ (odec a (getI c a)).2 ≠ 0 ∨ oSize (odec a (getI c a)).1 > ((8 * n : Nat) : Int) - a then ((0, 0), 22) else ((odec a (getI c a)).1, 0)
section
variable {B : World} {P R : SL} {t : K}
theorem object_Head_c {d n : Nat} {c la : List Int} {a : Int} {k : Ob × Int → K} (hk : T B (R * LDev d n c la) (k (oHead c n a))) : T B (R * LDev d n c la) (c_object_Head (da d) a k) := by
  refine T_of (object_Head_ok _ a k) ?_
  unfold oHead at hk
  (repeat ((with_reducible refine T_al ?_; intro _)))
  rename_i b1
  by_cases h0 : a < 0
  · rw [if_pos (.inl h0)] at hk
    (repeat' (first | with_reducible refine T_brT ?_ | ((with_reducible apply T_ldI); (focus rfl); (focus exact hasA); (focus rfl)) | ((with_reducible apply T_st); (focus rfl); (focus exact updA); (focus simp); simp only [List.set, Nat.zero_add, Nat.reduceAdd]) | with_reducible refine T_brD (fun _ => ?_) (fun _ => ?_)))
    · refine T_drop1 .last ?_
      exact hk
    · exfalso; omega
  · (repeat' (first | with_reducible refine T_brT ?_ | ((with_reducible apply T_ldI); (focus rfl); (focus exact hasA); (focus rfl)) | ((with_reducible apply T_st); (focus rfl); (focus exact updA); (focus simp); simp only [List.set, Nat.zero_add, Nat.reduceAdd]) | with_reducible refine T_brD (fun _ => ?_) (fun _ => ?_)))
    · exfalso; omega
    refine T_bring (X := LDev d n c la) (.init .last) ?_
    refine LLen_c fun hl hn => ?_
    (repeat' (first | ((with_reducible apply T_ldI); (focus rfl); (focus exact hasA); (focus rfl)) | ((with_reducible apply T_st); (focus rfl); (focus exact updA); (focus simp); simp only [List.set, Nat.zero_add, Nat.reduceAdd]) | with_reducible refine T_brD (fun _ => ?_) (fun _ => ?_)))
    · rename_i h1
      rw [if_pos (.inr (.inl h1))] at hk
      refine T_drop1 (.init .last) ?_
      exact hk
    · rename_i h1
      refine LGet_c ?_
      refine ohead_Decode_c ?_
      generalize odec a (getI c a) = r at *
      (repeat' (first | with_reducible refine T_brT ?_ | ((with_reducible apply T_ldI); (focus rfl); (focus exact hasA); (focus rfl)) | (with_reducible refine T_al ?_; intro _) | ((with_reducible apply T_st); (focus rfl); (focus exact updA); (focus simp); simp only [List.set, Nat.zero_add, Nat.reduceAdd]) | with_reducible refine T_brNE (fun _ => ?_) (fun _ => ?_)))
      · rename_i h2
        rw [if_pos (.inr (.inr (.inl h2)))] at hk
        refine T_drop1 .last ?_
        refine T_drop1 (.init .last) ?_
        exact hk
      · rename_i b2 h2
        have h2' : r.2 = 0 := h2
        refine ohead_Size_c ?_
        refine T_bring (X := LDev d n c la) (.init .last) ?_
        refine LLen_c fun hl hn => ?_
        have e : IntKind.wrap .i64 (((8 * n : Nat) : Int) - a) = ((8 * n : Nat) : Int) - a := w64 (by omega) (by omega)
        (dsimp only [object_Head, object_Head_s0, object_Head_s1, object_Head_s2, object_Head_s3, object_Head_s4, object_Head_s5, object_Head_s6, object_Head_s7, object_Head_s8, object_Head_s9, object_Head_s10])
        rw [e]
        (repeat' (first | ((with_reducible apply T_ldI); (focus rfl); (focus exact hasA); (focus rfl)) | ((with_reducible apply T_st); (focus rfl); (focus exact updA); (focus simp); simp only [List.set, Nat.zero_add, Nat.reduceAdd]) | with_reducible refine T_brD (fun _ => ?_) (fun _ => ?_)))
        · rename_i h3
          rw [if_pos (.inr (.inr (.inr h3)))] at hk
          refine T_drop1 (.init (.init .last)) ?_
          refine T_drop1 (.init .last) ?_
          exact hk
        · rename_i h3
          rw [if_neg (by rintro (h | h | h | h) <;> first | omega | exact h h2' | exact h3 h)] at hk
          refine T_drop1 (.init (.init .last)) ?_
          refine T_drop1 (.init .last) ?_
          exact hk
end
end Go.Proofs.YtdgcbapclnnkkaaGreat.X
end
section
/- Contracts: objects made on a device. Conditions: at most 2^32 lines. -/
set_option linter.unusedVariables false
set_option maxRecDepth 4000
namespace Go.Proofs.YtdgcbapclnnkkaaGreat.X
open Go
/-- noughts behind an address, up to one -/
def zerN (c : List Int) (a : Nat) : Nat → List Int
  | 0 => c
  | 1 => c
  | i + 2 => (zerN c a (i + 1)).set (a + (i + 1)) 0
theorem zerN_succ (c : List Int) (a : Nat) {i : Nat} (h : 1 ≤ i) : zerN c a (i + 1) = (zerN c a i).set (a + i) 0 := by
  obtain ⟨j, rfl⟩ : ∃ j, i = j + 1 := ⟨i - 1, by omega⟩
  rfl
section
variable {B : World} {P R : SL} {t : K}
theorem object_Init_c {d n a : Nat} {c la : List Int} {o : Ob} (ho : oSize o ≠ 0) (ha : (a : Int) + oSize o ≤ ((8 * n : Nat) : Int)) {k : Int → K}
    (hk : T B (R * LDev d n ((zerN c a (oSize o).toNat).set a (oenc a o)) la) (k 0)) : T B (R * LDev d n c la) (c_object_Init (da d) a o k) := by
  refine T_of (object_Init_ok _ a o k) ?_
  have hr := oSize_rng o
  (repeat (first | ((with_reducible apply T_ldI); (focus rfl); (focus exact hasA); (focus rfl)) | (with_reducible refine T_al ?_; intro _)))
  rename_i b
  refine ohead_Size_c ?_
  (repeat' (first | with_reducible refine T_brT ?_ | with_reducible refine T_brD (fun _ => ?_) (fun _ => ?_) | with_reducible refine T_brE (fun _ => ?_) (fun _ => ?_)))
  · rename_i h; exact absurd h ho
  · exfalso; omega
  refine T_bring (X := LDev d n c la) (.init .last) ?_
  refine LLen_c fun hl hn => ?_
  (repeat' (first | with_reducible refine T_brT ?_ | with_reducible refine T_brD (fun _ => ?_) (fun _ => ?_)))
  · rename_i h; exfalso; omega
  refine LLen_c fun hl hn => ?_
  have e : IntKind.wrap .i64 (((8 * n : Nat) : Int) - a) = ((8 * n : Nat) : Int) - a := w64 (by omega) (by omega)
  (dsimp only [object_Init, object_Init_s0, object_Init_s1, object_Init_s2, object_Init_s3, object_Init_s4, object_Init_s5, object_Init_s6, object_Init_l7, object_Init_s8, object_Init_s9, object_Init_s10, object_Init_s11, object_Init_s12, object_Init_s13, object_Init_s14, object_Init_s15])
  rw [e]
  obtain ⟨z, hz⟩ := Int.eq_ofNat_of_zero_le hr.1
  have hz' : oSize (o.1, o.2) = (z : Int) := hz
  rw [hz'] 
  rw [hz] at ha ho hk hr
  (repeat' (with_reducible refine T_brD (fun _ => ?_) (fun _ => ?_)))
  · rename_i h; exfalso; omega
  refine T_lpX (fun _ s => R * pt b (.cells [.int .i64 o.1, .int .i64 o.2].toArray 68) * LDev d n (zerN c a s.1.toNat) la) (fun m (s : Int × Unit) => ∃ i : Nat, 1 ≤ i ∧ i ≤ z ∧ s.1 = i ∧ m = z - i) (z - 1) rfl ⟨1, by omega, by omega, rfl, rfl⟩ ?_
  rintro m ⟨s1, u⟩ cc ⟨i, h1, h2, h3, h4⟩ hc
  simp only at h3
  subst h3 h4
  simp only [Int.toNat_natCast]
  (repeat' (first | ((with_reducible apply T_ldI); (focus rfl); (focus exact hasA); (focus rfl)) | with_reducible refine T_brD (fun _ => ?_) (fun _ => ?_)))
  · rename_i hlt
    have e1 : IntKind.wrap .i64 ((a : Int) + i) = ((a + i : Nat) : Int) := by rw [w64 (by omega) (by omega)]; omega
    rw [e1]
    refine LStore_c (by omega) (by omega) ?_
    (repeat' (with_reducible refine T_brNE (fun _ => ?_) (fun _ => ?_)))
    · rename_i hx; exact absurd rfl hx
    have := hc (z - (i + 1)) (IntKind.wrap .i64 ((i : Int) + 1), ()) (by omega) ⟨i + 1, by omega, by omega, w64 (by omega) (by omega), rfl⟩
    have e2 : (IntKind.wrap .i64 ((i : Int) + 1)).toNat = i + 1 := by rw [w64 (by omega) (by omega)]; omega
    simp only [e2] at this
    rw [zerN_succ c a h1] at this
    rw [Int.toNat_natCast]
    exact this
  · rename_i hge
    have : i = z := by omega
    subst this
    refine ohead_Encode_c ?_
    refine LStore_c (by omega) (by omega) ?_
    rw [Int.toNat_natCast]
    rw [Int.toNat_natCast] at hk
    refine T_drop1 (.init .last) ?_
    exact hk
end
end Go.Proofs.YtdgcbapclnnkkaaGreat.X
end
section
/- Maps, by assertions. Conditions: keys of which the model decides whether two are alike. -/
set_option linter.unusedVariables false
set_option maxRecDepth 4000
namespace Go.Proofs.YtdgcbapclnnkkaaGreat.X
open Go
/-- keys that are told apart -/
structure KeyD {α : Type} [DecidableEq α] (Pg : Program) (mt kt et : TypeId) (ek : α → Value) : Prop where
  und : Pg.underlying mt = some (.map kt et)
  eq : ∀ a b, keyEq Pg kt (ek a) (ek b) = some (decide (a = b))
  fine : ∀ a, keyFine Pg kt (ek a) = true
  inj : ∀ a b, ek a = ek b → a = b
  same : ∀ a, Instr.sameBits 10000 (ek a) (ek a) = true
def kv (es : List MapEntry) : List (Value × Value) := es.map fun e => (e.key, e.val)
section
variable {α β : Type} [DecidableEq α] {Pg : Program} {mt kt et : TypeId} {ek : α → Value} {ev : β → Value}
def encs (ek : α → Value) (ev : β → Value) (l : List (α × β)) : List (Value × Value) := l.map fun p => (ek p.1, ev p.2)
def lkup (l : List (α × β)) (key : α) : Option β := (l.find? fun p => decide (key = p.1)).map (·.2)
theorem mfind_eq (hD : KeyD Pg mt kt et ek) {key : α} : ∀ (es : List MapEntry) (l : List (α × β)) (i : Nat), kv es = encs ek ev l →
    ∃ f, mfind Pg kt (ek key) es i = some f ∧ f.map (·.2) = (lkup l key).map ev ∧
      (f = none → l.findIdx? (fun p => decide (key = p.1)) = none) ∧ (∀ j v, f = some (j, v) → ∃ n, j = i + n ∧ l.findIdx? (fun p => decide (key = p.1)) = some n) := by
  intro es
  induction es with
  | nil =>
    intro l i h
    have : l = [] := by cases l <;> simp_all [kv, encs]
    subst this
    exact ⟨none, rfl, rfl, fun _ => rfl, fun j v h => by cases h⟩
  | cons e es ih =>
    intro l i h
    cases l with
    | nil => simp [kv, encs] at h
    | cons p l =>
      simp only [kv, encs, List.map_cons, List.cons.injEq, Prod.mk.injEq] at h
      obtain ⟨⟨hk, hv⟩, h⟩ := h
      have he := hD.eq key p.1
      simp only [mfind, hk, he]
      by_cases hkp : key = p.1
      · rw [decide_eq_true hkp]
        refine ⟨_, rfl, by simp [lkup, hkp, hv], fun h => by simp at h, fun j v hj => ?_⟩
        simp only [Option.some.injEq, Prod.mk.injEq] at hj
        exact ⟨0, by omega, by simp [List.findIdx?_cons, hkp]⟩
      · rw [decide_eq_false hkp]
        obtain ⟨f, h1, h2, h3, h4⟩ := ih l (i + 1) h
        refine ⟨f, h1, by rw [h2]; simp [lkup, hkp], fun hf => by simp [List.findIdx?_cons, hkp]; simpa using h3 hf, fun j v hj => ?_⟩
        obtain ⟨n, g1, g2⟩ := h4 j v hj
        exact ⟨n + 1, by omega, by simp [List.findIdx?_cons, hkp, g2]⟩
structure MpOk (ek : α → Value) (ev : β → Value) (es : Array MapEntry) (c : Nat) (l : List (α × β)) : Prop where
  kv : kv es.toList = encs ek ev l
  nod : (es.toList.map (·.born)).Nodup
  old : ∀ e ∈ es.toList, e.born < c
  keys : (l.map (·.1)).Nodup
def Mp (ek : α → Value) (ev : β → Value) (r : Nat) (l : List (α × β)) : SL := ex fun x : Array MapEntry × Nat => pt r (.map x.1 x.2) * pu (MpOk ek ev x.1 x.2 l)
variable {B : World} {P R : SL} {t : K}
theorem Mp_close {r : Nat} {l : List (α × β)} {es : Array MapEntry} {c : Nat} (ok : MpOk ek ev es c l) (h : T B (R * Mp ek ev r l) t) : T B (R * pt r (.map es c)) t := by
  refine T_puI ok ?_
  rw [sep_assoc]
  exact T_exI (X := fun x : Array MapEntry × Nat => pt r (.map x.1 x.2) * pu (MpOk ek ev x.1 x.2 l)) (es, c) h
end
end Go.Proofs.YtdgcbapclnnkkaaGreat.X
end
