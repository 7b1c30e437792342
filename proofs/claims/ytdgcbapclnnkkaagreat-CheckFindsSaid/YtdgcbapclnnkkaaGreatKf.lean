/- Part 6 of the proof that the law holds for every input: the theorems of this part. Conditions: each theorem bears its own; the last has none. -/
import Derived.Test.YtdgcbapclnnkkaaGreatKe
import Derived.ChangeKeysEq
import Derived.Test.YtdgcbapclnnkkaaGreatRows
import Derived.WalkKit
import Derived.ProofKit
import Derived.OpenShut
import Derived.JoinedCond
import Derived.ReadAgain
import Derived.Carry
set_option linter.all false
set_option maxRecDepth 4000
namespace Go.Proofs.YtdgcbapclnnkkaaGreat.X
open Go
section
set_option maxHeartbeats 1000000
/-- headers fit one another -/
structure Fit (hs : List Hd) : Prop where
  whole : ∀ b, (hd hs b).1 = 2 → ∃ n, WholeP hs b n
  cont : ∀ b, (hd hs b).1 = 3 → ∃ b0 n, WholeP hs b0 n ∧ b0 < b ∧ b < b0 + n
theorem Inv.fit {g : Nat} {hs : List Hd} {U : Nat → Bool} {L : Nat → List Int} (h : Inv g hs U L) : Fit hs := ⟨h.whole, h.cont⟩
theorem Fit.next {hs : List Hd} (h : Fit hs) {b : Nat} (h1 : (hd hs b).1 ≠ 2) (h3 : (hd hs b).1 ≠ 3) : (hd hs (b + 1)).1 ≠ 3 := by
  intro e
  obtain ⟨b0, n, hw, g1, g2⟩ := h.cont _ e
  rcases hw.kind (i := b) (by omega) (by omega) with ⟨_, h4⟩ | ⟨_, h4⟩
  · exact h1 h4
  · exact h3 h4
theorem Fit.behind {hs : List Hd} (h : Fit hs) {b n : Nat} (hw : WholeP hs b n) : (hd hs (b + n)).1 ≠ 3 := by
  intro e
  obtain ⟨b0, n0, hw0, g1, g2⟩ := h.cont _ e
  by_cases hne : b0 = b
  · subst hne
    have := hw.uniq hw0
    omega
  · have h1 := hw.1
    by_cases hlt : b0 ≤ b
    · exact hw0.disj hw (Ne.symm hne) (i := b) (by omega) (by omega) ⟨by omega, by omega⟩
    · exact hw.disj hw0 hne (i := b0) (by omega) (by omega) ⟨by omega, by have := hw0.1; omega⟩
section
variable {B : World} {P R : SL} {t : K}
theorem bman_Sound2_c {hs : List Hd} {x : Sl} (hl2 : hs.length ≤ 2 ^ 30) (hx : Rd P x 3 (hds hs)) (hf : Fit hs) (h1 : (hd hs 1).1 ≠ 3) {k : Int × Bool → K} (hk : T B P (k (0, true))) : T B P (c_bman_Sound x k) := by
  refine T_of (bman_Sound_ok x k) ?_
  refine T_rdlen hx fun hxn => ?_
  rw [hds_len] at hxn
  have hxl : x.n = hs.length := by omega
  refine T_lpX (fun _ _ => P) (fun m (z : Int × Unit) => ∃ i : Nat, z.1 = i ∧ 1 ≤ i ∧ i ≤ hs.length + 1 ∧ m = hs.length + 1 - i ∧ (hd hs i).1 ≠ 3) (hs.length + 1 - 1) rfl ⟨1, rfl, by omega, by omega, rfl, h1⟩ ?_
  rintro m ⟨z, u⟩ cc ⟨i, e1, e2, e3, e4, e5⟩ hc
  simp only at e1
  subst e1 e4
  (repeat' (with_reducible refine T_brD (fun _ => ?_) (fun _ => ?_)))
  · rename_i hlt
    have hlt : i < hs.length := by omega
    have hhd : hd hs i = hs[i] := getD_eq hlt _
    refine T_ixH (l := hs) hx (by omega) (by rw [Int.toNat_natCast]; exact hlt) fun a ha => ?_
    simp only [Int.toNat_natCast] at ha
    refine T_ldAt ha rfl ?_
    rw [← hhd]
    refine T_brE (fun h2 => ?_) (fun h2 => ?_)
    · obtain ⟨n, hw⟩ := hf.whole i h2
      have hw1 := hw.1
      have hw2 := hw.2.1
      refine bhead_Whole_c (hs := hs) (by omega) (by omega) hx (fun bb n' e hw' => ?_) (fun hno => absurd hw (hno i n rfl))
      have : bb = i := by omega
      subst this
      have := hw.uniq hw'
      subst this
      refine T_brF ?_
      (dsimp only [bman_Sound, Zdi0, Zdi1, Zdi2, Zdi3, Zdi4, Zdi5, Zdi6, Zdi7, Zdi8, Zdi9, Zdi10, Zdi11, Zdi12, Zdi13])
      have ew : IntKind.wrap .i64 (IntKind.wrap .i64 ((bb : Int) + IntKind.wrap .i64 ((n : Int) - 1)) + 1) = ((bb + n : Nat) : Int) := by
        rw [w64 (n := (n : Int) - 1) (by omega) (by omega), w64 (n := (bb : Int) + ((n : Int) - 1)) (by omega) (by omega), w64 (by omega) (by omega)]; omega
      rw [ew]
      exact hc (hs.length + 1 - (bb + n)) _ (by omega) ⟨bb + n, rfl, by omega, by omega, rfl, hf.behind hw⟩
    · refine T_brE (fun h3 => absurd h3 e5) (fun h3 => ?_)
      refine hc (hs.length + 1 - (i + 1)) _ (by omega) ⟨i + 1, w64 (by omega) (by omega), by omega, by omega, rfl, hf.next h2 h3⟩
  · exact hk
/-- a block's header is right, and lasts -/
def FineH (c la : List Int) (b : Nat) : Prop := (bdec b (getI c (256 + b))).2 = 0 ∧ getI la (256 + b) = getI c (256 + b)
theorem check_Headers_c {d n g : Nat} {c la : List Int} {hs : List Hd} (hn : n = 64 * g) (hg : 2 ≤ g) (hg2 : g ≤ 2 ^ 20) (hl : hs.length = g) (hz : hd hs 0 = (0, 0, 0)) (hf : Fit hs) (h1 : (hd hs 1).1 ≠ 3)
    (hh : ∀ b : Nat, 1 ≤ b → b < g → FineH c la b → (bdec b (getI c (256 + b))).1 = hd hs b) {k : Sl × (Int × Int) → K}
    (hk : (∀ b : Nat, 1 ≤ b → b < g → FineH c la b) → ∀ s, T B (R * LDev d n c la * vec 143 3 s (hds hs)) (k (s, (0, 0))))
    (hb : ∀ b : Nat, 1 ≤ b → b < g → ¬ FineH c la b → T B (R * LDev d n c la) (k (⟨none, 0, 0⟩, (b, 21)))) : T B (R * LDev d n c la) (c_check_Headers (da d) g k) := by
  refine T_of (check_Headers_ok _ g k) ?_
  (repeat (first | ((with_reducible apply T_ldI); (focus rfl); (focus exact hasA); (focus rfl)) | (with_reducible refine T_al ?_; intro _)))
  rename_i b4
  refine T_mkV kd_hd (by omega) (by omega) (by omega) fun bv => ?_
  rw [Int.toNat_natCast, repZ_hds]
  have e0 : List.replicate g ((0, 0, 0) : Hd) = hs.take 1 ++ List.replicate (g - 1) (0, 0, 0) := by
    have h0 : hs[0]'(by omega) = (0, 0, 0) := by rw [← getD_eq (by omega) (0, 0, 0)]; exact hz
    have : hs.take 1 = [(0, 0, 0)] := by
      rw [show (1 : Nat) = 0 + 1 from rfl, List.take_succ_eq_append_getElem (by omega), h0]; rfl
    rw [this, show g = (g - 1) + 1 by omega, List.replicate_succ]; simp
  rw [e0]
  refine T_lpX (fun _ s => R * LDev d n c la * pt b4 (.cells [.int .i64 g].toArray 43) * vec 143 3 ⟨some ⟨bv, 0, none⟩, g, g⟩ (hds (hs.take s.1.toNat ++ List.replicate (g - s.1.toNat) (0, 0, 0))))
    (fun m (s : Int × Unit) => ∃ i : Nat, 1 ≤ i ∧ i ≤ g ∧ s.1 = i ∧ m = g - i ∧ ∀ b : Nat, 1 ≤ b → b < i → FineH c la b) (g - 1) rfl ⟨1, by omega, by omega, rfl, rfl, fun b _ _ => by omega⟩ ?_
  rintro m ⟨s1, u⟩ cc ⟨i, q1, q2, q3, q4, q5⟩ hc
  simp only at q3
  subst q3 q4
  simp only [Int.toNat_natCast]
  (repeat' (first | ((with_reducible apply T_ldI); (focus rfl); (focus exact hasA); (focus rfl)) | with_reducible refine T_brD (fun _ => ?_) (fun _ => ?_)))
  · rename_i hlt
    have hlt' : i < hs.length := by omega
    have hhe : header g (i : Int) = 256 + (i : Int) := by unfold header; rw [if_neg (by omega)]
    refine geom_Header_c (by omega) ?_
    rw [hhe]
    refine T_bring (X := LDev d n c la) (by exact frmA) ?_
    refine LGet_c ?_
    refine bhead_Decode_c (by omega) (by omega) ?_
    have hhi := hh i q1 (by omega)
    have hbi := hb i q1 (by omega)
    have hfe : FineH c la i ↔ (bdec i (getI c (256 + i))).2 = 0 ∧ getI la (256 + i) = getI c (256 + i) := Iff.rfl
    generalize bdec (i : Int) (getI c (256 + i)) = r at hhi hfe ⊢
    obtain ⟨⟨r1, r2, r3⟩, e⟩ := r
    simp only at hfe hhi
    have bad : ¬ FineH c la i → ∀ (b1 : Nat) (ob : Obj), T B (R * pt b4 (.cells [.int .i64 g].toArray 43) * vec 143 3 ⟨some ⟨bv, 0, none⟩, g, g⟩ (hds (hs.take i ++ List.replicate (g - i) (0, 0, 0))) * LDev d n c la * pt b1 ob) (k (⟨none, 0, 0⟩, ((i : Int), 21))) := by
      intro hn b1 ob
      refine T_drop1 .last ?_
      refine T_drop1 (.init .last) ?_
      refine T_drop1 (.init .last) ?_
      exact hbi hn
    (repeat (first | with_reducible refine T_tick ?_ | (with_reducible refine T_al ?_; intro _) | ((with_reducible apply T_st); (focus rfl); (focus exact updA); (focus simp); simp only [List.set, Nat.zero_add, Nat.reduceAdd])))
    rename_i b1
    (dsimp only [check_Headers, Zev0, Zev1, Zev2, Zev3, Zev4, Zev5, Zev6, Zev7, Zev8, Zev9, Zev10, Zev11, Zev12, Zev13, Zev14])
    refine T_brNE (fun hne => ?_) (fun he => ?_)
    · refine T_brT ?_
      exact bad (fun h => hne (hfe.1 h).1) _ _
    subst he
    (repeat (((with_reducible apply T_ldI); (focus rfl); (focus exact hasA); (focus rfl))))
    refine geom_Header_c (by omega) ?_
    rw [hhe]
    (repeat (first | with_reducible refine T_chk0 ?_ | ((with_reducible apply T_chk); (focus rfl); (focus exact hasA); (focus rfl))))
    refine T_bring (X := LDev d n c la) (by exact frmA) ?_
    refine LLasting_c ?_
    (repeat (first | with_reducible refine T_chk0 ?_ | ((with_reducible apply T_chk); (focus rfl); (focus exact hasA); (focus rfl))))
    refine geom_Header_c (by omega) ?_
    rw [hhe]
    refine LGet_c ?_
    refine T_brNE (fun hne => ?_) (fun heq => ?_)
    · exact T.perm (by ac_rfl) (bad (fun h => hne (hfe.1 h).2) b1 _)
    have hfine : FineH c la i := hfe.2 ⟨rfl, heq⟩
    have hr := hhi hfine
    have hhd : hd hs i = hs[i] := getD_eq hlt' _
    rw [hhd] at hr
    (repeat (((with_reducible apply T_ldI); (focus rfl); (focus exact hasA); (focus rfl))))
    refine T_bring (X := vec 143 3 ⟨some ⟨bv, 0, none⟩, g, g⟩ (hds (hs.take i ++ List.replicate (g - i) (0, 0, 0)))) (by exact frmA) ?_
    refine T_stH (i := i) (x := (r1, r2, r3)) (s := ⟨some ⟨bv, 0, none⟩, g, g⟩) (l := hs.take i ++ List.replicate (g - i) (0, 0, 0)) .last (by omega) (by simp; omega) ?_
    have hx := hc (g - (i + 1)) (IntKind.wrap .i64 ((i : Int) + 1), ()) (by omega) ⟨i + 1, by omega, by omega, w64 (by omega) (by omega), rfl, fun b p1 p2 => by
      by_cases e : b = i
      · subst e; exact hfine
      · exact q5 b p1 (by omega)⟩
    have e : (IntKind.wrap .i64 ((i : Int) + 1)).toNat = i + 1 := by rw [w64 (by omega) (by omega)]; omega
    simp only [e] at hx
    have e2 : (hs.take i ++ List.replicate (g - i) ((0, 0, 0) : Hd)).set (i : Int).toNat (r1, r2, r3) = hs.take (i + 1) ++ List.replicate (g - (i + 1)) (0, 0, 0) := by
      rw [hr, Int.toNat_natCast, List.set_append_right _ _ (by simp; omega), List.take_succ_eq_append_getElem hlt']
      have e5 : i - (hs.take i).length = 0 := by simp; omega
      rw [e5, show g - i = (g - (i + 1)) + 1 by omega, List.replicate_succ, List.set_cons_zero, List.append_assoc]; rfl
    rw [e2]
    refine T_drop1 (by exact frmA : Frm _ (pt b1 (.cells [.int .i64 r1, .int .i64 r2, .int .i64 r3].toArray 143)) _) ?_
    refine T.perm ?_ hx
    ac_rfl
  · rename_i hge
    have : i = g := by omega
    subst this
    simp only [Nat.sub_self, List.replicate_zero, List.append_nil]
    rw [List.take_of_length_le (by omega)]
    refine bman_Sound2_c (hs := hs) (by omega) (Rd.vec (E := 143) .last) hf h1 ?_
    (dsimp only [check_Headers, Zev0, Zev1, Zev2, Zev3, Zev4, Zev5, Zev6, Zev7, Zev8, Zev9, Zev10, Zev11, Zev12, Zev13, Zev14])
    simp only [Bool.not_true]
    (repeat (with_reducible refine T_brF ?_))
    refine T_drop1 (.init .last) ?_
    exact hk q5 ⟨some ⟨bv, 0, none⟩, i, i⟩
end
end
section
set_option maxHeartbeats 1000000
theorem cellOf_cell {g b k i : Nat} (hk : k < 32) (hb : 1 ≤ b) (hb2 : b < g) (hi : i < cn k) : cellOf g k (cellN b k i : Nat) = (((b : Int), (i : Int)), true) := by
  have hr := cellN_rng (b := b) hk hi
  obtain ⟨t1, t2, t3, t4, t5, t6, t7, t8⟩ := cls_tab k hk
  have hb' := blockOf_of (g := g) (x := cellN b k i) (by omega)
  rw [cellN_blk hk hi] at hb'
  unfold cellOf
  rw [if_neg (by rw [hb']; omega), hb', t1]
  have e : ((cellN b k i : Nat) : Int) % 512 / (cw k : Int) = ((i : Nat) : Int) := by
    have e1 : cellN b k i % 512 = i * cw k := by
      have h5 := hr.2
      have h6 := hr.1
      unfold cellN at h5 h6 ⊢
      omega
    have e2 : ((cellN b k i : Nat) : Int) % 512 = ((i * cw k : Nat) : Int) := by omega
    rw [e2, ← Int.natCast_ediv, Nat.mul_div_cancel _ (by omega)]
  rw [e, cellAt_eq hk hb hb2 hi]
  simp
def fmOf (l : List Int) : FM := fun x => if x ∈ l then some true else none
def frL (s : St) (k : Nat) : List Int := sortI (accL s.L k 4)
def allL (s : St) (k : Nat) : List Int := (List.range k).flatMap (frL s)
theorem fmOf_snoc (l : List Int) (x : Int) : updF (fmOf l) x true = fmOf (l ++ [x]) := by
  funext y
  unfold updF fmOf
  by_cases e : y = x
  · subst e; simp
  · rw [if_neg e]; simp [e]
theorem frL_mem {g : Nat} {s : St} (inv : Inv g s.hs s.U s.L) {k : Nat} (hk : k < 32) (x : Int) : x ∈ frL s k ↔ ∃ n : Nat, x = n ∧ SmCell g s.hs k n ∧ s.U n = false := by
  unfold frL sortI
  rw [List.mem_mergeSort, inv.free.mem k hk]
theorem frL_nodup {g : Nat} {s : St} (inv : Inv g s.hs s.U s.L) {k : Nat} (hk : k < 32) : (frL s k).Nodup := by
  unfold frL sortI
  exact (List.mergeSort_perm _ _).nodup_iff.2 (inv.free.nd k hk)
theorem allL_mem {g : Nat} {s : St} (inv : Inv g s.hs s.U s.L) {k : Nat} (hk : k ≤ 32) (x : Int) : x ∈ allL s k ↔ ∃ j, j < k ∧ ∃ n : Nat, x = n ∧ SmCell g s.hs j n ∧ s.U n = false := by
  unfold allL
  rw [List.mem_flatMap]
  constructor
  · rintro ⟨j, hj, h⟩
    have hj := List.mem_range.1 hj
    exact ⟨j, hj, (frL_mem inv (by omega) x).1 h⟩
  · rintro ⟨j, hj, h⟩
    exact ⟨j, List.mem_range.2 hj, (frL_mem inv (by omega) x).2 h⟩
section
variable {B : World} {P R : SL} {t : K}
theorem check_free_c {a d g : Nat} {s : St} (inv : Inv g s.hs s.U s.L) {k : Option Nat × (Int × Int) → K} (hk : ∀ m fm, FreeM g s fm → T B (R * Al a d g s * MpF ei eb m fm) (k (some m, (0, 0)))) : T B (R * Al a d g s) (c_check_free (da a) k) := by
  refine T_of (check_free_ok _ k) ?_
  have hg := inv.big
  have hl := inv.len
  refine T_al fun m => ?_
  refine MpF_close (ek := ei) (ev := eb) (FOk_nil (α := Int) (β := Bool)) ?_
  have e0 : (fun _ => none : FM) = fmOf (allL s 0) := by funext x; rfl
  rw [e0]
  (dsimp only [check_free, Zew0, Zew1, Zew2, Zew3, Zew4, Zew5, Zew6, Zew7, Zew8, Zew9, Zew10, Zew11, Zew12, Zew13, Zew14, Zew15, Zew16, Zew17, Zew18])
  refine T_lpX (fun _ z => R * Al a d g s * MpF ei eb m (fmOf (allL s z.1.toNat))) (fun n (z : Int × Unit) => ∃ i : Nat, z.1 = i ∧ i ≤ 32 ∧ n = 32 - i) 32 rfl ⟨0, rfl, by omega, rfl⟩ ?_
  rintro n ⟨z, u⟩ c ⟨i, e1, e2, e3⟩ hc
  simp only at e1
  subst e1 e3
  simp only [Int.toNat_natCast]
  (repeat' (with_reducible refine T_brD (fun _ => ?_) (fun _ => ?_)))
  · rename_i hlt
    have hi : i < 32 := by omega
    have hnx := hc (32 - (i + 1)) (IntKind.wrap .i64 ((i : Int) + 1), ()) (by omega) ⟨i + 1, w64 (by omega) (by omega), by omega, rfl⟩
    have e : (IntKind.wrap .i64 ((i : Int) + 1)).toNat = i + 1 := by rw [w64 (by omega) (by omega)]; omega
    simp only [e] at hnx
    clear hc
    refine T_bring (X := Al a d g s) (by exact frmA) ?_
    refine FreeCells_c inv hi fun sl => ?_
    have hfl : sortI (accL s.L i 4) = frL s i := rfl
    rw [hfl]
    refine T_vlen (E := 3) (sz := 1) (s := sl) (vs := ints (frL s i)) .last fun hsn => ?_
    rw [ints_len, Nat.mul_one] at hsn
    have hlen : (frL s i).length ≤ 2 ^ 30 := by
      have := inv.free.len hg hi
      unfold frL sortI; rw [List.length_mergeSort]; omega
    refine T_lpX (fun _ z => R * MpF ei eb m (fmOf (allL s i ++ (frL s i).take z.1.toNat)) * Al a d g s * vec 3 1 sl (ints (frL s i))) (fun n (z : Int × Unit) => ∃ j : Nat, z.1 = j ∧ j ≤ (frL s i).length ∧ n = (frL s i).length - j) (frL s i).length (by simp) ⟨0, rfl, by omega, rfl⟩ ?_
    rintro n ⟨z, u⟩ c2 ⟨j, f1, f2, f3⟩ hc
    simp only at f1
    subst f1 f3
    simp only [Int.toNat_natCast]
    (repeat' (with_reducible refine T_brD (fun _ => ?_) (fun _ => ?_)))
    · rename_i hlt2
      have hj : j < (frL s i).length := by omega
      have hnx2 := hc ((frL s i).length - (j + 1)) (IntKind.wrap .i64 ((j : Int) + 1), ()) (by omega) ⟨j + 1, w64 (by omega) (by omega), by omega, rfl⟩
      have e : (IntKind.wrap .i64 ((j : Int) + 1)).toNat = j + 1 := by rw [w64 (by omega) (by omega)]; omega
      simp only [e] at hnx2
      rw [List.take_succ_eq_append_getElem hj, ← List.append_assoc, ← fmOf_snoc] at hnx2
      clear hc hnx
      refine T_ixV (n := (frL s i)[j]) (Rd.vec (E := 3) (s := sl) .last) (by omega) (by rw [Int.toNat_natCast]; exact ints_at hj) ?_
      have hmem : (frL s i)[j] ∈ frL s i := List.getElem_mem hj
      have hnin : (frL s i)[j] ∉ allL s i ++ (frL s i).take j := by
        intro h
        rcases List.mem_append.1 h with h | h
        · obtain ⟨j', hj', n, e1, h1, h2⟩ := (allL_mem inv (by omega) _).1 h
          obtain ⟨n', e1', h1', h2'⟩ := (frL_mem inv hi _).1 hmem
          have : n = n' := by omega
          subst this
          have := SmCell.k (by omega) hi h1 h1'
          omega
        · have hnd := frL_nodup inv hi
          rw [List.mem_take_iff_getElem] at h
          obtain ⟨q, hq, e⟩ := h
          exact List.pairwise_iff_getElem.1 hnd q j (by omega) hj (by omega) e
      obtain ⟨x, hx, ⟨b, ci, hb1, hb2, hbh, hci, hxc⟩, hu⟩ := (frL_mem inv hi _).1 hmem
      generalize (frL s i)[j] = y at *
      subst hx hxc
      refine T_bring (X := Al a d g s) (by exact frmA) ?_
      refine Al_open fun mm u f => ?_
      unfold da
      (repeat (first | with_reducible refine T_nn ?_ | ((with_reducible apply T_ldP); (focus rfl); (focus exact hasA); (focus rfl))))
      refine T_bring (X := Mg mm d g s.hs s.F) (by exact frmA) ?_
      refine bman_Geometry_c ?_
      refine cells_At_c (by omega) (by omega) ?_
      rw [cellOf_cell hi hb1 hb2 hci]
      (repeat (first | with_reducible refine T_tick ?_ | (with_reducible refine T_al ?_; intro _) | ((with_reducible apply T_st); (focus rfl); (focus exact updA); (focus simp); simp only [List.set, Nat.zero_add, Nat.reduceAdd])))
      rename_i b1
      simp only [Bool.not_true]
      (repeat (first | with_reducible refine T_nn ?_ | with_reducible refine T_brF ?_ | ((with_reducible apply T_ldP); (focus rfl); (focus exact hasA); (focus rfl))))
      refine T_bring (X := Mg mm d g s.hs s.F) (by exact frmA) ?_
      refine Mg_open fun tt xx tie => ?_
      unfold da
      (repeat (first | ((with_reducible apply T_ldI); (focus rfl); (focus exact hasA); (focus rfl)) | ((with_reducible apply T_ldP); (focus rfl); (focus exact hasA); (focus rfl))))
      refine T_bring (X := Tab tt d g s.hs) (by exact frmA) ?_
      refine blocks_Get_c ?_
      rw [if_neg (by omega), Int.toNat_natCast, show s.hs.getD b (0, 0, 0) = hd s.hs b from rfl, hbh]
      simp only [BEq.rfl, Bool.and_true, Bool.not_true]
      (repeat (with_reducible refine T_brF ?_))
      refine T_lkF (ek := ei) (ev := eb) kd_ib (MHas.of (show Frm _ (MpF ei eb m (fmOf (allL s i ++ (frL s i).take j))) _ by exact frmA)) (key := (cellN b i ci : Nat)) (f := fmOf (allL s i ++ (frL s i).take j)) false (by unfold fmOf; rw [if_neg hnin]; rfl) fun ob => ?_
      (repeat (with_reducible refine T_brF ?_))
      refine T_bring (X := MpF ei eb m (fmOf (allL s i ++ (frL s i).take j))) (by exact frmA) ?_
      refine T_updM (ek := ei) (ev := eb) kd_ib (v := true) (key := ((cellN b i ci : Nat) : Int)) rfl rfl ?_
      refine T_drop1 (by exact frmA : Frm _ (pt b1 (.cells [.int .i64 b, .int .i64 ci].toArray 168)) _) ?_
      have h2 : T B (R * MpF ei eb m (updF (fmOf (allL s i ++ (frL s i).take j)) ((cellN b i ci : Nat) : Int) true) * vec 3 1 sl (ints (frL s i)) * Al a d g s) (c2 (IntKind.wrap .i64 ((j : Int) + 1), ())) := T.perm (by ac_rfl) hnx2
      have h3 := Al_close (m := mm) (u := u) (f := f) h2
      have h4 : T B (R * MpF ei eb m (updF (fmOf (allL s i ++ (frL s i).take j)) ((cellN b i ci : Nat) : Int) true) * vec 3 1 sl (ints (frL s i)) * LDx d (64 * g) s.c * Bm u (512 * g) s.U * Fl f s.L * pt a (.cells [.pointer (da mm), .pointer (da d), .int .i64 g, .pointer (da u), .pointer (da f)].toArray 47) * Mg mm d g s.hs s.F) (c2 (IntKind.wrap .i64 ((j : Int) + 1), ())) := T.perm (by ac_rfl) h3
      exact T.perm (by unfold da; ac_rfl) (Mg_close (a := tt) (x := xx) tie h4)
    · have : j = (frL s i).length := by omega
      subst this
      rw [List.take_length]
      have e4 : allL s i ++ frL s i = allL s (i + 1) := by unfold allL; rw [List.range_succ, List.flatMap_append]; simp
      rw [e4]
      refine T_drop1 .last ?_
      exact T.perm (by ac_rfl) hnx
  · have : i = 32 := by omega
    subst this
    refine hk m _ fun x => ?_
    unfold fmOf
    have hm := allL_mem inv (Nat.le_refl 32) (x : Int)
    by_cases h : (x : Int) ∈ allL s 32
    · rw [if_pos h]
      obtain ⟨j, hj, n, e, h1, h2⟩ := hm.1 h
      have : x = n := by omega
      subst this
      simp only [Option.getD_some, true_iff]
      exact ⟨j, hj, h1, h2⟩
    · rw [if_neg h]
      simp only [Option.getD_none, Bool.false_eq_true, false_iff]
      rintro ⟨j, hj, h1, h2⟩
      exact h (hm.2 ⟨j, hj, x, rfl, h1, h2⟩)
end
end
section
set_option maxHeartbeats 1000000
def oneR (g : Nat) (s : St) (b : Nat) (r : Rp) : Rp :=
  if (hd s.hs b).1 = 0 then { r with f := r.f + 1 }
  else if (hd s.hs b).1 = 1 then blkR g s b (hd s.hs b).2.1.toNat r
  else if (hd s.hs b).1 = 2 then { r.add (oHead s.c (64 * g) ((b * 512 : Nat) : Int)).1 ((hd s.hs b).2.2 * 512) with l := r.l + 1 }
  else r
def GoodB (g : Nat) (s : St) (b : Nat) : Prop := ∀ x, x / 512 = b → Good g s x
def BadX (g : Nat) (s : St) : Prop := ∃ x, Bad g s x
theorem GoodB.small {g : Nat} {s : St} (inv : Inv g s.hs s.U s.L) {b k : Nat} (hk : k < 32) (hh : hd s.hs b = (1, (k : Int), 0)) (h : ∀ i, i < cn k → Good g s (cellN b k i)) : GoodB g s b := by
  intro x hx hu
  rcases inv.used x hu with ⟨j, hj, b', i, _, _, h3, h4, rfl⟩ | ⟨b', n, _, hw, rfl⟩
  · rw [cellN_blk hj h4] at hx
    subst hx
    rw [hh] at h3
    simp only [Prod.mk.injEq] at h3
    have : j = k := by omega
    subst this
    exact h i h4 hu
  · rw [Nat.mul_div_cancel _ (by omega)] at hx
    subst hx
    have := hw.2.2.1
    unfold hd at hh
    rw [hh] at this; simp at this
theorem GoodB.large {g : Nat} {s : St} (inv : Inv g s.hs s.U s.L) {b : Nat} (hh : (hd s.hs b).1 = 2) (h : Good g s (b * 512)) : GoodB g s b := by
  intro x hx hu
  rcases inv.used x hu with ⟨j, hj, b', i, _, _, h3, h4, rfl⟩ | ⟨b', n, _, hw, rfl⟩
  · rw [cellN_blk hj h4] at hx
    subst hx
    rw [h3] at hh; simp at hh
  · rw [Nat.mul_div_cancel _ (by omega)] at hx
    subst hx
    exact h hu
theorem GoodB.none {g : Nat} {s : St} (inv : Inv g s.hs s.U s.L) {b : Nat} (hh : (hd s.hs b).1 = 0 ∨ (hd s.hs b).1 = 3) : GoodB g s b := by
  intro x hx hu
  rw [inv.free_unused hh hx] at hu; cases hu
section
variable {B : World} {P R : SL} {t : K}
theorem check_one_c {a d g b m br : Nat} {s : St} {fm : FM} {sl : Sl} (inv : Inv g s.hs s.U s.L) (hlg : ∀ b n, 1 ≤ b → WholeP s.hs b n → s.U (b * 512) = true) (hb : 1 ≤ b) (hb2 : b < g) (hfm : FreeM g s fm) {r : Rp} {kk : Int × Int → K}
    (h0 : GoodB g s b → T B (R * Al a d g s * MpF ei eb m fm * Rpt br (oneR g s b r) * vec 143 3 sl (hds s.hs)) (kk (0, 0)))
    (h1 : ∀ x r', BadX g s → T B (R * Al a d g s * MpF ei eb m fm * Rpt br r' * vec 143 3 sl (hds s.hs)) (kk (x, 22))) :
    T B (R * Al a d g s * MpF ei eb m fm * Rpt br r * vec 143 3 sl (hds s.hs)) (c_check_Report_one (da br) (da a) (some m) sl b kk) := by
  refine T_of (check_Report_one_ok _ _ _ sl b kk) ?_
  have hg := inv.big
  have hl := inv.len
  have hlt : b < s.hs.length := by omega
  have hhd : hd s.hs b = s.hs[b] := getD_eq hlt _
  refine T_ixH (l := s.hs) (Rd.vec (E := 143) (s := sl) .last) (by omega) (by rw [Int.toNat_natCast]; exact hlt) fun y hy => ?_
  simp only [Int.toNat_natCast] at hy
  rw [← hhd] at hy
  have hrt := hRight_mem inv.right b
  have hone : ∀ r, oneR g s b r = oneR g s b r := fun _ => rfl
  unfold oneR at h0
  obtain ⟨⟨q1, q2, q3⟩, hq⟩ : ∃ q, q = hd s.hs b := ⟨_, rfl⟩
  rw [← hq] at hy hrt h0
  simp only at h0
  unfold hRight at hrt
  simp only [Prod.mk.injEq] at hrt
  refine T_ldAt hy rfl ?_
  refine T_ldAt hy rfl ?_
  refine T_ldAt hy rfl ?_
  (repeat (first | ((with_reducible apply T_ldI); (focus rfl); (focus exact hasA); (focus rfl)) | (with_reducible refine T_al ?_; intro _) | ((with_reducible apply T_st); (focus rfl); (focus exact updA); (focus simp); simp only [List.set, Nat.zero_add, Nat.reduceAdd])))
  rename_i b1
  by_cases h00 : q1 = 0
  · subst h00
    simp only [if_true] at h0
    unfold da Rpt rpL at *
    refine T_brE (fun _ => ?_) (fun h => absurd rfl h)
    (repeat (first | with_reducible refine T_nn ?_ | ((with_reducible apply T_ldI); (focus rfl); (focus exact hasA); (focus rfl)) | ((with_reducible apply T_st); (focus rfl); (focus exact updA); (focus simp); simp only [List.set, Nat.zero_add, Nat.reduceAdd])))
    rw [wi_l]
    refine T_drop1 .last ?_
    exact h0 (.none inv (.inl (by rw [← hq])))
  refine T_brE (fun h => absurd h h00) (fun _ => ?_)
  rw [if_neg h00] at h0
  by_cases h01 : q1 = 1
  · subst h01
    simp only [if_true] at h0
    refine T_brE (fun _ => ?_) (fun h => absurd rfl h)
    obtain ⟨k, rfl⟩ := Int.eq_ofNat_of_zero_le (show 0 ≤ q2 by omega)
    have hk : k < 32 := by omega
    have h30 : q3 = 0 := by omega
    subst h30
    rw [Int.toNat_natCast] at h0
    (repeat (((with_reducible apply T_ldI); (focus rfl); (focus exact hasA); (focus rfl))))
    refine T.perm (Q := R * pt b1 (.cells [.int .i64 1, .int .i64 k, .int .i64 0].toArray 143) * vec 143 3 sl (hds s.hs) * Al a d g s * MpF ei eb m fm * Rpt br r) (by ac_rfl) ?_
    refine check_block_c inv hk hb hb2 hq.symm hfm (fun hgood => ?_) (fun x r' hbad => ?_)
    · skip
      refine T_drop1 (by exact frmA : Frm _ (pt b1 (.cells [.int .i64 1, .int .i64 k, .int .i64 0].toArray 143)) _) ?_
      exact T.perm (by ac_rfl) (h0 (.small inv hk hq.symm hgood))
    · skip
      refine T_drop1 (by exact frmA : Frm _ (pt b1 (.cells [.int .i64 1, .int .i64 k, .int .i64 0].toArray 143)) _) ?_
      obtain ⟨i, _, hbad⟩ := hbad
      exact T.perm (by ac_rfl) (h1 x r' ⟨_, hbad⟩)
  refine T_brE (fun h => absurd h h01) (fun _ => ?_)
  rw [if_neg h01] at h0
  by_cases h02 : q1 = 2
  · subst h02
    simp only [if_true] at h0
    refine T_brE (fun _ => ?_) (fun h => absurd rfl h)
    obtain ⟨n, hw⟩ := inv.whole b (by rw [← hq])
    have hw1 := hw.1
    have hw2 := hw.2.1
    have hu := hlg b n hb hw
    have hq3 : q3 = n := by
      have := hw.2.2.2.1
      rw [show s.hs.getD b (0, 0, 0) = hd s.hs b from rfl, ← hq] at this
      exact this
    subst hq3
    refine T_bring (X := Al a d g s) (by exact frmA) ?_
    refine Al_open fun mm u f => ?_
    unfold da
    (repeat (first | with_reducible refine T_nn ?_ | ((with_reducible apply T_ldP); (focus rfl); (focus exact hasA); (focus rfl))))
    refine T_bring (X := Mg mm d g s.hs s.F) (by exact frmA) ?_
    refine bman_Geometry_c ?_
    refine geom_First_c (by omega) ?_
    have hf : first g (b : Int) = ((b * 512 : Nat) : Int) := by unfold first; rw [if_neg (by omega)]; omega
    rw [hf]
    refine T.perm (Q := R * MpF ei eb m fm * Rpt br r * vec 143 3 sl (hds s.hs) * pt b1 (.cells [.int .i64 2, .int .i64 q2, .int .i64 n].toArray 143) * LDx d (64 * g) s.c * Mg mm d g s.hs s.F * Bm u (512 * g) s.U * Fl f s.L * pt a (.cells [.pointer (da mm), .pointer (da d), .int .i64 g, .pointer (da u), .pointer (da f)].toArray 47)) (by unfold da; ac_rfl) ?_
    refine Al_close (t := c_alloc_Allocator_Place (da a) ((b * 512 : Nat) : Int) _) ?_
    refine Place_c inv (fun o ho => ?_) (fun hno o => ?_)
    · have e1 : (oHead s.c (64 * g) ((b * 512 : Nat) : Int)).1 = o := by rw [ho.1]
      rw [e1] at h0
      (repeat (first | (with_reducible refine T_al ?_; intro _) | ((with_reducible apply T_st); (focus rfl); (focus exact updA); (focus simp); simp only [List.set, Nat.zero_add, Nat.reduceAdd])))
      rename_i b2
      (dsimp only [check_Report_one, Zex0, Zex1, Zex2, Zex3, Zex4, Zex5, Zex6, Zex7, Zex8, Zex9, Zex10, Zex11, Zex12, Zex13, Zex14, Zex15, Zex16])
      simp only [Bool.not_true]
      (repeat (with_reducible refine T_brF ?_))
      refine T_bring (X := Al a d g s) (by exact frmA) ?_
      refine Used_c ?_
      rw [has_nat, hu]
      simp only [Bool.not_true]
      (repeat (first | with_reducible refine T_brF ?_ | ((with_reducible apply T_ldI); (focus rfl); (focus exact hasA); (focus rfl))))
      rw [w64 (n := (n : Int) * 512) (by omega) (by omega)]
      refine T_bring (X := Rpt br r) (by exact frmA) ?_
      refine check_add_c ?_
      unfold Rpt rpL Rp.add at *
      try unfold da
      (repeat (first | with_reducible refine T_nn ?_ | ((with_reducible apply T_ldI); (focus rfl); (focus exact hasA); (focus rfl)) | ((with_reducible apply T_st); (focus rfl); (focus exact updA); (focus simp); simp only [List.set, Nat.zero_add, Nat.reduceAdd])))
      rw [wi_l]
      refine T_drop1 (by exact frmA : Frm _ (pt b1 (.cells [.int .i64 2, .int .i64 q2, .int .i64 n].toArray 143)) _) ?_
      refine T_drop1 (by exact frmA : Frm _ (pt b2 (.cells [.int .i64 o.1, .int .i64 o.2].toArray 68)) _) ?_
      exact T.perm (by ac_rfl) (h0 (.large inv (by rw [← hq]) fun _ => ⟨o, ho⟩))
    · (repeat (first | (with_reducible refine T_al ?_; intro _) | ((with_reducible apply T_st); (focus rfl); (focus exact updA); (focus simp); simp only [List.set, Nat.zero_add, Nat.reduceAdd])))
      rename_i b2
      (dsimp only [check_Report_one, Zex0, Zex1, Zex2, Zex3, Zex4, Zex5, Zex6, Zex7, Zex8, Zex9, Zex10, Zex11, Zex12, Zex13, Zex14, Zex15, Zex16])
      simp only [Bool.not_false]
      (repeat (with_reducible refine T_brT ?_))
      refine T_drop1 (by exact frmA : Frm _ (pt b1 (.cells [.int .i64 2, .int .i64 q2, .int .i64 n].toArray 143)) _) ?_
      refine T_drop1 (by exact frmA : Frm _ (pt b2 (.cells [.int .i64 o.1, .int .i64 o.2].toArray 68)) _) ?_
      exact T.perm (by ac_rfl) (h1 _ r ⟨b * 512, hu, hno⟩)
  refine T_brE (fun h => absurd h h02) (fun _ => ?_)
  rw [if_neg h02] at h0
  refine T_drop1 .last ?_
  exact h0 (.none inv (.inr (by rw [← hq]; simp only; omega)))
end
end
section
set_option maxHeartbeats 2000000
def rp0 : Rp := ⟨0, 0, 0, 0, 0, 0, 0⟩
abbrev Q7 := Int × (Int × (Int × (Int × (Int × (Int × Int)))))
def rpT (r : Rp) : Q7 := (IntKind.wrap .i64 r.f, (IntKind.wrap .i64 r.s, (IntKind.wrap .i64 r.l, (IntKind.wrap .i64 r.o, (IntKind.wrap .i64 r.u, (IntKind.wrap .i64 r.c, IntKind.wrap .i64 r.w))))))
/-- what is told of all blocks below one -/
def wholeR (g : Nat) (s : St) : Nat → Rp
  | 0 => rp0
  | 1 => rp0
  | b + 2 => oneR g s (b + 1) (wholeR g s (b + 1))
theorem wholeR_succ (g : Nat) (s : St) {b : Nat} (h : 1 ≤ b) : wholeR g s (b + 1) = oneR g s b (wholeR g s b) := by
  obtain ⟨c, rfl⟩ : ∃ c, b = c + 1 := ⟨b - 1, by omega⟩
  rfl
theorem sumI_snoc (l : List (Int × Int)) (x : Int × Int) : sumI (l ++ [x]) = sumI l + x.2 := by
  induction l with
  | nil => simp [sumI]
  | cons y l ih => simp only [List.cons_append, sumI, ih]; omega
section
variable {B : World} {P R : SL} {t : K}
theorem LDev_len {d n : Nat} {c la : List Int} (h : c.length = 8 * n → la.length = 8 * n → T B (R * LDev d n c la) t) : T B (R * LDev d n c la) t := by
  refine LDev_open fun v hv h1 h2 => ?_
  exact LDev_close hv h1 h2 (h (h1 ▸ hv.ok.l2) (h2 ▸ hv.ok.l1))
theorem HLs_of {g : Nat} {c la : List Int} (hc : c.length = 8 * (64 * g)) (hla : la.length = 8 * (64 * g)) (hg : 1 ≤ g) (h : ∀ b : Nat, 1 ≤ b → b < g → getI la (256 + b) = getI c (256 + b)) : HLs (64 * g) c la := by
  intro i h1 h2
  have := h (i - 256) (by omega) (by omega)
  rw [show (256 + ((i - 256 : Nat) : Int)) = ((i : Nat) : Int) by omega, getI_nat, getI_nat, getD_eq (by omega), getD_eq (by omega)] at this
  rw [List.getElem?_eq_getElem (by omega), List.getElem?_eq_getElem (by omega), this]
theorem check_runs_c {a d g b1 b2 : Nat} {s : St} {sl : Sl} (inv : Inv g s.hs s.U s.L) (tie : Tie g s.hs s.F) {r : Rp} (hF : r.f = nFree s.hs g) {kk : Q7 × (Int × Int) → K} (hk : T B (R * Al a d g s) (kk (rpT r, (0, 0)))) :
    T B (R * vec 143 3 sl (hds s.hs) * Rpt b1 r * Rpt b2 rp0 * Al a d g s) (Zeu20 (da a) kk ⟨b2, 0, none⟩ sl ⟨b1, 0, none⟩ 0) := by
  have hg := inv.big
  have hl := inv.len
  refine Al_open fun mm u f => ?_
  unfold da
  (repeat (first | with_reducible refine T_nn ?_ | ((with_reducible apply T_ldP); (focus rfl); (focus exact hasA); (focus rfl))))
  refine T_bring (X := Mg mm d g s.hs s.F) (by exact frmA) ?_
  refine bman_Runs_c fun x77 l hcov _ => ?_
  have cl : ∀ t, T B (R * vec 143 3 sl (hds s.hs) * Rpt b1 r * Rpt b2 rp0 * vec 152 2 x77 (prs l) * Al a d g s) t → T B (R * vec 143 3 sl (hds s.hs) * Rpt b1 r * Rpt b2 rp0 * LDx d (64 * g) s.c * Bm u (512 * g) s.U * Fl f s.L * pt a (.cells [.pointer (some ⟨mm, 0, none⟩), .pointer (some ⟨d, 0, none⟩), .int .i64 g, .pointer (some ⟨u, 0, none⟩), .pointer (some ⟨f, 0, none⟩)].toArray 47) * Mg mm d g s.hs s.F * vec 152 2 x77 (prs l)) t := fun t h => T.perm (by unfold da; ac_rfl) (Al_close (m := mm) (u := u) (f := f) h)
  refine cl _ ?_
  clear cl
  refine T_vlen (E := 152) (sz := 2) (s := x77) (vs := prs l) (.init .last) fun hn => ?_
  rw [prs_len] at hn
  refine T_vlen (E := 143) (sz := 3) (s := sl) (vs := hds s.hs) (.init (.init (.init (.init .last)))) fun hsn => ?_
  rw [hds_len] at hsn
  have hspan : ∀ j (hj : j < l.length), ∃ p q : Nat, l[j] = ((p : Int), (q : Int)) ∧ 1 ≤ p ∧ p + q ≤ g ∧ ∀ i, i < q → (hd s.hs (p + i)).1 = 0 := by
    intro j hj
    have hm : (l[j].1, l[j].2) ∈ l := List.getElem_mem hj
    have hFj := (hcov.2 _ _).2 hm
    have hr := tie.ok.rng _ _ hFj
    refine ⟨l[j].1.toNat, l[j].2.toNat, Prod.ext (by simp only; omega) (by simp only; omega), by omega, by omega, fun i hi => ?_⟩
    have := (tie.fr ((l[j].1.toNat + i : Nat) : Int)).1 ⟨_, _, hFj, by omega, by omega⟩
    rw [Int.toNat_natCast] at this
    exact this.2.2
  have hsum : sumI l = nFree s.hs g := sumI_free tie hcov
  have hlen : l.length ≤ 2 ^ 30 := by
    have h1 : l.length ≤ g := by
      have h2 : (l.map fun p => p.1.toNat).Nodup := by
        have h3 := hcov.1
        rw [List.Nodup, List.pairwise_map] at h3 ⊢
        refine (List.Pairwise.and_mem.1 h3).imp fun {x y} ⟨hx, hy, hne⟩ e => hne ?_
        have hx1 := (tie.ok.rng _ _ ((hcov.2 x.1 x.2).2 hx)).1
        have hy1 := (tie.ok.rng _ _ ((hcov.2 y.1 y.2).2 hy)).1
        omega
      have := nodup_lt_len g _ h2 (fun x hx => by
        obtain ⟨p, hp, rfl⟩ := List.mem_map.1 hx
        have := tie.ok.rng _ _ ((hcov.2 p.1 p.2).2 hp)
        omega)
      simpa using this
    omega
  refine T_lpX (fun _ _ => R * vec 143 3 sl (hds s.hs) * Rpt b1 r * Rpt b2 rp0 * vec 152 2 x77 (prs l) * Al a d g s) (fun m (z : Int × Int × Unit) => ∃ j : Nat, z.1 = IntKind.wrap .i64 (sumI (l.take j)) ∧ z.2.1 = j ∧ j ≤ l.length ∧ m = l.length - j) l.length rfl ⟨0, rfl, rfl, by omega, by omega⟩ ?_
  rintro m ⟨z1, z2, uu⟩ c ⟨j, e1, e2, e3, e4⟩ hc
  simp only at e1 e2
  subst e1 e2 e4
  dsimp only
  (repeat' (with_reducible refine T_brD (fun _ => ?_) (fun _ => ?_)))
  · rename_i hlt
    have hj : j < l.length := by omega
    obtain ⟨p, q, hpq, h1, h2, hfr⟩ := hspan j hj
    have hnx := hc (l.length - (j + 1)) (IntKind.wrap .i64 (sumI (l.take j) + q), IntKind.wrap .i64 ((j : Int) + 1), ()) (by omega) ⟨j + 1, by
      rw [List.take_succ_eq_append_getElem hj, sumI_snoc, hpq], w64 (by omega) (by omega), by omega, rfl⟩
    clear hc
    refine T_ixP (l := l) (Rd.vec (E := 152) (s := x77) (.init .last)) (by omega) (by rw [Int.toNat_natCast]; exact hj) fun y hy => ?_
    simp only [Int.toNat_natCast, hpq] at hy
    refine T_ldAt hy rfl ?_
    refine T_ldAt hy rfl ?_
    (repeat (first | ((with_reducible apply T_ldI); (focus rfl); (focus exact hasA); (focus rfl)) | (with_reducible refine T_al ?_; intro _) | ((with_reducible apply T_st); (focus rfl); (focus exact updA); (focus simp); simp only [List.set, Nat.zero_add, Nat.reduceAdd])))
    rename_i b3
    (dsimp only [check_Whole, Zeu0, Zeu1, Zeu2, Zeu3, Zeu4, Zeu5, Zeu6, Zeu7, Zeu8, Zeu9, Zeu10, Zeu11, Zeu12, Zeu13, Zeu14, Zeu15, Zeu16, Zeu17, Zeu18, Zeu19, Zeu20, Zeu21, Zeu22, Zeu23, Zeu24, Zeu25, Zeu26, Zeu27, Zeu28, Zeu29, Zeu30, Zeu31, Zeu32, Zeu33, Zeu34, Zeu35, Zeu36, Zeu37, Zeu38, Zeu39, Zeu40, Zeu41, Zeu42, Zeu43, Zeu44, Zeu45])
    rw [wi_l]
    refine T_lpX (fun _ _ => R * vec 143 3 sl (hds s.hs) * Rpt b1 r * Rpt b2 rp0 * vec 152 2 x77 (prs l) * Al a d g s * pt b3 (.cells [.int .i64 p, .int .i64 q].toArray 152)) (fun m (z : Int × Unit) => ∃ i : Nat, z.1 = i ∧ i ≤ q ∧ m = q - i) q rfl ⟨0, rfl, by omega, rfl⟩ ?_
    rintro m ⟨z, uu⟩ c2 ⟨i, f1, f2, f3⟩ hc2
    simp only at f1
    subst f1 f3
    (repeat' (first | ((with_reducible apply T_ldI); (focus rfl); (focus exact hasA); (focus rfl)) | with_reducible refine T_brD (fun _ => ?_) (fun _ => ?_)))
    · have hi : i < q := by omega
      have hlt2 : p + i < s.hs.length := by omega
      have ew : IntKind.wrap .i64 ((p : Int) + i) = ((p + i : Nat) : Int) := by rw [w64 (by omega) (by omega)]; omega
      rw [ew]
      have hhd : hd s.hs (p + i) = s.hs[p + i] := getD_eq hlt2 _
      refine T_ixH (l := s.hs) (Rd.vec (E := 143) (s := sl) (by exact frmA)) (by omega) (by rw [Int.toNat_natCast]; exact hlt2) fun y2 hy2 => ?_
      simp only [Int.toNat_natCast] at hy2
      refine T_ldAt hy2 rfl ?_
      rw [← hhd, hfr i hi]
      refine T_brNE (fun h => absurd rfl h) (fun _ => ?_)
      exact hc2 (q - (i + 1)) _ (by omega) ⟨i + 1, w64 (by omega) (by omega), by omega, rfl⟩
    · refine T_drop1 .last ?_
      exact hnx
  · have : j = l.length := by omega
    subst this
    clear hc
    rw [List.take_length, hsum]
    unfold Rpt rpL rp0
    (repeat (((with_reducible apply T_ldI); (focus rfl); (focus exact hasA); (focus rfl))))
    (dsimp only [check_Whole, Zeu0, Zeu1, Zeu2, Zeu3, Zeu4, Zeu5, Zeu6, Zeu7, Zeu8, Zeu9, Zeu10, Zeu11, Zeu12, Zeu13, Zeu14, Zeu15, Zeu16, Zeu17, Zeu18, Zeu19, Zeu20, Zeu21, Zeu22, Zeu23, Zeu24, Zeu25, Zeu26, Zeu27, Zeu28, Zeu29, Zeu30, Zeu31, Zeu32, Zeu33, Zeu34, Zeu35, Zeu36, Zeu37, Zeu38, Zeu39, Zeu40, Zeu41, Zeu42, Zeu43, Zeu44, Zeu45])
    rw [hF]
    refine T_brNE (fun h => absurd rfl h) (fun _ => ?_)
    (repeat (first | ((with_reducible apply T_ldI); (focus rfl); (focus exact hasA); (focus rfl)) | ((with_reducible apply T_st); (focus rfl); (focus exact updA); (focus simp); simp only [List.set, Nat.zero_add, Nat.reduceAdd])))
    unfold rpT at hk
    rw [hF] at hk
    refine T_drop1 (by exact frmA : Frm _ (vec 143 3 sl (hds s.hs)) _) ?_
    refine T_drop1 (by exact frmA : Frm _ (vec 152 2 x77 (prs l)) _) ?_
    refine T_bring (X := Al a d g s) (by exact frmA) ?_
    refine T_drop1 (.init .last) ?_
    refine T_drop1 (.init .last) ?_
    exact hk
end
end
section
set_option maxHeartbeats 2000000
def z7 : Q7 := (0, (0, (0, (0, (0, (0, 0))))))
def openAl (a d g : Nat) (s : St) (la : List Int) (mm u f : Nat) : SL := LDev d (64 * g) s.c la * Mg mm d g s.hs s.F * Bm u (512 * g) s.U * Fl f s.L * pt a (.cells [.pointer (da mm), .pointer (da d), .int .i64 g, .pointer (da u), .pointer (da f)].toArray 47)
section
variable {B : World} {P R : SL} {t : K}
theorem check_Whole_c {a d g mm u f : Nat} {s : St} {la : List Int} (inv : Inv g s.hs s.U s.L) (tie : Tie g s.hs s.F) (hlg : ∀ b n, 1 ≤ b → WholeP s.hs b n → s.U (b * 512) = true)
    (hh : ∀ b : Nat, 1 ≤ b → b < g → FineH s.c la b → (bdec b (getI s.c (256 + b))).1 = hd s.hs b) (hF : (wholeR g s g).f = nFree s.hs g) (hO : (wholeR g s g).o = (uBel s.U (512 * g)).length) {kk : Q7 × (Int × Int) → K}
    (h0 : (∀ b : Nat, 1 ≤ b → b < g → FineH s.c la b) → (∀ b, 1 ≤ b → b < g → GoodB g s b) → T B (R * Al a d g s) (kk (rpT (wholeR g s g), (0, 0))))
    (h1 : ∀ (x e : Int), e ≠ 0 → ((∃ b : Nat, 1 ≤ b ∧ b < g ∧ ¬ FineH s.c la b) ∨ BadX g s) → T B R (kk (z7, (x, e)))) :
    T B (R * openAl a d g s la mm u f) (c_check_Whole (da a) kk) := by
  refine T_of (check_Whole_ok _ kk) ?_
  have hg := inv.big
  have hg2 := inv.two
  have hl := inv.len
  have hfit := inv.fit
  have hd1 : (hd s.hs 1).1 ≠ 3 := by
    intro e
    obtain ⟨b0, n, hw, p1, p2⟩ := inv.cont 1 e
    have : b0 = 0 := by omega
    subst this
    have := hw.2.2.1
    have h0 := inv.zero
    unfold hd at h0
    rw [h0] at this; simp at this
  unfold openAl
  simp only [← sep_assoc]
  refine T_al fun b2 => ?_
  refine T.perm (Q := R * LDev d (64 * g) s.c la * Bm u (512 * g) s.U * Fl f s.L * pt a (.cells [.pointer (da mm), .pointer (da d), .int .i64 g, .pointer (da u), .pointer (da f)].toArray 47) * Rpt b2 rp0 * Mg mm d g s.hs s.F) (by unfold Rpt rpL rp0; ac_rfl) ?_
  unfold da
  (repeat (first | with_reducible refine T_nn ?_ | ((with_reducible apply T_ldP); (focus rfl); (focus exact hasA); (focus rfl))))
  refine bman_Geometry_c ?_
  (repeat (first | with_reducible refine T_tick ?_ | ((with_reducible apply T_ldI); (focus rfl); (focus exact hasA); (focus rfl)) | (with_reducible refine T_al ?_; intro _) | ((with_reducible apply T_st); (focus rfl); (focus exact updA); (focus simp); simp only [List.set, Nat.zero_add, Nat.reduceAdd])))
  rename_i b3
  refine T_of (alloc_Allocator_Device_ok _ _) ?_
  (repeat (first | with_reducible refine T_nn ?_ | with_reducible refine T_chk0 ?_ | ((with_reducible apply T_ldP); (focus rfl); (focus exact hasA); (focus rfl)) | ((with_reducible apply T_chk); (focus rfl); (focus exact hasA); (focus rfl))))
  refine T_bring (X := LDev d (64 * g) s.c la) (by exact frmA) ?_
  refine LDev_len fun hc hla => ?_
  -- failing at once
  have fail : ∀ (P0 : SL) (x e : Int), (∀ t, T B (R * Rpt b2 rp0) t → T B P0 t) → e ≠ 0 → ((∃ b : Nat, 1 ≤ b ∧ b < g ∧ ¬ FineH s.c la b) ∨ BadX g s) → T B P0 (Zeu41 kk ⟨b2, 0, none⟩ x e) := by
    intro P0 x e hP he hbad
    refine hP _ ?_
    have := h1 x e he hbad
    unfold Rpt rpL
    (repeat (first | ((with_reducible apply T_ldI); (focus rfl); (focus exact hasA); (focus rfl)) | ((with_reducible apply T_st); (focus rfl); (focus exact updA); (focus simp); simp only [List.set, Nat.zero_add, Nat.reduceAdd])))
    exact this.weak
  refine check_Headers_c rfl hg2 hg hl inv.zero hfit hd1 hh (fun hfine sl => ?_) (fun b p1 p2 hbad => ?_)
  · refine T_brNE (fun h => absurd rfl h) (fun _ => ?_)
    refine T_bring (X := LDev d (64 * g) s.c la) (by exact frmA) ?_
    refine LDx_close (HLs_of hc hla (by omega) fun b p1 p2 => (hfine b p1 p2).2) ?_
    refine T.perm (Q := R * Rpt b2 rp0 * pt b3 (.cells [.int .i64 g].toArray 43) * vec 143 3 sl (hds s.hs) * LDx d (64 * g) s.c * Mg mm d g s.hs s.F * Bm u (512 * g) s.U * Fl f s.L * pt a (.cells [.pointer (da mm), .pointer (da d), .int .i64 g, .pointer (da u), .pointer (da f)].toArray 47)) (by unfold da; ac_rfl) ?_
    refine Al_close (t := Zeu39 (da a) kk ⟨b2, 0, none⟩ sl) ?_
    clear fail
    refine T_drop1 (by exact frmA : Frm _ (pt b3 (.cells [.int .i64 g].toArray 43)) _) ?_
    refine check_free_c inv fun m fm hfm => ?_
    refine T_brNE (fun h => absurd rfl h) (fun _ => ?_)
    refine T_al fun b1 => ?_
    refine T.perm (Q := R * Rpt b2 rp0 * Al a d g s * MpF ei eb m fm * Rpt b1 (wholeR g s 1) * vec 143 3 sl (hds s.hs)) (by unfold Rpt; show _ = R * _ * _ * _ * pt b1 (.cells (rpL rp0).toArray _) * _; unfold rpL rp0; ac_rfl) ?_
    refine T_vlen (E := 143) (sz := 3) (s := sl) (vs := hds s.hs) .last fun hsn => ?_
    rw [hds_len] at hsn
    refine T_lpX (fun _ z => R * Rpt b2 rp0 * Al a d g s * MpF ei eb m fm * Rpt b1 (wholeR g s z.1.toNat) * vec 143 3 sl (hds s.hs)) (fun n (z : Int × Unit) => ∃ i : Nat, z.1 = i ∧ 1 ≤ i ∧ i ≤ g ∧ n = g - i ∧ ∀ b, 1 ≤ b → b < i → GoodB g s b) (g - 1) rfl ⟨1, rfl, by omega, by omega, rfl, fun b _ _ => by omega⟩ ?_
    rintro n ⟨z, uu⟩ c ⟨i, e1, e2, e3, e4, e5⟩ hcn
    simp only at e1
    subst e1 e4
    simp only [Int.toNat_natCast]
    (repeat' (first | with_reducible refine T_tick ?_ | with_reducible refine T_brD (fun _ => ?_) (fun _ => ?_)))
    · rename_i hlt
      have hi : i < g := by omega
      have hnx := hcn (g - (i + 1)) (IntKind.wrap .i64 ((i : Int) + 1), ()) (by omega)
      have e : (IntKind.wrap .i64 ((i : Int) + 1)).toNat = i + 1 := by rw [w64 (by omega) (by omega)]; omega
      simp only [e] at hnx
      rw [wholeR_succ g s e2] at hnx
      clear hcn
      refine check_one_c inv hlg e2 hi hfm (fun hgood => ?_) (fun x r' hbad => ?_)
      · refine T_brNE (fun h => absurd rfl h) (fun _ => ?_)
        exact hnx ⟨i + 1, w64 (by omega) (by omega), by omega, by omega, rfl, fun b p1 p2 => by
          by_cases e : b = i
          · subst e; exact hgood
          · exact e5 b p1 (by omega)⟩
      · refine T_brNE (fun _ => ?_) (fun h => absurd h (by simp))
        have := h1 x 22 (by decide) (.inr hbad)
        refine T_drop1 .last ?_
        refine T_drop1 .last ?_
        refine T_drop1 .last ?_
        refine T_drop1 .last ?_
        unfold Rpt rpL
        (repeat (first | ((with_reducible apply T_ldI); (focus rfl); (focus exact hasA); (focus rfl)) | ((with_reducible apply T_st); (focus rfl); (focus exact updA); (focus simp); simp only [List.set, Nat.zero_add, Nat.reduceAdd])))
        exact this.weak
    · have : i = g := by omega
      subst this
      unfold Rpt rpL
      (repeat (((with_reducible apply T_ldI); (focus rfl); (focus exact hasA); (focus rfl))))
      refine T_bring (X := Al a d i s) (by exact frmA) ?_
      refine Objects_c fun sl2 => ?_
      refine T_vlen (E := 3) (sz := 1) (s := sl2) (vs := ints (uBel s.U (512 * i))) .last fun hn2 => ?_
      rw [ints_len, Nat.mul_one] at hn2
      (repeat (first | with_reducible refine T_chk0 ?_ | ((with_reducible apply T_chk); (focus rfl); (focus exact hasA); (focus rfl))))
      (dsimp only [check_Whole, Zeu0, Zeu1, Zeu2, Zeu3, Zeu4, Zeu5, Zeu6, Zeu7, Zeu8, Zeu9, Zeu10, Zeu11, Zeu12, Zeu13, Zeu14, Zeu15, Zeu16, Zeu17, Zeu18, Zeu19, Zeu20, Zeu21, Zeu22, Zeu23, Zeu24, Zeu25, Zeu26, Zeu27, Zeu28, Zeu29, Zeu30, Zeu31, Zeu32, Zeu33, Zeu34, Zeu35, Zeu36, Zeu37, Zeu38, Zeu39, Zeu40, Zeu41, Zeu42, Zeu43, Zeu44, Zeu45])
      have hub := @uBel_len s.U (512 * i)
      rw [hO, hn2, w64 (n := (((uBel s.U (512 * i)).length : Nat) : Int)) (by omega) (by omega)]
      refine T_brNE (fun h => absurd rfl h) (fun _ => ?_)
      refine T.perm (Q := R * vec 143 3 sl (hds s.hs) * Rpt b1 (wholeR i s i) * Rpt b2 rp0 * Al a d i s * (MpF ei eb m fm * vec 3 1 sl2 (ints (uBel s.U (512 * i))))) (by unfold Rpt rpL; rw [hO, w64 (n := (((uBel s.U (512 * i)).length : Nat) : Int)) (by omega) (by omega)]; ac_rfl) ?_
      refine T.weak ?_
      exact check_runs_c inv tie hF (h0 hfine e5)
  · refine T_brNE (fun _ => ?_) (fun h => absurd h (by simp))
    refine fail _ _ _ (fun t h => ?_) (by simp) (.inl ⟨b, p1, p2, hbad⟩)
    refine T.perm (Q := R * Rpt b2 rp0 * (Bm u (512 * g) s.U * Fl f s.L * pt a (.cells [.pointer (da mm), .pointer (da d), .int .i64 g, .pointer (da u), .pointer (da f)].toArray 47) * Mg mm d g s.hs s.F * pt b3 (.cells [.int .i64 g].toArray 43) * LDev d (64 * g) s.c la)) (by unfold da; ac_rfl) h.weak
end
end
section
variable {B : World} {P R : SL} {t : K}
end
/-- the cells of a block that are not in use, up to one -/
def frC (u : List Int) (b k : Int) : Nat → List Int
  | 0 => []
  | i + 1 => frC u b k i ++ (if 512 * b + i * clsW k ∈ u then [] else [512 * b + i * clsW k])
/-- the cells of a class that are not in use, of the blocks up to one -/
def frS (hs : List Hd) (u : List Int) (k : Int) : Nat → List Int
  | 0 => []
  | 1 => []
  | b + 2 => frS hs u k (b + 1) ++ (if (hd hs (b + 1)).1 = 1 ∧ (hd hs (b + 1)).2.1 = k then frC u ((b + 1 : Nat) : Int) k (cls k).toNat else [])
theorem frS_succ (hs : List Hd) (u : List Int) (k : Int) {b : Nat} (h : 1 ≤ b) : frS hs u k (b + 1) = frS hs u k b ++ (if (hd hs b).1 = 1 ∧ (hd hs b).2.1 = k then frC u (b : Int) k (cls k).toNat else []) := by
  obtain ⟨c, rfl⟩ : ∃ c, b = c + 1 := ⟨b - 1, by omega⟩
  rfl
section
variable {B : World} {P R : SL} {t : K}
end
section
set_option maxHeartbeats 1000000
section
variable {B : World} {P R : SL} {t : K}
end
end
section
set_option maxHeartbeats 1000000
/-- the most, and the least that has it, among some -/
def Bst (w : Nat → Int) (lo hi : Nat) (n r : Int) : Prop := (∀ j, lo ≤ j → j < hi → w j ≤ n) ∧ ((n = 0 ∧ r = 0) ∨ ∃ x : Nat, r = x ∧ lo ≤ x ∧ x < hi ∧ w x = n ∧ 0 < n ∧ ∀ j, lo ≤ j → j < x → w j < n)
theorem Bst.nn {w : Nat → Int} {lo hi : Nat} {n r : Int} (h : Bst w lo hi n r) : 0 ≤ n := by
  rcases h.2 with h | ⟨x, _, _, _, _, h, _⟩ <;> omega
theorem Bst.uniq {w : Nat → Int} {lo hi : Nat} {n r n' r' : Int} (h : Bst w lo hi n r) (h' : Bst w lo hi n' r') : n = n' ∧ r = r' := by
  obtain ⟨a, b⟩ := h
  obtain ⟨a', b'⟩ := h'
  rcases b with ⟨b1, b2⟩ | ⟨x, b1, b2, b3, b4, b5, b6⟩ <;> rcases b' with ⟨c1, c2⟩ | ⟨y, c1, c2, c3, c4, c5, c6⟩
  · omega
  · have := a y c2 c3; omega
  · have := a' x b2 b3; omega
  · have h1 := a y c2 c3
    have h2 := a' x b2 b3
    have hn : n = n' := by omega
    refine ⟨hn, ?_⟩
    have h3 : ¬ x < y := fun h => by have := c6 x b2 h; omega
    have h4 : ¬ y < x := fun h => by have := b6 y c2 h; omega
    omega
theorem Bst.nil {w : Nat → Int} {lo : Nat} : Bst w lo lo 0 0 := ⟨fun j h1 h2 => by omega, Or.inl ⟨rfl, rfl⟩⟩
theorem Bst.up {w : Nat → Int} {k : Nat} {n r : Int} (h : Bst w 0 k n r) : (w k > n → Bst w 0 (k + 1) (w k) k) ∧ (¬ w k > n → Bst w 0 (k + 1) n r) := by
  have hn := h.nn
  obtain ⟨a, b⟩ := h
  refine ⟨fun hg => ⟨fun j h1 h2 => ?_, Or.inr ⟨k, rfl, by omega, by omega, rfl, by omega, fun j h1 h2 => ?_⟩⟩, fun hg => ⟨fun j h1 h2 => ?_, ?_⟩⟩
  · by_cases hj : j < k
    · have := a j h1 hj; omega
    · have : j = k := by omega
      subst this; omega
  · have := a j h1 h2; omega
  · by_cases hj : j < k
    · exact a j h1 hj
    · have : j = k := by omega
      subst this; omega
  · rcases b with b | ⟨x, b1, b2, b3, b4⟩
    · exact Or.inl b
    · exact Or.inr ⟨x, b1, b2, by omega, b4⟩
/-- the greatest class that has a cell -/
def GW (e : Nat → Bool) (r : Int) : Prop := ((∀ j, j < 32 → e j = false) ∧ r = 0) ∨ ∃ x : Nat, x < 32 ∧ e x = true ∧ (∀ j, x < j → j < 32 → e j = false) ∧ r = clsW x
theorem GW.uniq {e : Nat → Bool} {r r' : Int} (h : GW e r) (h' : GW e r') : r = r' := by
  rcases h with ⟨a, b⟩ | ⟨x, a, b, c, d⟩ <;> rcases h' with ⟨a', b'⟩ | ⟨y, a', b', c', d'⟩
  · omega
  · have := a y a'; rw [this] at b'; cases b'
  · have := a' x a; rw [this] at b; cases b
  · have h1 : ¬ x < y := fun h => by rw [c y h a'] at b'; cases b'
    have h2 : ¬ y < x := fun h => by rw [c' x h a] at b; cases b
    have : x = y := by omega
    subst this; omega
section
variable {B : World} {P R : SL} {t : K}
end
end
section
set_option maxHeartbeats 1000000
section
variable {B : World} {P R : SL} {t : K}
end
end
section
set_option maxHeartbeats 1000000
structure SpI (hs : List Hd) (n : Nat) (o : List (Int × Int)) : Prop where
  pw : o.Pairwise fun p q => p.1 + p.2 < q.1
  el : ∀ p ∈ o, 1 ≤ p.1 ∧ 1 ≤ p.2 ∧ p.1 + p.2 ≤ n ∧ (∀ x : Nat, p.1 ≤ x → (x : Int) < p.1 + p.2 → (hd hs x).1 = 0) ∧ ∀ x : Nat, (x : Int) = p.1 + p.2 → x < n → (hd hs x).1 ≠ 0
  cov : ∀ x : Nat, 1 ≤ x → x < n → (hd hs x).1 = 0 → ∃ p ∈ o, p.1 ≤ x ∧ (x : Int) < p.1 + p.2
theorem SpI.step {hs : List Hd} {n : Nat} {o : List (Int × Int)} (hn : 1 ≤ n) (h : SpI hs n o) : SpI hs (n + 1) (spStep o n (hd hs n)) := by
  obtain ⟨pw, el, cov⟩ := h
  unfold spStep
  by_cases hz : (hd hs n).1 = 0
  · rw [if_neg (by omega)]
    rcases List.eq_nil_or_concat o with rfl | ⟨o0, p, rfl⟩
    · rw [if_neg (by simp)]
      refine ⟨by simp, fun q hq => ?_, fun x h1 h2 h3 => ?_⟩
      · simp only [List.nil_append, List.mem_singleton] at hq
        subst hq
        refine ⟨by simp only; omega, by simp, by simp only; omega, fun x h1 h2 => ?_, fun x h1 h2 => ?_⟩
        · simp only at h1 h2
          have : x = n := by omega
          subst this; exact hz
        · simp only at h1; omega
      · by_cases hx : x < n
        · obtain ⟨p, hp, _⟩ := cov x h1 hx h3
          cases hp
        · exact ⟨((n : Int), 1), by simp, by simp only; omega, by simp only; omega⟩
    · rw [List.concat_eq_append] at *
      have hl : (o0 ++ [p]).length - 1 = o0.length := by simp
      have hg : (o0 ++ [p]).getD o0.length (0, 0) = p := by simp
      rw [hl, hg]
      obtain ⟨pw1, _, pw2⟩ := List.pairwise_append.1 pw
      have hpw : ∀ q ∈ o0, q.1 + q.2 < p.1 := fun q hq => pw2 q hq p (by simp)
      obtain ⟨p1, p2, p3, p4, p5⟩ := el p (by simp)
      by_cases hc : 0 < (o0 ++ [p]).length ∧ p.1 + p.2 = n
      · rw [if_pos hc]
        have hs' : (o0 ++ [p]).set o0.length (p.1, p.2 + 1) = o0 ++ [(p.1, p.2 + 1)] := by
          rw [List.set_append_right _ _ (Nat.le_refl _)]; simp
        rw [hs']
        have hc2 := hc.2
        refine ⟨List.pairwise_append.2 ⟨pw1, by simp, fun q hq r hr => ?_⟩, fun q hq => ?_, fun x h1 h2 h3 => ?_⟩
        · simp only [List.mem_singleton] at hr
          subst hr
          exact hpw q hq
        · rcases List.mem_append.1 hq with hq | hq
          · obtain ⟨e1, e2, e3, e4, e5⟩ := el q (by simp [hq])
            have := hpw q hq
            exact ⟨e1, e2, by omega, e4, fun x h1 h2 => e5 x h1 (by omega)⟩
          · simp only [List.mem_singleton] at hq
            subst hq
            refine ⟨p1, by simp only; omega, by simp only; omega, fun x h1 h2 => ?_, fun x h1 h2 => ?_⟩
            · simp only at h1 h2
              by_cases hx : x = n
              · subst hx; exact hz
              · exact p4 x h1 (by omega)
            · simp only at h1; omega
        · by_cases hx : x < n
          · obtain ⟨q, hq, q1, q2⟩ := cov x h1 hx h3
            rcases List.mem_append.1 hq with hq | hq
            · exact ⟨q, by simp [hq], q1, q2⟩
            · simp only [List.mem_singleton] at hq
              subst hq
              exact ⟨(q.1, q.2 + 1), by simp, q1, by simp only; omega⟩
          · exact ⟨(p.1, p.2 + 1), by simp, by simp only; omega, by simp only; omega⟩
      · rw [if_neg hc]
        have hlt : ∀ q ∈ o0 ++ [p], q.1 + q.2 < n := by
          intro q hq
          rcases List.mem_append.1 hq with hq | hq
          · have := hpw q hq; omega
          · simp only [List.mem_singleton] at hq
            subst hq
            have : ¬ q.1 + q.2 = n := fun h => hc ⟨by simp, h⟩
            omega
        refine ⟨List.pairwise_append.2 ⟨pw, by simp, fun q hq r hr => ?_⟩, fun q hq => ?_, fun x h1 h2 h3 => ?_⟩
        · simp only [List.mem_singleton] at hr
          subst hr
          exact hlt q hq
        · rcases List.mem_append.1 hq with hq | hq
          · obtain ⟨e1, e2, e3, e4, e5⟩ := el q hq
            have := hlt q hq
            exact ⟨e1, e2, by omega, e4, fun x h1 h2 => e5 x h1 (by omega)⟩
          · simp only [List.mem_singleton] at hq
            subst hq
            refine ⟨by simp only; omega, by simp, by simp only; omega, fun x h1 h2 => ?_, fun x h1 h2 => ?_⟩
            · simp only at h1 h2
              have : x = n := by omega
              subst this; exact hz
            · simp only at h1; omega
        · by_cases hx : x < n
          · obtain ⟨q, hq, q1, q2⟩ := cov x h1 hx h3
            exact ⟨q, List.mem_append_left _ hq, q1, q2⟩
          · exact ⟨((n : Int), 1), by simp, by simp only; omega, by simp only; omega⟩
  · rw [if_pos hz]
    refine ⟨pw, fun q hq => ?_, fun x h1 h2 h3 => ?_⟩
    · obtain ⟨e1, e2, e3, e4, e5⟩ := el q hq
      refine ⟨e1, e2, by omega, e4, fun x h1 h2 => ?_⟩
      by_cases hx : x = n
      · subst hx; exact hz
      · exact e5 x h1 (by omega)
    · by_cases hx : x = n
      · subst hx; exact absurd h3 hz
      · exact cov x h1 (by omega) h3
theorem uBel_mem {U : Nat → Bool} {n : Nat} {y : Int} : y ∈ uBel U n ↔ ∃ x : Nat, x < n ∧ U x = true ∧ y = x := by
  unfold uBel
  simp only [List.mem_map, List.mem_filter, List.mem_range]
  constructor
  · rintro ⟨x, ⟨h1, h2⟩, h3⟩; exact ⟨x, h1, h2, h3.symm⟩
  · rintro ⟨x, h1, h2, h3⟩; exact ⟨x, ⟨h1, h2⟩, h3.symm⟩
end
section
set_option maxHeartbeats 1000000
def sumL (f : Int → Int) : List Int → Int
  | [] => 0
  | x :: l => f x + sumL f l
theorem sumL_append (f : Int → Int) (l m : List Int) : sumL f (l ++ m) = sumL f l + sumL f m := by
  induction l with
  | nil => simp [sumL]
  | cons x l ih => simp only [List.cons_append, sumL, ih]; omega
theorem sumL_perm (f : Int → Int) {l m : List Int} (h : l.Perm m) : sumL f l = sumL f m := by
  induction h with
  | nil => rfl
  | cons x _ ih => simp only [sumL, ih]
  | swap x y l => simp only [sumL]; omega
  | trans _ _ h1 h2 => exact h1.trans h2
theorem sumL_congr {f f' : Int → Int} {l : List Int} (h : ∀ x ∈ l, f x = f' x) : sumL f l = sumL f' l := by
  induction l with
  | nil => rfl
  | cons x l ih => simp only [sumL]; rw [h x (by simp), ih fun y hy => h y (by simp [hy])]
def sumK (f : Nat → Int) : Nat → Int
  | 0 => 0
  | k + 1 => sumK f k + f k
theorem sumK_congr {f f' : Nat → Int} : ∀ n, (∀ k, k < n → f k = f' k) → sumK f n = sumK f' n
  | 0, _ => rfl
  | n + 1, h => by simp only [sumK]; rw [sumK_congr n fun k hk => h k (by omega), h n (by omega)]
theorem sumK_add (f f' : Nat → Int) : ∀ n, sumK (fun k => f k + f' k) n = sumK f n + sumK f' n
  | 0 => rfl
  | n + 1 => by simp only [sumK, sumK_add f f' n]; omega
theorem sumK_zero : ∀ n, sumK (fun _ => 0) n = 0
  | 0 => rfl
  | n + 1 => by simp only [sumK, sumK_zero n]; rfl
theorem sumK_ind (v : Int) (c : Nat) : ∀ n, sumK (fun k => if k = c then v else 0) n = if c < n then v else 0
  | 0 => rfl
  | n + 1 => by
    simp only [sumK, sumK_ind v c n]
    by_cases h : n = c
    · subst h; rw [if_neg (by omega), if_pos rfl, if_pos (by omega)]; omega
    · rw [if_neg h]
      by_cases h2 : c < n
      · rw [if_pos h2, if_pos (by omega)]; omega
      · rw [if_neg h2, if_neg (by omega)]; rfl
/-- the addresses in use of a block -/
def ubl (U : Nat → Bool) (b : Nat) : List Int := ((List.range 512).filter fun j => U (512 * b + j)).map fun (j : Nat) => ((512 * b + j : Nat) : Int)
theorem uBel_block (U : Nat → Bool) (b : Nat) : uBel U (512 * (b + 1)) = uBel U (512 * b) ++ ubl U b := by
  unfold uBel ubl
  rw [Nat.mul_add, Nat.mul_one, List.range_add, List.filter_append, List.map_append, List.filter_map, List.map_map]
  rfl
theorem ubl_mem {U : Nat → Bool} {b : Nat} {x : Int} : x ∈ ubl U b ↔ ∃ y : Nat, x = y ∧ y / 512 = b ∧ U y = true := by
  unfold ubl
  simp only [List.mem_map, List.mem_filter, List.mem_range]
  constructor
  · rintro ⟨j, ⟨h1, h2⟩, rfl⟩
    exact ⟨512 * b + j, rfl, by omega, h2⟩
  · rintro ⟨y, rfl, h1, h2⟩
    exact ⟨y % 512, ⟨by omega, by rw [show 512 * b + y % 512 = y by omega]; exact h2⟩, by omega⟩
theorem map_nodup {f : Nat → Int} (hf : ∀ a b, f a = f b → a = b) {l : List Nat} (h : l.Nodup) : (l.map f).Nodup := by
  refine List.Pairwise.map _ (fun a b hab e => hab (hf a b e)) h
theorem ubl_nodup (U : Nat → Bool) (b : Nat) : (ubl U b).Nodup := map_nodup (fun a b h => by omega) (List.nodup_range.filter _)
def usedC (s : St) (b k i : Nat) : List Int := ((List.range i).filter fun j => s.U (cellN b k j)).map fun (j : Nat) => ((cellN b k j : Nat) : Int)
theorem usedC_succ (s : St) (b k i : Nat) : usedC s b k (i + 1) = usedC s b k i ++ (if s.U (cellN b k i) then [((cellN b k i : Nat) : Int)] else []) := by
  unfold usedC
  rw [List.range_succ, List.filter_append, List.map_append]
  congr 1
  cases hu : s.U (cellN b k i) <;> simp [List.filter, hu]
theorem ubl_small {g : Nat} {s : St} (inv : Inv g s.hs s.U s.L) {b k : Nat} (hk : k < 32) (hb : 1 ≤ b) (hh : hd s.hs b = (1, (k : Int), 0)) : (ubl s.U b).Perm (usedC s b k (cn k)) := by
  refine (List.perm_ext_iff_of_nodup (ubl_nodup _ _) ?_).2 fun x => ?_
  · unfold usedC
    refine List.Pairwise.map _ (fun a c hac e => hac.2.2 (cellN_inj (b := b) (b' := b) hk hac.1 hac.2.1 (by omega)).2) (R := fun a c => a < cn k ∧ c < cn k ∧ a ≠ c) ?_
    refine (List.Pairwise.and_mem.1 (List.nodup_range.filter _)).imp fun {a c} ⟨h1, h2, h3⟩ => ?_
    simp only [List.mem_filter, List.mem_range] at h1 h2
    exact ⟨h1.1, h2.1, h3⟩
  · rw [ubl_mem]
    unfold usedC
    simp only [List.mem_map, List.mem_filter, List.mem_range]
    constructor
    · rintro ⟨y, rfl, h1, h2⟩
      rcases inv.used y h2 with ⟨j, hj, b', i, _, _, h3, h4, rfl⟩ | ⟨b', n, _, hw, rfl⟩
      · rw [cellN_blk hj h4] at h1
        subst h1
        rw [hh] at h3
        simp only [Prod.mk.injEq] at h3
        have : j = k := by omega
        subst this
        exact ⟨i, ⟨h4, h2⟩, rfl⟩
      · rw [Nat.mul_div_cancel _ (by omega)] at h1
        subst h1
        have := hw.2.2.1
        unfold hd at hh
        rw [hh] at this; simp at this
    · rintro ⟨i, ⟨h1, h2⟩, rfl⟩
      exact ⟨_, rfl, cellN_blk hk h1, h2⟩
theorem ubl_large {g : Nat} {s : St} (inv : Inv g s.hs s.U s.L) {b : Nat} (hh : (hd s.hs b).1 = 2) (hu : s.U (b * 512) = true) : (ubl s.U b).Perm [((b * 512 : Nat) : Int)] := by
  refine (List.perm_ext_iff_of_nodup (ubl_nodup _ _) (by simp)).2 fun x => ?_
  rw [ubl_mem, List.mem_singleton]
  constructor
  · rintro ⟨y, rfl, h1, h2⟩
    rcases inv.used y h2 with ⟨j, hj, b', i, _, _, h3, h4, rfl⟩ | ⟨b', n, _, hw, rfl⟩
    · rw [cellN_blk hj h4] at h1
      subst h1
      rw [h3] at hh; simp at hh
    · rw [Nat.mul_div_cancel _ (by omega)] at h1
      subst h1; rfl
  · rintro rfl
    exact ⟨_, rfl, Nat.mul_div_cancel _ (by omega), hu⟩
theorem ubl_none {g : Nat} {s : St} (inv : Inv g s.hs s.U s.L) {b : Nat} (hh : (hd s.hs b).1 = 0 ∨ (hd s.hs b).1 = 3) : ubl s.U b = [] := by
  refine List.eq_nil_iff_forall_not_mem.2 fun x hx => ?_
  obtain ⟨y, _, h1, h2⟩ := ubl_mem.1 hx
  rw [inv.free_unused hh h1] at h2; cases h2
def szX (g : Nat) (s : St) (x : Int) : Int := oSize (oHead s.c (64 * g) x).1
/-- the words that an address has for itself -/
def rmX (s : St) (x : Int) : Int := if (hd s.hs (x.toNat / 512)).1 = 1 then clsW (hd s.hs (x.toNat / 512)).2.1 else (hd s.hs (x.toNat / 512)).2.2 * 512
theorem cellsR_eq (g : Nat) (s : St) (b k : Nat) (r : Rp) : ∀ i, cellsR g s b k i r = ⟨r.f, r.s, r.l, r.o + (usedC s b k i).length, r.u + sumL (szX g s) (usedC s b k i), r.c + ((i : Int) - (usedC s b k i).length), r.w + sumL (fun x => (cw k : Int) - szX g s x) (usedC s b k i)⟩ := by
  intro i
  induction i with
  | zero => simp [cellsR, usedC, sumL]
  | succ i ih =>
    show cellR g s b k i (cellsR g s b k i r) = _
    rw [ih, usedC_succ]
    unfold cellR
    cases s.U (cellN b k i)
    · simp only [Bool.false_eq_true, if_false, List.append_nil, Rp.mk.injEq, true_and, and_true]
      omega
    · simp only [if_true, Rp.add, Rp.mk.injEq, true_and, List.length_append, List.length_singleton, sumL_append, sumL, szX]
      refine ⟨?_, ?_, ?_, ?_⟩ <;> omega
theorem Rp.eq {a b : Rp} (h1 : a.f = b.f) (h2 : a.s = b.s) (h3 : a.l = b.l) (h4 : a.o = b.o) (h5 : a.u = b.u) (h6 : a.c = b.c) (h7 : a.w = b.w) : a = b := by
  cases a; cases b; simp only at *; subst h1 h2 h3 h4 h5 h6 h7; rfl
def nK (hs : List Hd) (j : Int) : Nat → Int
  | 0 => 0
  | b + 1 => nK hs j b + (if 1 ≤ b ∧ (hd hs b).1 = j then 1 else 0)
def wst (hs : List Hd) : Nat → Int
  | 0 => 0
  | b + 1 => wst hs b + (if 1 ≤ b ∧ (hd hs b).1 = 1 then 512 - cls (hd hs b).2.1 * clsW (hd hs b).2.1 else 0)
def frN (g : Nat) (s : St) (b k : Nat) : Int := (frS s.hs (uBel s.U (512 * g)) k b).length
def totR (g : Nat) (s : St) (b : Nat) : Rp := ⟨nK s.hs 0 b, nK s.hs 1 b, nK s.hs 2 b, (uBel s.U (512 * b)).length, sumL (szX g s) (uBel s.U (512 * b)), sumK (frN g s b) 32, wst s.hs b + sumL (fun x => rmX s x - szX g s x) (uBel s.U (512 * b))⟩
theorem frC_cnt {g : Nat} {s : St} {b k : Nat} (hk : k < 32) (hb2 : b < g) : ∀ i, i ≤ cn k → ((frC (uBel s.U (512 * g)) (b : Int) (k : Int) i).length : Int) = (i : Int) - (usedC s b k i).length := by
  obtain ⟨t1, t2, t3, t4, t5, t6, t7, t8⟩ := cls_tab k hk
  intro i
  induction i with
  | zero => intro _; rfl
  | succ i ih =>
    intro hi
    have ih := ih (by omega)
    rw [usedC_succ]
    unfold frC
    have e : 512 * (b : Int) + (i : Int) * clsW (k : Int) = ((cellN b k i : Nat) : Int) := by unfold cellN; rw [t1]; simp; omega
    have hr := cellN_rng (b := b) hk (show i < cn k by omega)
    have hm : ((cellN b k i : Nat) : Int) ∈ uBel s.U (512 * g) ↔ s.U (cellN b k i) = true := by
      rw [uBel_mem]
      constructor
      · rintro ⟨y, h1, h2, h3⟩
        have : y = cellN b k i := by omega
        subst this; exact h2
      · exact fun h => ⟨_, by omega, h, rfl⟩
    rw [e, List.length_append, List.length_append]
    cases hu : s.U (cellN b k i)
    · rw [if_neg (by rw [hm, hu]; simp)]
      simp; omega
    · rw [if_pos (hm.2 hu)]
      simp; omega
theorem frN_succ {g : Nat} {s : St} (inv : Inv g s.hs s.U s.L) {b : Nat} (hb : 1 ≤ b) (k : Nat) : frN g s (b + 1) k = frN g s b k + (if (hd s.hs b).1 = 1 ∧ (hd s.hs b).2.1 = k then ((frC (uBel s.U (512 * g)) (b : Int) (k : Int) (cls (k : Int)).toNat).length : Int) else 0) := by
  unfold frN
  rw [frS_succ _ _ _ hb, List.length_append]
  split <;> simp
theorem wholeR_tot {g : Nat} {s : St} (inv : Inv g s.hs s.U s.L) (hlg : ∀ b n, 1 ≤ b → WholeP s.hs b n → s.U (b * 512) = true) : ∀ b, 1 ≤ b → b ≤ g → wholeR g s b = totR g s b := by
  intro b hb
  induction b with
  | zero => omega
  | succ b ih =>
    intro hg
    by_cases h0 : b = 0
    · subst h0
      have hu : uBel s.U (512 * (0 + 1)) = [] := by
        rw [uBel_block, ubl_none inv (.inl (by rw [inv.zero]))]; rfl
      show rp0 = totR g s 1
      unfold totR
      rw [hu]
      have e1 : sumK (frN g s 1) 32 = 0 := by rw [← sumK_zero 32]; exact sumK_congr 32 fun k _ => rfl
      rw [e1]
      rfl
    · have ih := ih (by omega) (by omega)
      rw [wholeR_succ g s (by omega), ih]
      have hb1 : 1 ≤ b := by omega
      have hrt := hRight_mem inv.right b
      have hfr : ∀ k, k < 32 → frN g s (b + 1) k = frN g s b k + _ := fun k _ => frN_succ inv hb1 k
      unfold oneR totR
      rw [uBel_block]
      obtain ⟨⟨q1, q2, q3⟩, hq⟩ : ∃ q, q = hd s.hs b := ⟨_, rfl⟩
      simp only [nK, wst]
      rw [← hq] at hrt ⊢
      unfold hRight at hrt
      simp only [Prod.mk.injEq] at hrt
      simp only [hb1, true_and]
      by_cases h00 : q1 = 0
      · subst h00
        rw [ubl_none inv (.inl (by rw [← hq]))]
        have e1 : sumK (frN g s (b + 1)) 32 = sumK (frN g s b) 32 := sumK_congr 32 fun k hk => by rw [frN_succ inv hb1 k, ← hq]; simp
        rw [e1]
        simp
      · by_cases h01 : q1 = 1
        · subst h01
          obtain ⟨k, rfl⟩ := Int.eq_ofNat_of_zero_le (show 0 ≤ q2 by omega)
          have hk : k < 32 := by omega
          have h30 : q3 = 0 := by omega
          subst h30
          obtain ⟨t1, t2, t3, t4, t5, t6, t7, t8⟩ := cls_tab k hk
          have hp := ubl_small inv hk hb1 hq.symm
          have e1 : sumK (frN g s (b + 1)) 32 = sumK (frN g s b) 32 + ((cn k : Int) - (usedC s b k (cn k)).length) := by
            have e2 : ∀ k', k' < 32 → frN g s (b + 1) k' = frN g s b k' + (if k' = k then ((cn k : Int) - (usedC s b k (cn k)).length) else 0) := by
              intro k' hk'
              rw [frN_succ inv hb1 k', ← hq]
              simp only [true_and]
              by_cases e : k' = k
              · subst e
                rw [if_pos rfl, if_pos rfl, t2, Int.toNat_natCast, frC_cnt hk (by omega) (cn k') (Nat.le_refl _)]
              · rw [if_neg (by omega), if_neg e]
            rw [sumK_congr 32 e2, sumK_add, sumK_ind, if_pos hk]
          have e3 : sumL (fun x => rmX s x - szX g s x) (ubl s.U b) = sumL (fun x => (cw k : Int) - szX g s x) (usedC s b k (cn k)) := by
            rw [← sumL_perm _ hp]
            refine sumL_congr fun x hx => ?_
            obtain ⟨y, rfl, h1, _⟩ := ubl_mem.1 hx
            unfold rmX
            rw [Int.toNat_natCast, h1, ← hq]
            simp only [if_true, t1]
          rw [e1, sumL_append, sumL_append, e3, sumL_perm _ hp, List.length_append, hp.length_eq]
          simp only [Int.toNat_natCast]
          unfold blkR
          rw [cellsR_eq, t1, t2]
          refine Rp.eq ?_ ?_ ?_ ?_ ?_ ?_ ?_ <;> first | rfl | (simp; done) | (simp; omega) | omega
        · by_cases h02 : q1 = 2
          · subst h02
            obtain ⟨n, hw⟩ := inv.whole b (by rw [← hq])
            have hp := ubl_large inv (b := b) (by rw [← hq]) (hlg b n hb1 hw)
            have e1 : sumK (frN g s (b + 1)) 32 = sumK (frN g s b) 32 := sumK_congr 32 fun k hk => by rw [frN_succ inv hb1 k, ← hq]; simp
            have e3 : rmX s ((b * 512 : Nat) : Int) = q3 * 512 := by
              unfold rmX
              rw [Int.toNat_natCast, Nat.mul_div_cancel _ (by omega), ← hq]
              simp
            rw [e1, sumL_append, sumL_append, sumL_perm _ hp, sumL_perm _ hp, List.length_append, hp.length_eq]
            simp only [sumL, e3, Rp.add, szX]
            refine Rp.eq ?_ ?_ ?_ ?_ ?_ ?_ ?_ <;> first | rfl | (simp; done) | (simp; omega) | omega
          · have h03 : q1 = 3 := by omega
            subst h03
            rw [ubl_none inv (.inr (by rw [← hq]))]
            have e1 : sumK (frN g s (b + 1)) 32 = sumK (frN g s b) 32 := sumK_congr 32 fun k hk => by rw [frN_succ inv hb1 k, ← hq]; simp
            rw [e1]
            simp
end
section
set_option maxHeartbeats 1000000
theorem nK_free (hs : List Hd) : ∀ g, nK hs 0 g = nFree hs g := by
  intro g
  induction g with
  | zero => rfl
  | succ g ih =>
    unfold nFree at ih ⊢
    rw [List.range_succ, List.countP_append]
    simp only [nK]
    rw [ih]
    by_cases h : 1 ≤ g ∧ (hd hs g).1 = 0
    · rw [if_pos h]
      simp only [List.countP_cons, List.countP_nil]
      rw [if_pos (by simpa using h)]; simp
    · rw [if_neg h]
      simp only [List.countP_cons, List.countP_nil]
      rw [if_neg (by simpa using h)]; simp
theorem whole_f {g : Nat} {s : St} (inv : Inv g s.hs s.U s.L) (hlg : ∀ b n, 1 ≤ b → WholeP s.hs b n → s.U (b * 512) = true) : (wholeR g s g).f = nFree s.hs g := by
  rw [wholeR_tot inv hlg g (by have := inv.two; omega) (Nat.le_refl _)]
  exact nK_free s.hs g
theorem whole_o {g : Nat} {s : St} (inv : Inv g s.hs s.U s.L) (hlg : ∀ b n, 1 ≤ b → WholeP s.hs b n → s.U (b * 512) = true) : (wholeR g s g).o = (uBel s.U (512 * g)).length := by
  rw [wholeR_tot inv hlg g (by have := inv.two; omega) (Nat.le_refl _)]
  rfl
end
section
set_option maxHeartbeats 1000000
section
variable {B : World} {P R : SL} {t : K}
end
end
section
set_option maxHeartbeats 2000000
def r1 (s : St) (b : Nat) : Rp := ⟨nK s.hs 0 b, nK s.hs 1 b, nK s.hs 2 b, 0, 0, 0, wst s.hs b⟩
def r2 (g : Nat) (s : St) (k : Nat) : Rp := { r1 s g with c := sumK (frN g s g) k }
def r3 (g : Nat) (s : St) (l : List Int) : Rp := { r1 s g with o := l.length, u := sumL (szX g s) l, c := sumK (frN g s g) 32, w := wst s.hs g + sumL (fun x => rmX s x - szX g s x) l }
section
variable {B : World} {P R : SL} {t : K}
end
end
section
set_option maxHeartbeats 2000000
theorem PlOk.of_good {g : Nat} {s : St} (pl : Pl g s) : ¬ BadX g s := by
  rintro ⟨x, hu, h⟩
  obtain ⟨o, ho⟩ := pl.obj x hu
  exact h o ho
theorem FineH.of_pl {g : Nat} {s : St} {la : List Int} (pl : Pl g s) (inv : Inv g s.hs s.U s.L) (hl : HLs (64 * g) s.c la) {b : Nat} (h1 : 1 ≤ b) (h2 : b < g) : FineH s.c la b := by
  have hr := inv.right (hd s.hs b) (by unfold hd; rw [getD_eq (by rw [inv.len]; exact h2)]; exact List.getElem_mem _)
  refine ⟨by rw [pl.hdr b h1 h2, bdec_benc hr], ?_⟩
  have := hl (256 + b) (by omega) (by omega)
  exact getI_eq this
theorem bdec_pl {g : Nat} {s : St} (pl : Pl g s) (inv : Inv g s.hs s.U s.L) {b : Nat} (h1 : 1 ≤ b) (h2 : b < g) : (bdec b (getI s.c (256 + b))).1 = hd s.hs b := by
  have hr := inv.right (hd s.hs b) (by unfold hd; rw [getD_eq (by rw [inv.len]; exact h2)]; exact List.getElem_mem _)
  rw [pl.hdr b h1 h2, bdec_benc hr]
theorem Pl.begun {g : Nat} {F : RF} (h : 2 ≤ g) (h2 : g ≤ 255) : Pl g (st0 g F) := by
  have e : ∀ b : Nat, 1 ≤ b → b < g → getI (c0 g) (256 + b) = benc b (0, 0, 0) := by
    intro b hb hlt
    unfold getI
    rw [if_neg (by omega)]
    have e2 : (256 + (b : Int)).toNat = 256 + b := by omega
    rw [e2, List.getD_eq_getElem?_getD]
    unfold c0
    rw [wrH_get, if_neg (by simp; omega), List.getElem?_replicate, if_pos (by omega)]
    simp only [Option.map_some, Option.getD_some]
    congr 1; omega
  refine ⟨?_, fun b h1 h2 => ?_, fun x hx => (by cases hx), fun b n hb hw => ?_⟩
  · show (c0 g).length = _
    unfold c0
    rw [wrH_length, List.length_replicate]; omega
  · show getI (c0 g) _ = benc b (hd (hs0 g) b)
    rw [hd_hs0]; exact e b h1 h2
  · have := hw.2.2.1
    have h3 := hd_hs0 g b
    unfold hd at h3
    have h4 : (hs0 g).getD b (0, 0, 0) = (0, 0, 0) := h3
    change ((hs0 g).getD b (0, 0, 0)).1 = 2 at this
    rw [h4] at this
    cases this
section
variable {B : World} {P R : SL} {t : K}
theorem Whole_good_c {a d g : Nat} {s : St} (inv : Inv g s.hs s.U s.L) (pl : Pl g s) {kk : Q7 × (Int × Int) → K} (hk : T B (R * Al a d g s) (kk (rpT (totR g s g), (0, 0)))) : T B (R * Al a d g s) (c_check_Whole (da a) kk) := by
  refine Al_tie fun tie => ?_
  refine Al_open fun m u f => ?_
  refine T_bring (X := LDx d (64 * g) s.c) (by exact frmA) ?_
  refine LDx_open fun la hla => ?_
  refine T.perm (Q := R * openAl a d g s la m u f) (by unfold openAl; ac_rfl) ?_
  refine check_Whole_c inv tie pl.large (fun b h1 h2 _ => bdec_pl pl inv h1 h2) (whole_f inv pl.large) (whole_o inv pl.large) (fun _ _ => ?_) (fun x e he hb => ?_)
  · rw [wholeR_tot inv pl.large g (by have := inv.two; omega) (Nat.le_refl _)]
    exact hk
  · exfalso
    rcases hb with ⟨b, h1, h2, h3⟩ | hb
    · exact h3 (FineH.of_pl pl inv hla h1 h2)
    · exact PlOk.of_good pl hb
theorem law28_awake_c {kk : Bool → K} (hk : T B R (kk true)) : T B R (c_law28_awake kk) := by
  refine T_of (law28_awake_ok kk) ?_
  refine Begun_c (n := 4) (by omega) (by omega) fun a d F => ?_
  (repeat' (first | with_reducible refine T_brT ?_ | ((with_reducible apply T_ldP); (focus rfl); (focus exact hasA); (focus rfl)) | (with_reducible refine T_al ?_; intro _) | ((with_reducible apply T_st); (focus rfl); (focus exact updA); (focus simp); simp only [List.set, Nat.zero_add, Nat.reduceAdd]) | with_reducible refine T_brN ?_))
  have inv : Inv 4 (st0 4 F).hs (st0 4 F).U (st0 4 F).L := Inv.begun (by omega) (by omega)
  have pl : Pl 4 (st0 4 F) := Pl.begun (by omega) (by omega)
  refine T_bring (X := Al a d 4 (st0 4 F)) (by exact frmA) ?_
  refine Whole_good_c inv pl ?_
  have e : totR 4 (st0 4 F) 4 = ⟨3, 0, 0, 0, 0, 0, 0⟩ := by
    have h1 : ∀ k j, frS (hs0 4) (uBel (fun _ => false) (512 * 4)) k j = [] := by
      intro k j
      induction j with
      | zero => rfl
      | succ j ih =>
        cases j with
        | zero => rfl
        | succ j =>
          rw [frS_succ _ _ _ (by omega), ih, hd_hs0]; rfl
    have h2 : ∀ k, frN 4 (st0 4 F) 4 k = 0 := by
      intro k
      unfold frN
      show (((frS (hs0 4) (uBel (fun _ => false) (512 * 4)) k 4).length : Nat) : Int) = 0
      rw [h1]; rfl
    have h3 : sumK (frN 4 (st0 4 F) 4) 32 = 0 := by
      rw [sumK_congr (f' := fun _ => 0) 32 fun k _ => h2 k, sumK_zero]
    have h4 : uBel (st0 4 F).U (512 * 4) = [] := by
      refine List.eq_nil_iff_forall_not_mem.2 fun x hx => ?_
      obtain ⟨y, _, hy, _⟩ := uBel_mem.1 hx
      cases hy
    unfold totR
    rw [h3, h4]
    rfl
  rw [e]
  have e2 : rpT ⟨3, 0, 0, 0, 0, 0, 0⟩ = (3, (0, (0, (0, (0, (0, 0)))))) := by decide +kernel
  rw [e2]
  (repeat' (first | ((with_reducible apply T_ldI); (focus rfl); (focus exact hasA); (focus rfl)) | (with_reducible refine T_al ?_; intro _) | ((with_reducible apply T_st); (focus rfl); (focus exact updA); (focus simp); simp only [List.set, Nat.zero_add, Nat.reduceAdd]) | with_reducible refine T_brE (fun _ => ?_) (fun _ => ?_)))
  · exact hk.weak.weak.weak
  all_goals exact absurd rfl (by assumption)
theorem law28_played_c {x0 : Int} {x1 : Sl} (h0 : 0 ≤ x0) (h1 : x0 ≤ 255) (hs : Scr B x1) {kk : (Option Addr × Option Addr × Sl) × Bool → K}
    (hk : ∀ a d s, Inv (2 + x0.toNat % 7) s.hs s.U s.L → Pl (2 + x0.toNat % 7) s → T B (R * Al a d (2 + x0.toNat % 7) s) (kk ((da a, da d, nilS), true))) : T B R (c_law28_played x0 x1 kk) := by
  refine T_of (law28_played_ok x0 x1 kk) ?_
  have e0 : IntKind.wrap .i64 (2 + IntKind.wrap .i64 (Int.tmod x0 7)) = ((2 + x0.toNat % 7 : Nat) : Int) := by
    rw [Int.tmod_eq_emod_of_nonneg h0, w64 (n := x0 % 7) (by omega) (by omega), w64 (by omega) (by omega)]; omega
  (dsimp only [law28_played, Zec0, Zec1, Zec2, Zec3, Zec4, Zec5, Zec6, Zec7, Zec8, Zec9, Zec10, Zec11, Zec12, Zec13, Zec14, Zec15, Zec16, Zec17, Zec18])
  rw [e0]
  generalize hg : 2 + x0.toNat % 7 = g at *
  have hg1 : 2 ≤ g := by omega
  have hg2 : g ≤ 8 := by omega
  refine T_al fun b4 => ?_
  refine Begun_c (n := g) hg1 (by omega) fun a d F => ?_
  (repeat (first | (with_reducible refine T_al ?_; intro _) | ((with_reducible apply T_st); (focus rfl); (focus exact updA); (focus simp); simp only [List.set, Nat.zero_add, Nat.reduceAdd])))
  rename_i b
  have inv0 : Inv g (st0 g F).hs (st0 g F).U (st0 g F).L := Inv.begun hg1 (by omega)
  have pl0 : Pl g (st0 g F) := Pl.begun hg1 (by omega)
  refine T_lpW (fun _ _ => ex fun s : St => R * pt b4 (.cells [.pointer none, .pointer none, .slice none 0 0].toArray 29) * pt b (.cells [.pointer (da a), .pointer (da d), nilS.v].toArray 29) * Al a d g s * pu (Inv g s.hs s.U s.L ∧ Pl g s)) (fun n (z : Int × Unit) => ∃ i : Nat, z.1 = i ∧ i ≤ 50 ∧ n = 50 - i) 50 (fun t ht => ?_) ⟨0, rfl, by omega, rfl⟩ ?_
  · intro w hw
    refine ht w (ex_sat (st0 g F) (Sat.puI ⟨inv0, pl0⟩ ?_))
    exact hw.perm (by ac_rfl)
  rintro n ⟨z, uu⟩ c ⟨i, e1, e2, e3⟩ hc
  simp only at e1
  subst e1 e3
  dsimp only
  have next : ∀ s, Inv g s.hs s.U s.L → Pl g s → i < 50 → T B (R * pt b4 (.cells [.pointer none, .pointer none, .slice none 0 0].toArray 29) * pt b (.cells [.pointer (da a), .pointer (da d), nilS.v].toArray 29) * Al a d g s) (c (IntKind.wrap .i64 ((i : Int) + 1), ())) := by
    intro s inv pl hi w hw
    exact hc (50 - (i + 1)) (IntKind.wrap .i64 ((i : Int) + 1), ()) (by omega) ⟨i + 1, w64 (by omega) (by omega), by omega, rfl⟩ w (ex_sat s (Sat.puI ⟨inv, pl⟩ hw))
  clear hc
  have nexts := next
  refine T_exP fun s hinv => ?_
  obtain ⟨inv, pl⟩ := hinv
  have next := next s inv pl
  have done : ∀ X Y : SL, T B (R * X * Y * Al a d g s) (kk ((da a, da d, nilS), true)) := by
    intro X Y
    refine T_drop1 (.init (.init .last)) ?_
    refine T_drop1 (.init .last) ?_
    exact hk a d s inv pl
  unfold da at *
  (repeat' (first | with_reducible refine T_brT ?_ | with_reducible refine T_brF ?_ | ((with_reducible apply T_ldP); (focus rfl); (focus exact hasA); (focus rfl)) | ((with_reducible apply T_ldS); (focus rfl); (focus exact hasA); (focus rfl)) | ((with_reducible apply T_st); (focus rfl); (focus exact updA); (focus simp); simp only [List.set, Nat.zero_add, Nat.reduceAdd]) | with_reducible refine T_brD (fun _ => ?_) (fun _ => ?_)))
  · rename_i h1 h2
    refine T_ixScr hs (by omega) h1 fun y kd m p dd q0 q1 q2 q3 => ?_
    refine T_ldBase q0 ?_
    refine T_ldBase q1 ?_
    refine T_ldBase q2 ?_
    refine T_ldBase q3 ?_
    (repeat (first | ((with_reducible apply T_ldP); (focus rfl); (focus exact hasA); (focus rfl)) | (with_reducible refine T_al ?_; intro _) | ((with_reducible apply T_st); (focus rfl); (focus exact updA); (focus simp); simp only [List.set, Nat.zero_add, Nat.reduceAdd])))
    rename_i b2
    refine T_bring (X := Al a d g s) (by exact frmA) ?_
    refine Objects_c fun sl => ?_
    have ub := @uBel_len s.U (512 * g)
    refine T_vlen .last fun hn => ?_
    rw [ints_len, Nat.mul_one] at hn
    -- back to the head
    have nx : ∀ s', Inv g s'.hs s'.U s'.L → Pl g s' → T B (R * pt b4 (.cells [.pointer none, .pointer none, .slice none 0 0].toArray 29) * pt b (.cells [.pointer (some ⟨a, 0, none⟩), .pointer (some ⟨d, 0, none⟩), nilS.v].toArray 29) * pt b2 (.cells [.int .i64 kd, .int .i64 m, .int .i64 p, .int .i64 dd].toArray 137) * vec 3 1 sl (ints (uBel s.U (512 * g))) * Al a d g s') (c (IntKind.wrap .i64 ((i : Int) + 1), ())) := by
      intro s' inv' pl'
      refine T_drop1 (.init .last) ?_
      refine T_drop1 (.init .last) ?_
      exact nexts s' inv' pl' (by omega)
    have same : T B (R * pt b4 (.cells [.pointer none, .pointer none, .slice none 0 0].toArray 29) * pt b (.cells [.pointer (some ⟨a, 0, none⟩), .pointer (some ⟨d, 0, none⟩), nilS.v].toArray 29) * pt b2 (.cells [.int .i64 kd, .int .i64 m, .int .i64 p, .int .i64 dd].toArray 137) * Al a d g s * vec 3 1 sl (ints (uBel s.U (512 * g)))) (c (IntKind.wrap .i64 ((i : Int) + 1), ())) := T.perm (by ac_rfl) (nx s inv pl)
    (repeat' (first | with_reducible refine T_tick ?_ | with_reducible refine T_brF ?_ | ((with_reducible apply T_ldI); (focus rfl); (focus exact hasA); (focus rfl)) | ((with_reducible apply T_ldP); (focus rfl); (focus exact hasA); (focus rfl)) | with_reducible refine T_brD (fun _ => ?_) (fun _ => ?_) | with_reducible refine T_brE (fun _ => ?_) (fun _ => ?_)))
    · refine T_bring (X := Al a d g s) (by exact frmA) ?_
      refine Al_tie fun tie => ?_
      refine Alloc_c inv (by omega) (fun _ => nx s inv pl) (fun _ _ _ => nx s inv pl) (fun _ _ _ _ _ => nx s inv pl) (fun _ _ hz _ x s1 hr => nx _ ?_ (pl.made inv tie (by omega) hz hr))
      obtain ⟨i1, i2, i3⟩ := hr.inv
      show Inv g s1.hs (uAdd s1.U x) s1.L
      rw [i3]; exact i1
    · rename_i h3 h4 h5 h6
      refine T_nz (by omega) ?_
      have e4 : Int.tmod p (sl.n : Int) = p % (sl.n : Int) := Int.tmod_eq_emod_of_nonneg (by omega)
      rw [e4]
      have hm1 := Int.emod_nonneg p (show (sl.n : Int) ≠ 0 by omega)
      have hm2 := Int.emod_lt_of_pos p (show (0 : Int) < sl.n by omega)
      have hlt : (p % (sl.n : Int)).toNat < (uBel s.U (512 * g)).length := by omega
      refine T_ixV (Rd.vec .last) hm1 (ints_at hlt) ?_
      refine T_bring (X := Al a d g s) (by exact frmA) ?_
      refine Free_c inv (fun _ => nx s inv pl) (fun n s' o _ _ hf => nx s' hf.inv (pl.freed inv (by omega) hf))
    all_goals first
      | exact same
      | refine T_bring (X := Al a d g s) (by exact frmA) ?_
        refine Trim_c inv (nx s inv pl) (fun n k F' e hn hk hh hu => nx _ (inv.trim hk hn hh hu) (pl.trimmed inv (by omega) hk hn hh hu))
  · exact done _ _
  · exact done _ _
end
end
section
set_option maxHeartbeats 2000000
section
variable {B : World} {P R : SL} {t : K}
theorem LenTab_c {a d g : Nat} {s : St} (inv : Inv g s.hs s.U s.L) {k : Int → K} (hk : T B (R * Al a d g s) (k g)) :
    T B (R * Al a d g s) (ldP (Addr.add ⟨a, 0, none⟩ 0) fun x34 => nn x34 fun x35 => ldP (Addr.add x35 0) fun x37 => c_blocks_Table_Len x37 k) := by
  have hl := inv.len
  have hb := inv.big
  refine Al_open fun mm u f => ?_
  unfold da
  (repeat (first | with_reducible refine T_nn ?_ | ((with_reducible apply T_ldP); (focus rfl); (focus exact hasA); (focus rfl))))
  refine T_bring (X := Mg mm d g s.hs s.F) (by exact frmA) ?_
  refine Mg_open fun tt xx tie2 => ?_
  unfold da
  (repeat (((with_reducible apply T_ldP); (focus rfl); (focus exact hasA); (focus rfl))))
  refine T_bring (X := Tab tt d g s.hs) (by exact frmA) ?_
  refine blocks_Len_c ?_
  rw [hl]
  have h5 := Al_close (m := mm) (u := u) (f := f) hk
  have h6 : T B (R * LDx d (64 * g) s.c * Bm u (512 * g) s.U * Fl f s.L * pt a (.cells [.pointer (da mm), .pointer (da d), .int .i64 g, .pointer (da u), .pointer (da f)].toArray 47) * Mg mm d g s.hs s.F) (k g) := T.perm (by ac_rfl) h5
  have h7 := Mg_close (a := tt) (x := xx) tie2 h6
  exact T.perm (by unfold da; ac_rfl) h7
end
end
section
set_option maxHeartbeats 2000000
theorem xor64 {a b : Nat} (ha : a < 2 ^ 64) (hb : b < 2 ^ 64) : bitI .xor .u64 a b = ((a ^^^ b : Nat) : Int) := by
  show IntKind.wrap .u64 ((BitVec.ofInt 64 a ^^^ BitVec.ofInt 64 b).toNat : Int) = _
  rw [BitVec.ofInt_natCast, BitVec.ofInt_natCast, BitVec.toNat_xor, BitVec.toNat_ofNat, BitVec.toNat_ofNat, Nat.mod_eq_of_lt ha, Nat.mod_eq_of_lt hb]
  have := Nat.xor_lt_two_pow ha hb
  exact wu64 (by omega) (by omega)
theorem xor_ne {a b : Nat} (h : b ≠ 0) : a ^^^ b ≠ a := by
  intro e
  apply h
  have : a ^^^ (a ^^^ b) = a ^^^ a := by rw [e]
  rw [← Nat.xor_assoc, Nat.xor_self, Nat.zero_xor] at this
  exact this
theorem flip_ne {x : Int} {j : Nat} (h0 : 0 ≤ x) (h1 : x < 18446744073709551616) (hj : j < 64) : bitI .xor .u64 x (shlI .u64 1 j) ≠ x := by
  obtain ⟨n, rfl⟩ := Int.eq_ofNat_of_zero_le h0
  have hp : 2 ^ j < 2 ^ 64 := Nat.pow_lt_pow_right (by omega) hj
  have e : shlI .u64 1 j = ((1 * 2 ^ j : Nat) : Int) := shl_n (a := 1) (by omega) (by omega)
  rw [e, Nat.one_mul, xor64 (by omega) hp]
  have := xor_ne (a := n) (b := 2 ^ j) (by have := Nat.two_pow_pos j; omega)
  omega
theorem bdec_rng {b w : Int} (h : (bdec b w).2 = 0) : 0 ≤ w ∧ w < 18446744073709551616 := by
  unfold bdec at h
  split at h
  · rename_i hs
    have := @sealI_rng (w % 4294967296) (256 + b) (by omega) (by omega)
    rw [hs] at this; omega
  · simp at h
theorem odec_rng {a w : Int} (h : (odec a w).2 = 0) : 0 ≤ w ∧ w < 18446744073709551616 := by
  unfold odec at h
  split at h
  · rename_i hs
    have := @sealI_rng (w % 4294967296) a (by omega) (by omega)
    rw [hs] at this; omega
  · simp at h
/-- one word turned -/
def turn (s : St) (x : Nat) (w : Int) : St := { s with c := s.c.set x w }
section
variable {B : World} {P R : SL} {t : K}
theorem Geo_open_c {m tt xx g : Nat} {k : Int → K} (hk : T B (R * pt m (.cells [.pointer (da tt), .pointer (da xx), .int .i64 g].toArray 51)) (k (g : Int))) : T B (R * pt m (.cells [.pointer (da tt), .pointer (da xx), .int .i64 g].toArray 51)) (c_bman_Manager_Geometry (da m) k) := by
  refine T_of (bman_Manager_Geometry_ok _ k) ?_
  unfold da at *
  (repeat (first | with_reducible refine T_nn ?_ | ((with_reducible apply T_ldI); (focus rfl); (focus exact hasA); (focus rfl)) | (with_reducible refine T_al ?_; intro _) | ((with_reducible apply T_st); (focus rfl); (focus exact updA); (focus simp); simp only [List.set, Nat.zero_add, Nat.reduceAdd])))
  refine T.weak ?_
  exact hk
/-- what is checked, where something is wrong -/
theorem finds_s2_c {a d g mm u f b8 : Nat} {s : St} {la : List Int} (inv : Inv g s.hs s.U s.L) (tie : Tie g s.hs s.F) (hlg : ∀ b n, 1 ≤ b → WholeP s.hs b n → s.U (b * 512) = true)
    (hh : ∀ b : Nat, 1 ≤ b → b < g → FineH s.c la b → (bdec b (getI s.c (256 + b))).1 = hd s.hs b) (hbad : (∃ b : Nat, 1 ≤ b ∧ b < g ∧ ¬ FineH s.c la b) ∨ BadX g s) {kk : Bool → K} (hk : T B R (kk true)) :
    T B (R * pt b8 (.cells [.pointer (da a), .pointer (da d), nilS.v].toArray 29) * openAl a d g s la mm u f) (Zcg2 kk ⟨b8, 0, none⟩) := by
  rw [Zcg2]
  refine T_ldP (i := 0) (n := da a) rfl (Has.init Has.last) rfl ?_
  refine check_Whole_c inv tie hlg hh (whole_f inv hlg) (whole_o inv hlg) (fun hf hgd => ?_) (fun x e he _ => ?_)
  · exfalso
    rcases hbad with ⟨b, h1, h2, h3⟩ | ⟨x, hu, hx⟩
    · exact h3 (hf b h1 h2)
    · have hb : 1 ≤ x / 512 ∧ x / 512 < g := by
        rcases inv.used x hu with ⟨k, hk, b, i, h1, h2, _, h4, rfl⟩ | ⟨b, n, h1, hw, rfl⟩
        · rw [cellN_blk hk h4]; exact ⟨h1, h2⟩
        · rw [Nat.mul_div_cancel _ (by omega)]
          have := hw.1
          have := hw.2.1
          have := inv.len
          omega
      obtain ⟨o, ho⟩ := hgd _ hb.1 hb.2 x rfl hu
      exact hx o ho
  · unfold z7
    refine T_al fun b => ?_
    (repeat (((with_reducible apply T_st); (focus rfl); (focus exact updA); (focus simp); simp only [List.set, Nat.zero_add, Nat.reduceAdd])))
    rw [Zcg1]
    refine T_brNE (fun _ => ?_) (fun h => absurd h he)
    (repeat (((with_reducible apply T_ldI); (focus rfl); (focus exact hasA); (focus rfl))))
    exact hk.weak.weak
theorem finds_s6_c {a d g b8 : Nat} {s : St} {X e : Int} (inv : Inv g s.hs s.U s.L) (hg : g ≤ 16) {kk : Bool → K}
    (h1 : ∀ o, PlOk s.c (64 * g) s.hs g X o → T B (R * pt b8 (.cells [.pointer (da a), .pointer (da d), nilS.v].toArray 29) * Al a d g s) (Zcg5 kk ⟨b8, 0, none⟩ e true))
    (h0 : (∀ o, ¬ PlOk s.c (64 * g) s.hs g X o) → T B (R * pt b8 (.cells [.pointer (da a), .pointer (da d), nilS.v].toArray 29) * Al a d g s) (Zcg5 kk ⟨b8, 0, none⟩ e false)) :
    T B (R * pt b8 (.cells [.pointer (da a), .pointer (da d), nilS.v].toArray 29) * Al a d g s) (Zcg6 kk ⟨b8, 0, none⟩ X e) := by
  have hl := inv.len
  refine Al_open fun mm u f => ?_
  refine T_bring (X := Mg mm d g s.hs s.F) (by exact frmA) ?_
  refine Mg_open fun tt xx tie => ?_
  have close : ∀ t, T B (R * pt b8 (.cells [.pointer (da a), .pointer (da d), nilS.v].toArray 29) * Al a d g s) t → T B (R * pt b8 (.cells [.pointer (da a), .pointer (da d), nilS.v].toArray 29) * Bm u (512 * g) s.U * Fl f s.L * pt a (.cells [.pointer (da mm), .pointer (da d), .int .i64 g, .pointer (da u), .pointer (da f)].toArray 47) * Idx xx g s.F * pt mm (.cells [.pointer (da tt), .pointer (da xx), .int .i64 g].toArray 51) * Tab tt d g s.hs * LDx d (64 * g) s.c) t := by
    intro t ht
    have h5 := Al_close (m := mm) (u := u) (f := f) ht
    have h6 : T B (R * pt b8 (.cells [.pointer (da a), .pointer (da d), nilS.v].toArray 29) * LDx d (64 * g) s.c * Bm u (512 * g) s.U * Fl f s.L * pt a (.cells [.pointer (da mm), .pointer (da d), .int .i64 g, .pointer (da u), .pointer (da f)].toArray 47) * Mg mm d g s.hs s.F) t := T.perm (by ac_rfl) h5
    exact T.perm (by ac_rfl) (Mg_close (a := tt) (x := xx) tie h6)
  have fin : ∀ (ob : Ob) (bl : Bool) b s9, T B (R * pt b8 (.cells [.pointer (da a), .pointer (da d), nilS.v].toArray 29) * Al a d g s) (Zcg5 kk ⟨b8, 0, none⟩ e bl) →
      T B (R * pt b8 (.cells [.pointer (da a), .pointer (da d), nilS.v].toArray 29) * Bm u (512 * g) s.U * Fl f s.L * pt a (.cells [.pointer (da mm), .pointer (da d), .int .i64 g, .pointer (da u), .pointer (da f)].toArray 47) * Idx xx g s.F * pt mm (.cells [.pointer (da tt), .pointer (da xx), .int .i64 g].toArray 51) * Tab tt d g s.hs * LDx d (64 * g) s.c * vec 143 3 s9 (hds s.hs) * pt b (.cells [.int .i64 ob.1, .int .i64 ob.2].toArray 68)) (Zcg5 kk ⟨b8, 0, none⟩ e bl) := by
    intro ob bl b s9 ht
    exact (close _ ht).weak.weak
  unfold da at *
  (repeat (first | with_reducible refine T_nn ?_ | with_reducible refine T_tick ?_ | ((with_reducible apply T_ldP); (focus rfl); (focus exact hasA); (focus rfl))))
  refine T_andK ?_ ?_
  · refine T_bring (X := pt mm _) (by exact frmA) ?_
    refine Geo_open_c ?_
    unfold da
    (repeat (first | with_reducible refine T_chk0 ?_ | ((with_reducible apply T_chk); (focus rfl); (focus exact hasA); (focus rfl))))
    refine T_andK ?_ ?_
    · refine T_bring (X := Tab tt d g s.hs) (by exact frmA) ?_
      refine blocks_All_c (by omega) fun s9 => ?_
      (repeat (first | with_reducible refine T_chk0 ?_ | ((with_reducible apply T_chk); (focus rfl); (focus exact hasA); (focus rfl))))
      refine T_andK ?_ (T_andK ?_ fun _ _ => trivial)
      · refine T_bring (X := LDx d (64 * g) s.c) (by exact frmA) ?_
        refine Placed_c (hs := s.hs) (by omega) (by omega) (by omega) (Rd.vec (by exact frmA)) (fun o ho => ?_) (fun hno o => ?_)
        · (repeat (first | (with_reducible refine T_al ?_; intro _) | ((with_reducible apply T_st); (focus rfl); (focus exact updA); (focus simp); simp only [List.set, Nat.zero_add, Nat.reduceAdd])))
          rename_i bb
          exact T.perm (by ac_rfl) (fin o true bb s9 (h1 o ho))
        · (repeat (first | (with_reducible refine T_al ?_; intro _) | ((with_reducible apply T_st); (focus rfl); (focus exact updA); (focus simp); simp only [List.set, Nat.zero_add, Nat.reduceAdd])))
          rename_i bb
          exact T.perm (by ac_rfl) (fin o false bb s9 (h0 hno))
      · refine T_al fun bb => ?_
        refine T_bring (X := LDx d (64 * g) s.c) (by exact frmA) ?_
        refine Placed_c (hs := s.hs) (by omega) (by omega) (by omega) (Rd.vec (by exact frmA)) (fun o ho => ?_) (fun hno o => ?_)
        · (repeat (((with_reducible apply T_st); (focus rfl); (focus exact updA); (focus simp); simp only [List.set, Nat.zero_add, Nat.reduceAdd])))
          exact T.perm (by ac_rfl) (fin o true bb s9 (h1 o ho))
        · (repeat (((with_reducible apply T_st); (focus rfl); (focus exact updA); (focus simp); simp only [List.set, Nat.zero_add, Nat.reduceAdd])))
          exact T.perm (by ac_rfl) (fin o false bb s9 (h0 hno))
    · refine T_andK ?_ fun _ _ => trivial
      refine T_al fun bb => ?_
      refine T_bring (X := Tab tt d g s.hs) (by exact frmA) ?_
      refine blocks_All_c (by omega) fun s9 => ?_
      (repeat (first | with_reducible refine T_chk0 ?_ | ((with_reducible apply T_chk); (focus rfl); (focus exact hasA); (focus rfl))))
      refine T_bring (X := LDx d (64 * g) s.c) (by exact frmA) ?_
      refine Placed_c (hs := s.hs) (by omega) (by omega) (by omega) (Rd.vec (by exact frmA)) (fun o ho => ?_) (fun hno o => ?_)
      · (repeat (((with_reducible apply T_st); (focus rfl); (focus exact updA); (focus simp); simp only [List.set, Nat.zero_add, Nat.reduceAdd])))
        exact T.perm (by ac_rfl) (fin o true bb s9 (h1 o ho))
      · (repeat (((with_reducible apply T_st); (focus rfl); (focus exact updA); (focus simp); simp only [List.set, Nat.zero_add, Nat.reduceAdd])))
        exact T.perm (by ac_rfl) (fin o false bb s9 (h0 hno))
  · refine T_andK ?_ fun _ _ => trivial
    refine T_al fun bb => ?_
    refine T_bring (X := pt mm _) (by exact frmA) ?_
    refine Geo_open_c ?_
    unfold da
    (repeat (first | with_reducible refine T_chk0 ?_ | ((with_reducible apply T_chk); (focus rfl); (focus exact hasA); (focus rfl))))
    refine T_bring (X := Tab tt d g s.hs) (by exact frmA) ?_
    refine blocks_All_c (by omega) fun s9 => ?_
    (repeat (first | with_reducible refine T_chk0 ?_ | ((with_reducible apply T_chk); (focus rfl); (focus exact hasA); (focus rfl))))
    refine T_bring (X := LDx d (64 * g) s.c) (by exact frmA) ?_
    refine Placed_c (hs := s.hs) (by omega) (by omega) (by omega) (Rd.vec (by exact frmA)) (fun o ho => ?_) (fun hno o => ?_)
    · (repeat (((with_reducible apply T_st); (focus rfl); (focus exact updA); (focus simp); simp only [List.set, Nat.zero_add, Nat.reduceAdd])))
      exact T.perm (by ac_rfl) (fin o true bb s9 (h1 o ho))
    · (repeat (((with_reducible apply T_st); (focus rfl); (focus exact updA); (focus simp); simp only [List.set, Nat.zero_add, Nat.reduceAdd])))
      exact T.perm (by ac_rfl) (fin o false bb s9 (h0 hno))
theorem getI_set {c : List Int} {X : Nat} {w : Int} (h : X < c.length) (y : Nat) : getI (c.set X w) y = if y = X then w else getI c y := by
  rw [getI_nat, getI_nat, List.getD_eq_getElem?_getD, List.getD_eq_getElem?_getD, List.getElem?_set]
  by_cases e : X = y
  · subst e; rw [if_pos rfl, if_pos rfl, if_pos h]; rfl
  · rw [if_neg e, if_neg (fun q => e q.symm)]
theorem finds_s12_c {a d g b8 : Nat} {s : St} (inv : Inv g s.hs s.U s.L) (pl : Pl g s) (hg : g ≤ 8) {X : Nat} {x7 : Int} (h7 : 0 ≤ x7) (hX : (∃ b : Nat, 1 ≤ b ∧ b < g ∧ X = 256 + b) ∨ (512 ≤ X ∧ s.U X = true)) {kk : Bool → K} (hk : T B R (kk true)) :
    T B (R * pt b8 (.cells [.pointer (da a), .pointer (da d), nilS.v].toArray 29) * Al a d g s) (Zcg12 kk x7 ⟨b8, 0, none⟩ X) := by
  have hcl := pl.len
  have hlt : X < 512 * g ∧ (0 ≤ getI s.c X ∧ getI s.c X < 18446744073709551616) := by
    rcases hX with ⟨b, h1, h2, rfl⟩ | ⟨h1, h2⟩
    · refine ⟨by omega, bdec_rng (b := b) ?_⟩
      have hr := inv.right (hd s.hs b) (by unfold hd; rw [getD_eq (by rw [inv.len]; exact h2)]; exact List.getElem_mem _)
      have := pl.hdr b h1 h2
      rw [show ((256 + b : Nat) : Int) = 256 + (b : Int) by omega, this, bdec_benc hr]
    · obtain ⟨o, ho⟩ := pl.obj X h2
      refine ⟨ho.place.1, odec_rng (a := X) ?_⟩
      have := ho.1
      unfold oHead at this
      split at this
      · simp at this
      · rename_i hc
        simp only [not_or, Int.not_lt, ne_eq, Classical.not_not] at hc
        exact hc.2.2.1
  obtain ⟨hlt, hr0, hr1⟩ := hlt
  rw [Zcg12]
  refine Al_tie fun tie => ?_
  refine Al_open fun mm u f => ?_
  refine T_bring (X := LDx d (64 * g) s.c) (by exact frmA) ?_
  refine LDx_open fun la hla => ?_
  unfold da
  refine T_ldP (i := 1) (n := da d) rfl (by exact hasA) rfl ?_
  refine LGet_c ?_
  have e7 : IntKind.wrap .u64 (Int.tmod x7 64) = (((x7 % 64).toNat : Nat) : Int) := by
    rw [Int.tmod_eq_emod_of_nonneg h7, wu64 (by omega) (by omega)]; omega
  rw [e7]
  refine T_nneg (by omega) ?_
  have hne := flip_ne (j := (x7 % 64).toNat) hr0 hr1 (by omega)
  generalize bitI .xor .u64 (getI s.c X) (shlI .u64 1 ((x7 % 64).toNat : Nat)) = w at *
  rw [Zcg11]
  refine T_ldP (i := 1) (n := da d) rfl (by exact hasA) rfl ?_
  refine LStore_c (by omega) (by omega) ?_
  rw [Int.toNat_natCast]
  rw [Zcg10]
  refine T_brNE (fun h => absurd rfl h) (fun _ => ?_)
  rw [Zcg8]
  have hXc : X < s.c.length := by omega
  have hgs : ∀ y : Nat, getI (turn s X w).c y = if y = X then w else getI s.c y := getI_set hXc
  rcases hX with ⟨b, h1, h2, rfl⟩ | ⟨h1, h2⟩
  · refine T_brD (fun h => by omega) (fun _ => ?_)
    refine T.perm (Q := R * pt b8 (.cells [.pointer (da a), .pointer (da d), nilS.v].toArray 29) * openAl a d g (turn s (256 + b) w) la mm u f) (by unfold openAl turn da; ac_rfl) ?_
    refine finds_s2_c (s := turn s (256 + b) w) inv tie pl.large (fun b' p1 p2 hf => ?_) (.inl ⟨b, h1, h2, fun hf => ?_⟩) hk
    · have e : getI (turn s (256 + b) w).c ((256 + b' : Nat) : Int) = getI s.c ((256 + b' : Nat) : Int) := by
        rw [hgs, if_neg (fun q => ?_)]
        have hb : b' = b := by omega
        subst hb
        have q1 := hf.2
        rw [show (256 : Int) + (b' : Int) = ((256 + b' : Nat) : Int) by omega, hgs, if_pos rfl] at q1
        have q2 := hla (256 + b') (by omega) (by omega)
        have q3 := getI_eq q2
        rw [q1] at q3
        exact hne q3
      rw [show (256 : Int) + (b' : Int) = ((256 + b' : Nat) : Int) by omega, e]
      exact bdec_pl pl inv p1 p2
    · have q1 := hf.2
      rw [show (256 : Int) + (b : Int) = ((256 + b : Nat) : Int) by omega, hgs, if_pos rfl] at q1
      have q3 := getI_eq (hla (256 + b) (by omega) (by omega))
      rw [q1] at q3
      exact hne q3
  · refine T_brD (fun _ => ?_) (fun h => by omega)
    have hh' : ∀ b : Nat, 1 ≤ b → b < g → (bdec b (getI (turn s X w).c (256 + b))).1 = hd s.hs b := by
      intro b p1 p2
      rw [show (256 : Int) + (b : Int) = ((256 + b : Nat) : Int) by omega, hgs, if_neg (by omega)]
      exact bdec_pl pl inv p1 p2
    rw [Zcg7]
    refine T_ldP (i := 1) (n := da d) rfl (by exact hasA) rfl ?_
    refine object_Head_c ?_
    refine T_al fun b5 => ?_
    refine T_st (i := 0) rfl Upd.last (by show _ < 2; omega) ?_
    refine T_st (i := 1) rfl Upd.last (by show _ < 2; omega) ?_
    refine T_bring (X := LDev d (64 * g) (s.c.set X w) la) (by exact frmA) ?_
    refine LDx_close (c := (turn s X w).c) (fun i p1 p2 => ?_) ?_
    · rw [hla i p1 p2]
      show _ = (s.c.set X w)[i]?
      rw [List.getElem?_set_ne (by omega)]
    refine T_drop1 (by exact frmA : Frm _ (pt b5 _) _) ?_
    have fin : T B (R * pt b8 (.cells [.pointer (da a), .pointer (da d), nilS.v].toArray 29) * Al a d g (turn s X w)) (Zcg6 kk ⟨b8, 0, none⟩ X (oHead (turn s X w).c (64 * g) X).2) := by
      refine finds_s6_c (s := turn s X w) inv (by omega) (fun o ho => ?_) (fun hno => ?_)
      · rw [ho.1]
        rw [Zcg5]
        refine T_brE (fun _ => ?_) (fun h => absurd rfl h)
        (repeat (with_reducible refine T_brT ?_))
        exact hk.weak.weak
      · have bad : T B (R * pt b8 (.cells [.pointer (da a), .pointer (da d), nilS.v].toArray 29) * Al a d g (turn s X w)) (Zcg2 kk ⟨b8, 0, none⟩) := by
          refine Al_open fun mm u f => ?_
          refine T_bring (X := LDx d (64 * g) (turn s X w).c) (by exact frmA) ?_
          refine LDx_open fun la hla => ?_
          refine T.perm (Q := R * pt b8 (.cells [.pointer (da a), .pointer (da d), nilS.v].toArray 29) * openAl a d g (turn s X w) la mm u f) (by unfold openAl; ac_rfl) ?_
          exact finds_s2_c (s := turn s X w) inv tie pl.large (fun b p1 p2 _ => hh' b p1 p2) (.inr ⟨X, h2, hno⟩) hk
        rw [Zcg5]
        refine T_brE (fun _ => T_brF bad) (fun h => T_brF bad)
    have h5 := Al_close (m := mm) (u := u) (f := f) fin
    unfold da at h5
    exact T.perm (by ac_rfl) h5
theorem CheckFinds_c {x0 : Sl} {p0 p1 x2 : Int} (h0 : 0 ≤ p0) (h1 : p0 ≤ 255) (h2 : 0 ≤ p1) (h3 : 0 ≤ x2) (h4 : x2 < 65536) (hs : Scr B x0) {kk : Bool → K} (hk : T B R (kk true)) : T B R (c_law28_CheckFinds x0 [.int .u8 p0, .int .u8 p1] x2 kk) := by
  refine T_of (law28_CheckFinds_ok x0 _ x2 kk) ?_
  rw [law28_CheckFinds]
  refine T_al fun b7 => ?_
  rw [Zcg26]
  refine law28_awake_c ?_
  refine T_brN ?_
  refine T_brT ?_
  rw [Zcg23]
  refine T_ixA (by omega) (by omega) ?_
  refine T_ldI (i := 1) rfl Has.last rfl ?_
  rw [Zcg22]
  refine T_ixA (by omega) (by omega) ?_
  refine T_ldI (i := 0) rfl Has.last rfl ?_
  refine law28_played_c h0 h1 hs fun a d s inv pl => ?_
  generalize hg : 2 + p0.toNat % 7 = g at *
  have hg1 : 2 ≤ g := by omega
  have hg2 : g ≤ 8 := by omega
  have hl2 : s.hs.length ≤ 2 ^ 20 := by rw [inv.len]; omega
  have hcl := pl.len
  (repeat (first | (with_reducible refine T_al ?_; intro _) | ((with_reducible apply T_st); (focus rfl); (focus exact updA); (focus simp); simp only [List.set, Nat.zero_add, Nat.reduceAdd])))
  rename_i b8
  refine T_brN ?_
  (repeat (first | with_reducible refine T_brT ?_ | ((with_reducible apply T_ldP); (focus rfl); (focus exact hasA); (focus rfl))))
  refine T_drop1 (by exact frmA : Frm _ (pt b7 _) _) ?_
  refine T_bring (X := Al a d g s) (by exact frmA) ?_
  refine Objects_c fun x10 => ?_
  have ub := @uBel_len s.U (512 * g)
  refine T_vlen .last fun hn => ?_
  rw [ints_len, Nat.mul_one] at hn
  have hx2 : IntKind.wrap .i64 x2 = x2 := w64 (by omega) (by omega)
  refine T_bring (X := Al a d g s) (by exact frmA) ?_
  (repeat (((with_reducible apply T_ldP); (focus rfl); (focus exact hasA); (focus rfl))))
  refine LenTab_c inv ?_
  rw [hx2, w64 (n := (g : Int) - 1) (by omega) (by omega)]
  refine T_nz (by omega) ?_
  have hm1 := Int.emod_nonneg x2 (show (g : Int) - 1 ≠ 0 by omega)
  have hm2 := Int.emod_lt_of_pos x2 (show (0 : Int) < (g : Int) - 1 by omega)
  rw [Int.tmod_eq_emod_of_nonneg h3, w64 (n := 1 + x2 % ((g : Int) - 1)) (by omega) (by omega), Zcg16, w64 (n := 256 + (1 + x2 % ((g : Int) - 1))) (by omega) (by omega)]
  obtain ⟨b, hb⟩ := Int.eq_ofNat_of_zero_le (show 0 ≤ 1 + x2 % ((g : Int) - 1) by omega)
  rw [hb]
  -- a header is turned
  have fa : T B (R * pt b8 (.cells [.pointer (da a), .pointer (da d), nilS.v].toArray 29) * vec 3 1 x10 (ints (uBel s.U (512 * g))) * Al a d g s) (Zcg12 kk p1 ⟨b8, 0, none⟩ (256 + (b : Int))) := by
    refine T_drop1 (.init .last) ?_
    have := finds_s12_c (X := 256 + b) (b8 := b8) (R := R) (a := a) (d := d) inv pl hg2 h2 (.inl ⟨b, by omega, by omega, rfl⟩) hk
    exact this
  rw [Zcg15]
  refine T_brD (fun hb7 => ?_) (fun hb7 => T_brF fa)
  rw [Zcg14]
  refine T_brD (fun hpos => ?_) (fun _ => fa)
  rw [Zcg13]
  refine T_nz (by omega) ?_
  rw [hx2, Int.tmod_eq_emod_of_nonneg h3]
  have hm3 := Int.emod_nonneg x2 (show (x10.n : Int) ≠ 0 by omega)
  have hm4 := Int.emod_lt_of_pos x2 (show (0 : Int) < x10.n by omega)
  have hlt : (x2 % (x10.n : Int)).toNat < (uBel s.U (512 * g)).length := by omega
  refine T_ixV (Rd.vec (.init .last)) hm3 (ints_at hlt) ?_
  obtain ⟨y, hy1, hy2, hy3⟩ := uBel_mem.1 (List.getElem_mem hlt)
  rw [hy3]
  refine T_drop1 (.init .last) ?_
  obtain ⟨o, ho⟩ := pl.obj y hy2
  exact finds_s12_c inv pl hg2 h2 (.inr ⟨ho.place.2.1, hy2⟩) hk
end
end
section
open Go Go.ChangeShapes Go.WideShapes Go.ChangeAt Go.RowKit
theorem own : ownKnob Tryz.prog.godebug = none := by kernel_rfl
theorem kids : Kids Tryz.prog (· < Tryz.prog.types.size) := kids_rows (by kernel_rfl) (by kernel_rfl)
theorem full : ∀ t e, t < Tryz.prog.types.size → Tryz.prog.underlying t = some (.slice e) → 0 < Tryz.prog.cellsOf e := slices_full_of Tryz.prog (by kernel_rfl)
theorem cells3 : Tryz.prog.cellsOf 3 = 1 := by kernel_rfl
section
variable {H : Type} {enc : TypeId × Value → H} {P : Program} {W W' : World} {b : Nat} {sp : Nat → Bool} {hd : Bool}
theorem carryAll : ∀ {ts : List TypeId} {vs : List Value} {ds : List (DataW H)} {ps : List MemPlace}, DataW.TrodAll enc P W b sp hd ts vs ds ps → (∀ p ∈ ps, W.sameAt W' p) → DataW.TrodAll enc P W' b sp hd ts vs ds ps
  | [], [], [], _, h, _ => h
  | _ :: _, _ :: _, _ :: _, _, ⟨_, _, ⟨n, hn⟩, h2, e⟩, hs =>
    ⟨_, _, ⟨n, DataW.trod_carry n _ _ _ hn (fun x hx => hs x (by rw [e]; exact List.mem_append_left _ hx))⟩, carryAll h2 (fun x hx => hs x (by rw [e]; exact List.mem_append_right _ hx)), e⟩
theorem int_at {fs : Array Field} {t : TypeId} {m : Nat} {cs : List Value} {x : DataW H × List MemPlace} (ht : Tryz.prog.underlying t = some (.struct fs)) (h : DataW.trod enc Tryz.prog W b sp hd m t cs = some x) (j : Nat) {f : Field}
    (hf : fs[j]? = some f) (h3 : f.type = 3) : ∃ n : Int, cs[f.offset]? = some (.int .i64 n) ∧ (Lit.int .i64 n).wf = true := by
  obtain ⟨xs, n, _, _, _, hxl, hfld⟩ := DataW.trod_struct ht h
  have hj : j < fs.size := (Array.getElem?_eq_some_iff.1 hf).1
  have h1 := hfld j f hf
  rw [List.getElem?_eq_getElem (by omega), h3] at h1
  obtain ⟨n, hn, _, hw⟩ := DataW.trod_int Tryz.underlying3 h1
  rw [cells3] at hn
  refine ⟨n, ?_, hw⟩
  have : ((cs.drop f.offset).take 1)[0]? = some (.int .i64 n) := by rw [hn]; rfl
  simpa using this
theorem post_true {f : Func} {s : ChangeSpec} {fresh handsOn again : Bool} {args : Array Value} {ds : List (DataW H)} {before : List MemPlace}
    (hW : DataW.Whole enc Tryz.prog f.params.toList s.vars false W args.toList ds [] before) (hA : DataW.TrodAll enc Tryz.prog W 0 (fun _ => true) true f.params.toList args.toList ds before)
    (hb : Below W.heap.size W W') (hv : s.vars = []) (hp : ∀ t ∈ f.params.toList, t < Tryz.prog.types.size) (hr : f.resultTypes = #[4]) (hfn : s.fn H ds = { results := [.lit (.bool true)], args := ds }) :
    s.post enc Tryz.prog f false fresh handsOn again W args (.bool true) W' := by
  have hold : ∀ p ∈ before, (fun b => decide (b < W.heap.size)) p.block = true := fun p hp => by simpa using hW.lt p hp
  have hT : ∀ sp : Nat → Bool, (∀ p ∈ before, sp p.block = true) → DataW.TrodAll enc Tryz.prog W' 0 sp true f.params.toList args.toList ds before :=
    fun sp hsp => carryAll (DataW.TrodAll.respare kids full hp hA hsp) (fun p hp => hb.same (hW.lt p hp))
  have hRes : ∀ (b : Nat) (sp : Nat → Bool) (hd : Bool), DataW.TrodAll enc Tryz.prog W' b sp hd f.resultTypes.toList ((Value.bool true).resultList f.resultTypes.size) [DataW.lit (.bool true)] [] := by
    intro b sp hd
    rw [hr]
    exact trodAll_cons_mk (shut_bool Tryz.underlying4 _) trodAll_mk0
  have hVar : ∀ sp, DataW.TrodVars enc Tryz.prog W' sp s.vars ([] : List (DataW H)) [] := fun sp => by rw [hv]; rfl
  have hlt := hW.lt
  have hfn' : s.fn H (ds ++ []) = { results := [.lit (.bool true)], args := ds } := by rw [List.append_nil]; exact hfn
  have hR : ∀ (b : Nat) (sp : Nat → Bool) (hd : Bool), DataW.TrodAll enc Tryz.prog W' b sp hd f.resultTypes.toList ((Value.bool true).resultList f.resultTypes.size) (s.fn H (ds ++ [])).results [] := by
    rw [hfn']; exact hRes
  have hAr : ∀ sp : Nat → Bool, (∀ p ∈ before, sp p.block = true) → DataW.TrodAll enc Tryz.prog W' 0 sp true f.params.toList args.toList (s.fn H (ds ++ [])).args before := by
    rw [hfn']; exact hT
  have hVr : ∀ sp, DataW.TrodVars enc Tryz.prog W' sp s.vars (s.fn H (ds ++ [])).vars [] := by
    rw [hfn']; exact hVar
  refine ⟨ds, [], before, [], before, [], hW, hR _ _ _, hAr _ hold, hVr _, World.keptBut_mono (fun p hp => ⟨hp, ?_⟩) (hb.frame (· ∈ before)), fun _ => ?_⟩
  · exact Or.inr (Or.inl hp)
  · obtain ⟨_, _, _, _, hq, hz, hn⟩ := hW
    refine ⟨ok_one (by rw [hr]) rfl (okWide_bool_mk Tryz.underlying4 _), _, _, ([] ++ before) ++ [], ⟨[] ++ before, [], trodAll_append (hAr _ (fun _ _ => rfl)) (hR _ _ _), hVr _, rfl, ?_, ?_⟩, ?_⟩
    · intro b off hp
      have hp : MemPlace.cell b off ∈ before := by simpa using hp
      rw [hb.frozen (p := ⟨b, off, none⟩) (hlt _ hp)]
      exact hz b off hp
    · intro ha
      simpa using hn ha
    · intro p hp _
      simpa using hp
end
end
section
open Go Go.ChangeShapes Go.WideShapes Go.ChangeAt Go.RowKit
theorem cells137 : Tryz.prog.cellsOf 137 = 4 := by kernel_rfl
section
variable {H : Type} {enc : TypeId × Value → H} {W : World} {b : Nat} {sp : Nat → Bool} {hd : Bool}
theorem scr_of {a : Option Addr} {len cap : Nat} {d : DataW H} {ps : List MemPlace} (h : DataW.Trod enc Tryz.prog W b sp hd 66 (.slice a len cap) d ps) : Scr W ⟨a, len, cap⟩ := by
  obtain ⟨fuel, hf⟩ := h
  rcases DataW.trod_slice Tryz.underlying66 hf with ⟨hcs, _⟩ | ⟨a', len', cap', elems, rest, n, _, hcs, _, _, _, _, hlen, hel, _, _⟩
  · simp [Value.cells] at hcs
    obtain ⟨rfl, rfl, rfl⟩ := hcs
    intro i hi
    exact absurd hi (Nat.not_lt_zero i)
  · simp [Value.cells] at hcs
    obtain ⟨rfl, rfl, rfl⟩ := hcs
    intro i hi
    refine ⟨a', rfl, ?_⟩
    have hi' : i < len := hi
    have h := hel i hi'
    rw [List.getElem?_eq_getElem (by omega), cells137] at h
    obtain ⟨cs, hc, hd⟩ := Option.bind_eq_some_iff.1 h
    obtain ⟨_, hl, hcell⟩ := World.cells?_some hc
    obtain ⟨n0, e0, _⟩ := int_at Tryz.underlying137 hd 0 rfl rfl
    obtain ⟨n1, e1, _⟩ := int_at Tryz.underlying137 hd 1 rfl rfl
    obtain ⟨n2, e2, _⟩ := int_at Tryz.underlying137 hd 2 rfl rfl
    obtain ⟨n3, e3, _⟩ := int_at Tryz.underlying137 hd 3 rfl rfl
    exact ⟨n0, n1, n2, n3, (hcell 0 (by omega)).trans e0, (hcell 1 (by omega)).trans e1, (hcell 2 (by omega)).trans e2, (hcell 3 (by omega)).trans e3⟩
theorem sat_none : Sat W emp W := ⟨⟨fun _ => none, rfl, fun _ _ h => by cases h⟩, Below.refl _ _⟩
end
end
section
open Go Go.ChangeShapes Go.WideShapes Go.ChangeAt Go.RowKit
section
variable {H : Type} {enc : TypeId × Value → H} {W : World} {b : Nat} {sp : Nat → Bool} {hd : Bool}
theorem two_of {W0 : World} {base : Nat} {v : Value} {d : DataW H} {ps : List MemPlace} (hval : Value.okWide Tryz.prog W0 .any base 107 v) (h : DataW.Trod enc Tryz.prog W b sp hd 107 v d ps) :
    ∃ p0 p1 : Int, v = .agg #[.int .u8 p0, .int .u8 p1] ∧ (0 ≤ p0 ∧ p0 ≤ 255) ∧ (0 ≤ p1 ∧ p1 ≤ 255) := by
  have hu : Tryz.prog.underlying 107 = some (.array 2 5) := by kernel_rfl
  have he : Tryz.prog.underlying 5 = some (.int .u8) := by kernel_rfl
  have hc : Tryz.prog.cellsOf 107 = 2 := by kernel_rfl
  have hce : Tryz.prog.cellsOf 5 = 1 := by kernel_rfl
  simp only [Value.okWide, hu] at hval
  obtain ⟨cs, rfl, hn, _⟩ := hval
  obtain ⟨fuel, hf⟩ := h
  obtain ⟨xs, m, rfl, _, _, hxl, hel⟩ := DataW.trod_array hu hf
  rw [hc] at hn
  obtain ⟨l⟩ := cs
  match l, hn with
  | [x, y], _ =>
    have e0 := hel 0 (by omega)
    have e1 := hel 1 (by omega)
    rw [List.getElem?_eq_getElem (by omega), hce] at e0 e1
    obtain ⟨n0, hn0, _, w0⟩ := DataW.trod_int he e0
    obtain ⟨n1, hn1, _, w1⟩ := DataW.trod_int he e1
    refine ⟨n0, n1, ?_, bounds_u8 w0, bounds_u8 w1⟩
    have h0 : [x] = [Value.int .u8 n0] := hn0
    have h1 : [y] = [Value.int .u8 n1] := hn1
    simp only [List.cons.injEq, and_true] at h0 h1
    rw [h0, h1]
theorem finds {x0 : Sl} {p0 p1 x2 : Int} (h0 : 0 ≤ p0) (h1 : p0 ≤ 255) (h2 : 0 ≤ p1) (h3 : 0 ≤ x2) (h4 : x2 < 65536) (hs : Scr W x0) :
    Calls Tryz.prog 8 #[x0.v, .agg #[.int .u8 p0, .int .u8 p1], .int .u16 x2] W fun e w' => e = .returned (.bool true) ∧ Below W.heap.size W w' := by
  have h : c_law28_CheckFinds x0 [.int .u8 p0, .int .u8 p1] x2 (fun b w' => b = true ∧ Below W.heap.size W w') W :=
    CheckFinds_c (B := W) (R := emp) h0 h1 h2 h3 h4 hs (kk := fun b w' => b = true ∧ Below W.heap.size W w') (fun w hw => ⟨rfl, hw.2⟩) W sat_none
  refine Calls.mono h fun e w' ⟨x, he, hx, hb⟩ => ⟨?_, hb⟩
  rw [he, hx]
end
theorem finds_contract (H : Type) (enc : TypeId × Value → H) (W : World) (base : Nat) (args : Array Value) (ds gs : List (DataW H)) (before : List MemPlace)
    (hval : ∀ (j : Nat) t v, Tryz.f8.params[j]? = some t → args[j]? = some v → Value.okWide Tryz.prog W .any base t v)
    (hW : DataW.Whole enc Tryz.prog Tryz.f8.params.toList Rows.checkFindsSpec.vars false W args.toList ds gs before) :
    Calls Tryz.prog 8 args W fun e W' => ∃ v, e = .returned v ∧ Rows.checkFindsSpec.post enc Tryz.prog Tryz.f8 false true false false W args v W' := by
  have hW' := hW
  obtain ⟨p, q, hA0, hV, rfl, hfz, hnd⟩ := hW
  have hA : DataW.TrodAll enc Tryz.prog W 0 (fun _ => true) true Tryz.f8.params.toList args.toList ds p := hA0
  have hAk := hA
  rw [Tryz.params8] at hA hval
  obtain ⟨v0, v1, v2, d0, d1, d2, p0, p1, p2, rfl, rfl, rfl, h0, h1, h2⟩ := trodAll_three hA
  obtain ⟨rfl, rfl⟩ := trodVars_none hV
  obtain ⟨a, len, cap, rfl⟩ := okWide_slice Tryz.underlying66 (hval 0 66 v0 (by simp) (by simp))
  obtain ⟨q0, q1, rfl, hq0, hq1⟩ := two_of (hval 1 107 v1 (by simp) (by simp)) h1
  obtain ⟨a2, rfl, rfl, rfl, w2⟩ := open_int (show Tryz.prog.underlying 108 = some (.int .u16) by kernel_rfl) (hval 2 108 v2 (by simp) (by simp)) h2
  have hb := bounds_u16 w2
  simp only [List.append_nil] at hW' hAk
  refine (finds (x0 := ⟨a, len, cap⟩) hq0.1 hq0.2 hq1.1 hb.1 (by omega) (scr_of h0)).mono fun e W' ⟨he, hg⟩ => ?_
  subst he
  exact ⟨_, rfl, post_true hW' hAk hg rfl (by rw [Tryz.params8]; decide) (by kernel_rfl) rfl⟩
set_option maxRecDepth 100000 in
theorem finds_lifted (os : Os) (started : os.Started) (H : Type) (enc : TypeId × Value → H) :
    ReturnsInHanded {} Tryz.checked os 8 .any (Rows.checkFindsSpec.pre6 enc Tryz.prog Tryz.f8 Rows.checkFindsRow.domain false) (Rows.checkFindsSpec.post enc Tryz.prog Tryz.f8 false true false false) := by
  refine returnsInHanded_of_change (C := Tryz.checked) own started (by kernel_rfl) Tryz.func8
    (ChangeSpec.witness6 (enc := enc) (C := Tryz.checked) false ⟨#[], #[.slice none 0 0, .agg #[.int .u8 0, .int .u8 0], .int .u16 0], []⟩ 8 (by kernel_rfl) (by kernel_rfl) (by kernel_rfl) (by kernel_rfl)) ?_
  intro W base args ds gs before hval hW _ _
  exact finds_contract H enc W base args ds gs before hval hW
theorem findsSaid : Rows.CheckFindsSaid :=
  OpenClaim.holds_of_wide 8 Tryz.f8 rfl rfl rfl rfl rfl rfl rfl ⟨rfl, rfl, rfl, rfl, rfl⟩ rfl rfl rfl rfl rfl (by kernel_rfl) Tryz.func8 (by kernel_rfl)
    (of_decide_eq_true (by kernel_rfl)) (by unfold Func.isWrapper; first | (rw [if_pos (by decide +kernel)]; kernel_rfl) | (rw [if_neg (by decide +kernel)]; exact ⟨rfl, rfl⟩))
    (fun os started H enc _ => finds_lifted os started H enc)
#print axioms findsSaid
end
end Go.Proofs.YtdgcbapclnnkkaaGreat.X
