/- Part 5 of the proof that the law holds for every input: the theorems of this part. Conditions: each theorem bears its own; the last has none. -/
import Derived.Test.YtdgcbapclnnkkaaGreatKd
import Derived.Shelf.Sort.Plain
import Derived.Shelf.SlSortCmp.WholeK
import Derived.Shelf.SlSortCmp.NoneTotal
import Derived.Shelf.Slices.In.SortNone
import Derived.Ground.SlsfProg
import Derived.Test.YtdgcbapclnnkkaaGreatProg
set_option linter.all false
set_option maxRecDepth 4000
namespace Go.Proofs.YtdgcbapclnnkkaaGreat.X
open Go
theorem runH_cons {n : Nat} (h : 1 ≤ n) : runH n = (2, 0, (n : Int)) :: (runH n).drop 1 := by
  have h0 := runH_get n (i := 0) (by omega)
  rw [if_pos rfl] at h0
  have hl := runH_len n
  match hr : runH n, hl with
  | [], hl => simp at hl; omega
  | x :: xs, _ => rw [hr] at h0; simp only [List.getElem?_cons_zero, Option.some.injEq] at h0; rw [h0]; rfl
theorem runH_right {n : Nat} (h : n < 256) : ∀ x ∈ runH n, hRight x ∧ x.1 ≠ 0 := by
  intro x hx
  obtain ⟨i, hi, rfl⟩ := List.mem_iff_getElem.1 hx
  rw [runH_len] at hi
  have := runH_get n hi
  rw [List.getElem?_eq_getElem (by rw [runH_len]; exact hi)] at this
  simp only [Option.some.injEq] at this
  rw [this]
  split
  · refine ⟨.inr (.inr ⟨.inl rfl, rfl, ?_, ?_⟩), by simp⟩ <;> simp only <;> omega
  · refine ⟨.inr (.inr ⟨.inr rfl, rfl, ?_, ?_⟩), by simp⟩ <;> simp only <;> omega
section
variable {B : World} {P R : SL} {t : K}
theorem bman_Large_c {m d n g : Nat} {hs : List Hd} {F : RF} {c : List Int} {nn : Nat} (hn : n = 64 * g) (hnn : 1 ≤ nn ∧ nn < 256) {k : Int × Int → K}
    (h0 : (∀ s q, F s = some q → q < nn) → T B (R * LDx d n c * Mg m d g hs F) (k (0, 4)))
    (h1 : ∀ (b : Nat) (q : Int), F b = some q → nn ≤ q → (∀ s q', F s = some q' → nn ≤ q' → q < q' ∨ q = q' ∧ (b : Int) ≤ s) → 1 ≤ b → b + nn ≤ g →
      T B (R * LDx d n (wrH c b (runH nn)) * Mg m d g (splice hs b (runH nn)) (takeF F b nn q)) (k (b, 0))) :
    T B (R * LDx d n c * Mg m d g hs F) (c_bman_Manager_Large (da m) nn k) := by
  refine T_of (bman_Manager_Large_ok _ nn k) ?_
  refine Mg_open fun a x ok => ?_
  unfold da
  (repeat' (first | with_reducible refine T_nn ?_ | with_reducible refine T_brT ?_ | ((with_reducible apply T_ldP); (focus rfl); (focus exact hasA); (focus rfl)) | with_reducible refine T_brD (fun _ => ?_) (fun _ => ?_)))
  · exfalso; omega
  · exfalso; omega
  refine T_bring (X := LDx d n c) (.init (.init (.init .last))) ?_
  refine LDx_open fun la hla => ?_
  refine T_bring (X := Idx x g F) (.init (.init .last)) ?_
  have hg := ok.big
  have hg2 := ok.two
  have hl := ok.len
  refine runs_Take_c ok.ok (by omega) (fun hno => ?_) (fun s q hs1 hs2 hs3 => ?_)
  · (repeat' (with_reducible refine T_brNE (fun _ => ?_) (fun _ => ?_)))
    · exact T.perm (by unfold da; ac_rfl) (Mgd_close (la := la) (a := a) (x := x) (R := R) hla ok (h0 hno))
    · rename_i h; exact absurd h (by decide)
  · obtain ⟨b, rfl, r1, r2, r3⟩ := ok.fr_of hs1
    have hk := h1 b q hs1 hs2 hs3 r1 (by omega)
    have ok' := ok.take (b := b) (xs := runH nn) hs1 (by rw [runH_len]; omega) (by rw [runH_len]; omega) (fun x hx => (runH_right (by omega) x hx).2)
    rw [runH_len] at ok'
    have hrl := runH_len nn
    (repeat' (with_reducible refine T_brNE (fun _ => ?_) (fun _ => ?_)))
    · rename_i h; exact absurd rfl h
    refine bhead_Run_c (by omega) fun s => ?_
    -- the first one's header, behind the others'
    have fin : ∀ c1 la1 hs1, HLs n c1 la1 → hs1.length = g → wrH c1 b [(2, 0, (nn : Int))] = wrH c b (runH nn) → splice hs1 b [(2, 0, (nn : Int))] = splice hs b (runH nn) →
        T B (R * Tab a d g hs1 * pt m (.cells [.pointer (da a), .pointer (da x), .int .i64 g].toArray 51) * LDev d n c1 la1 * Idx x g (takeF F b nn q) * vec 143 3 s (hds (runH nn))) (ixS s.p s.n 0 3 fun x51 => ldI .i64 (x51.add 0) fun x52_0 => ldI .i64 (x51.add 1) fun x52_1 => ldI .i64 (x51.add 2) fun x52_2 =>
          alK (.cells #[.int .i64 x52_0, .int .i64 x52_1, .int .i64 x52_2] 143) fun b_1 => c_blocks_Table_Put (da a) b ⟨some ⟨b_1, 0, none⟩, 1, 1⟩ fun x54 => Zdv3 k b x54) := by
      intro c1 la1 hs1 hla1 e1 e2 e3
      refine T_ixH (l := runH nn) (Rd.vec (E := 143) (s := s) .last) (by omega) (by simp [hrl]; omega) fun y hy => ?_
      have e0 : (runH nn)[(0 : Int).toNat]'(by simp [hrl]; omega) = (2, 0, (nn : Int)) := by
        have := runH_get nn (i := 0) (by omega)
        rw [List.getElem?_eq_getElem (by omega)] at this
        simpa using this
      rw [e0] at hy
      refine T_ldAt hy rfl ?_
      refine T_ldAt hy rfl ?_
      refine T_ldAt hy rfl ?_
      (repeat ((with_reducible refine T_al ?_; intro _)))
      rename_i b1
      refine T_drop1 (.init .last) ?_
      refine T_bring (X := LDev d n c1 la1) (.init (.init .last)) ?_
      refine T_bring (X := Tab a d g hs1) (.init (.init (.init (.init .last)))) ?_
      refine blocks_Put_c (xs := [(2, 0, (nn : Int))]) ok.two ok.big hn e1 r1 (by simp; omega) (by simp) (fun h hh => by simp only [List.mem_singleton] at hh; subst hh; refine .inr (.inr ⟨.inl rfl, rfl, ?_, ?_⟩) <;> simp only <;> omega) (Rd.one (n := 1) (c := 1) (l := [.int .i64 2, .int .i64 0, .int .i64 nn]) (by exact hasA) rfl (by omega)) fun la' hp => ?_
      rw [e2, e3]
      (repeat' (with_reducible refine T_brNE (fun _ => ?_) (fun _ => ?_)))
      · rename_i h; exact absurd rfl h
      refine T_drop1 (.init (.init .last)) ?_
      exact T.perm (by unfold da; ac_rfl) (Mgd_close (la := la') (a := a) (x := x) (R := R) (e2 ▸ hla1.put hn hp) ok' hk)
    (repeat' (first | with_reducible refine T_nn ?_ | with_reducible refine T_tick ?_ | ((with_reducible apply T_ldP); (focus rfl); (focus exact hasA); (focus rfl)) | with_reducible refine T_brD (fun _ => ?_) (fun _ => ?_)))
    · rename_i hgt
      refine T_vlen (E := 143) (sz := 3) (s := s) (vs := hds (runH nn)) .last fun hsn => ?_
      rw [hds_len, hrl] at hsn
      have hsn' : s.n = nn := by omega
      refine T_lo (n := 1) (by omega) (by omega) ?_
      have ew : IntKind.wrap .i64 ((b : Int) + 1) = ((b + 1 : Nat) : Int) := by rw [w64 (by omega) (by omega)]; omega
      rw [ew]
      refine T_bring (X := LDev d n c la) (.init (.init .last)) ?_
      refine T_bring (X := Tab a d g hs) (.init (.init (.init (.init .last)))) ?_
      have hdl : ((runH nn).drop 1).length = nn - 1 := by simp [hrl]
      have hpc : Rd (R * pt m (.cells [.pointer (da a), .pointer (da x), .int .i64 g].toArray 51) * Idx x g (takeF F b nn q) * vec 143 3 s (hds (runH nn))) ⟨cutP s.p (1 : Int).toNat s.c 3, s.n - (1 : Int).toNat, s.c - (1 : Int).toNat⟩ 3 (hds ((runH nn).drop 1)) := by
        have := (Rd.vec (E := 143) (sz := 3) (s := s) (vs := hds (runH nn)) (P := R * pt m (.cells [.pointer (da a), .pointer (da x), .int .i64 g].toArray 51) * Idx x g (takeF F b nn q) * vec 143 3 s (hds (runH nn))) .last).piece (y := ⟨cutP s.p (1 : Int).toNat s.c 3, s.n - (1 : Int).toNat, s.c - (1 : Int).toNat⟩) (o := 1) (n := nn - 1) (by omega) (by rw [hds_len, hrl]; omega) rfl (by simp only; omega) rfl
        have e : cut (hds (runH nn)) (1 * 3) ((nn - 1) * 3) = hds ((runH nn).drop 1) := by
          unfold cut
          rw [hds_drop, hds_take, List.take_of_length_le (by omega)]
        rw [e] at this; exact this
      refine blocks_Put_c (xs := (runH nn).drop 1) ok.two ok.big hn hl (by omega) (by omega) (fun h => by rw [h] at hdl; simp at hdl; omega) (fun h hh => (runH_right hnn.2 h (List.mem_of_mem_drop hh)).1) hpc fun la' hp => ?_
      (repeat' (first | with_reducible refine T_nn ?_ | with_reducible refine T_tick ?_ | ((with_reducible apply T_ldP); (focus rfl); (focus exact hasA); (focus rfl)) | with_reducible refine T_brNE (fun _ => ?_) (fun _ => ?_)))
      · rename_i h; exact absurd rfl h
      have e1 : (splice hs (b + 1) ((runH nn).drop 1)).length = g := by rw [splice_length (by omega)]; exact hl
      have := fin (wrH c (b + 1) ((runH nn).drop 1)) la' (splice hs (b + 1) ((runH nn).drop 1)) (hla.put hn hp) e1 (by rw [wrH_two, ← runH_cons hnn.1]) (by rw [splice_two' (by omega), ← runH_cons hnn.1])
      refine T.perm ?_ this
      unfold da; ac_rfl
    · rename_i hle
      have h1n : nn = 1 := by omega
      have hd : (runH nn).drop 1 = [] := by rw [List.drop_eq_nil_iff]; omega
      have e : runH nn = [(2, 0, (nn : Int))] := by rw [runH_cons hnn.1, hd]
      exact fin c la hs hla hl (by rw [e]) (by rw [e])
end
/-- what may be given back: a block of small objects, or a large one whole -/
def Rel (hs : List Hd) (b n : Nat) : Prop := ((hs.getD b (0, 0, 0)).1 = 1 ∧ n = 1 ∧ b < hs.length) ∨ WholeP hs b n
theorem Rel.rng {hs : List Hd} {b n : Nat} (h : Rel hs b n) : 1 ≤ n ∧ b + n ≤ hs.length := by
  rcases h with ⟨_, h1, h2⟩ | h
  · omega
  · exact ⟨h.1, h.2.1⟩
theorem Rel.kind {hs : List Hd} {b n i : Nat} (h : Rel hs b n) (hi : i < n) : (hs.getD (b + i) (0, 0, 0)).1 ≠ 0 := by
  rcases h with ⟨h0, h1, h2⟩ | h
  · have : i = 0 := by omega
    subst this; rw [Nat.add_zero, h0]; omega
  · by_cases e : i = 0
    · subst e; rw [Nat.add_zero, h.2.2.1]; omega
    · rw [h.2.2.2.2 i (by omega) hi]; simp
theorem spS_free {g : Nat} (h : 2 ≤ g) : spS (List.replicate g (0, 0, 0)) g = [(1, (g : Int) - 1)] := by
  have key : ∀ b : Nat, 1 ≤ b → b < g → spS (List.replicate g (0, 0, 0)) (b + 1) = [(1, (b : Int))] := by
    intro b hb hlt
    induction b with
    | zero => omega
    | succ b ih =>
      rw [spS_succ _ hb]
      have e : (List.replicate g ((0, 0, 0) : Hd)).getD (b + 1) (0, 0, 0) = (0, 0, 0) := by rw [List.getD_eq_getElem?_getD, List.getElem?_replicate]; split <;> rfl
      rw [e]
      by_cases h0 : b = 0
      · subst h0; rfl
      · rw [ih (by omega) (by omega)]
        unfold spStep
        rw [if_neg (by simp), if_pos (by simp; omega)]
        simp
  have := key (g - 1) (by omega) (by omega)
  rw [show g - 1 + 1 = g by omega] at this
  rw [this]
  congr 2; omega
section
variable {B : World} {P R : SL} {t : K}
theorem bman_Release_c {m d n g : Nat} {hs : List Hd} {F : RF} {c : List Int} {b nn : Nat} (hn : n = 64 * g) (hb : 1 ≤ b) (hr : Rel hs b nn) {k : Int → K}
    (hk : ∀ F', Tie g (splice hs b (List.replicate nn (0, 0, 0))) F' → T B (R * LDx d n (wrH c b (List.replicate nn (0, 0, 0))) * Mg m d g (splice hs b (List.replicate nn (0, 0, 0))) F') (k 0)) :
    T B (R * LDx d n c * Mg m d g hs F) (c_bman_Manager_Release (da m) b k) := by
  refine T_of (bman_Manager_Release_ok _ b k) ?_
  refine Mg_open fun a x ok => ?_
  have hg := ok.big
  have hg2 := ok.two
  have hl := ok.len
  have hrr := hr.rng
  have h0' : ∀ h ∈ List.replicate nn ((0, 0, 0) : Hd), hRight h := fun h hh => by rw [List.eq_of_mem_replicate hh]; exact .inl rfl
  unfold da
  (repeat' (first | with_reducible refine T_nn ?_ | ((with_reducible apply T_ldP); (focus rfl); (focus exact hasA); (focus rfl))))
  refine T_bring (X := LDx d n c) (.init (.init (.init .last))) ?_
  refine LDx_open fun la hla => ?_
  refine T_bring (X := Tab a d g hs) (.init (.init (.init .last))) ?_
  refine blocks_Get_c ?_
  rw [if_neg (by omega), Int.toNat_natCast]
  (repeat (first | ((with_reducible apply T_ldI); (focus rfl); (focus exact hasA); (focus rfl)) | (with_reducible refine T_al ?_; intro _) | ((with_reducible apply T_st); (focus rfl); (focus exact updA); (focus simp); simp only [List.set, Nat.zero_add, Nat.reduceAdd])))
  rename_i b2
  -- how many
  have key : T B (R * pt m (.cells [.pointer (da a), .pointer (da x), .int .i64 g].toArray 51) * Idx x g F * LDev d n c la * Tab a d g hs) (Zdg10 (some ⟨m, 0, none⟩) b k nn) := by
    unfold da
    (repeat (first | with_reducible refine T_nn ?_ | ((with_reducible apply T_ldP); (focus rfl); (focus exact hasA); (focus rfl)) | (with_reducible refine T_al ?_; intro _)))
    rename_i b1
    refine T_bring (X := LDev d n c la) (.init (.init .last)) ?_
    refine T_bring (X := Tab a d g hs) (.init (.init .last)) ?_
    refine blocks_Put_c (xs := [((0, 0, 0) : Hd)]) ok.two ok.big hn hl hb (by simp; omega) (by simp) (fun h hh => by simp only [List.mem_singleton] at hh; subst hh; exact .inl rfl) (Rd.one (n := 1) (c := 1) (l := [.int .i64 0, .int .i64 0, .int .i64 0]) (by exact hasA) rfl (by omega)) fun la' hp => ?_
    have giv : ∀ c1 la1 hs1, HLs n c1 la1 → wrH c b (List.replicate nn (0, 0, 0)) = c1 → splice hs b (List.replicate nn (0, 0, 0)) = hs1 → T B (R * pt m (.cells [.pointer (da a), .pointer (da x), .int .i64 g].toArray 51) * LDev d n c1 la1 * Tab a d g hs1 * Idx x g F) (c_runs_Index_Give (da x) b nn fun x55 => Zdg0 k x55) := by
      intro c1 la1 hs1 hla1 e1 e2
      subst e1 e2
      refine runs_Give_c ok.ok (by omega) (fun h => absurd ⟨by omega, by omega, by omega⟩ h) (fun _ _ _ h => ?_) (fun _ _ _ _ F' okF hF' => ?_)
      · exfalso
        obtain ⟨y, g1, g2, g3⟩ := h
        have := (ok.fr y).1 g3
        have h2 := hr.kind (i := y.toNat - b) (by omega)
        rw [show b + (y.toNat - b) = y.toNat by omega] at h2
        exact h2 this.2.2
      · have ok' := ok.give hb (by omega) okF hF'
        exact T.perm (by unfold da; ac_rfl) (Mgd_close (la := la1) (a := a) (x := x) (R := R) hla1 ok' (hk F' ok'))
    (repeat' (first | with_reducible refine T_nn ?_ | with_reducible refine T_tick ?_ | ((with_reducible apply T_ldP); (focus rfl); (focus exact hasA); (focus rfl)) | with_reducible refine T_brD (fun _ => ?_) (fun _ => ?_) | with_reducible refine T_brNE (fun _ => ?_) (fun _ => ?_)))
    · rename_i h; exact absurd rfl h
    · rename_i hgt
      have ew : IntKind.wrap .i64 ((nn : Int) - 1) = ((nn - 1 : Nat) : Int) := by rw [w64 (by omega) (by omega)]; omega
      have ew2 : IntKind.wrap .i64 ((b : Int) + 1) = ((b + 1 : Nat) : Int) := by rw [w64 (by omega) (by omega)]; omega
      refine T_drop1 (.init (.init .last)) ?_
      (dsimp only [bman_Manager_Release, Zdg0, Zdg1, Zdg2, Zdg3, Zdg4, Zdg5, Zdg6, Zdg7, Zdg8, Zdg9, Zdg10, Zdg11, Zdg12, Zdg13, Zdg14, Zdg15, Zdg16, Zdg17, Zdg18])
      rw [ew, ew2]
      refine T_mkV kd_hd (by omega) (by omega) (by omega) fun b3 => ?_
      rw [Int.toNat_natCast, repZ_hds]
      refine T_bring (X := LDev d n (wrH c b [(0, 0, 0)]) la') (.init (.init .last)) ?_
      refine T_bring (X := Tab a d g (splice hs b [(0, 0, 0)])) (.init (.init .last)) ?_
      have hl1 : (splice hs b [((0, 0, 0) : Hd)]).length = g := by rw [splice_length (by simp; omega)]; exact hl
      have erep : (0, 0, 0) :: List.replicate (nn - 1) ((0, 0, 0) : Hd) = List.replicate nn (0, 0, 0) := by rw [← List.replicate_succ]; congr 1; omega
      refine blocks_Put_c (xs := List.replicate (nn - 1) ((0, 0, 0) : Hd)) ok.two ok.big hn hl1 (by omega) (by simp; omega) (fun h => by have := congrArg List.length h; simp at this; omega) (fun h hh => by rw [List.eq_of_mem_replicate hh]; exact .inl rfl) (Rd.vec (E := 143) .last) fun la'' hp2 => ?_
      have h2 := giv (wrH (wrH c b [(0, 0, 0)]) (b + 1) (List.replicate (nn - 1) (0, 0, 0))) la'' (splice (splice hs b [(0, 0, 0)]) (b + 1) (List.replicate (nn - 1) (0, 0, 0))) ((hla.put hn hp).put hn hp2) (by rw [← erep]; rfl) (by rw [splice_two (by simp; omega), erep])
      (repeat' (first | with_reducible refine T_nn ?_ | ((with_reducible apply T_ldP); (focus rfl); (focus exact hasA); (focus rfl)) | with_reducible refine T_brNE (fun _ => ?_) (fun _ => ?_)))
      · rename_i h; exact absurd rfl h
      refine T_drop1 (.init (.init .last)) ?_
      exact T.perm (by unfold da; ac_rfl) h2
    · have h1n : nn = 1 := by omega
      have h2 := giv (wrH c b [(0, 0, 0)]) la' (splice hs b [(0, 0, 0)]) (hla.put hn hp) (by rw [h1n]; rfl) (by rw [h1n]; rfl)
      refine T_drop1 (.init (.init .last)) ?_
      exact T.perm (by unfold da; ac_rfl) h2
  (dsimp only [bman_Manager_Release, Zdg0, Zdg1, Zdg2, Zdg3, Zdg4, Zdg5, Zdg6, Zdg7, Zdg8, Zdg9, Zdg10, Zdg11, Zdg12, Zdg13, Zdg14, Zdg15, Zdg16, Zdg17, Zdg18] at key)
  rcases hr with ⟨q1, q2, q3⟩ | hw
  · rw [q1]
    subst q2
    skip
    (dsimp only [bman_Manager_Release, Zdg0, Zdg1, Zdg2, Zdg3, Zdg4, Zdg5, Zdg6, Zdg7, Zdg8, Zdg9, Zdg10, Zdg11, Zdg12, Zdg13, Zdg14, Zdg15, Zdg16, Zdg17, Zdg18])
    refine T_brE (fun _ => ?_) (fun h => absurd rfl h)
    refine T_drop1 .last ?_
    exact T.perm (by unfold da; ac_rfl) key
  · rw [hw.2.2.1, hw.2.2.2.1]
    skip
    (dsimp only [bman_Manager_Release, Zdg0, Zdg1, Zdg2, Zdg3, Zdg4, Zdg5, Zdg6, Zdg7, Zdg8, Zdg9, Zdg10, Zdg11, Zdg12, Zdg13, Zdg14, Zdg15, Zdg16, Zdg17, Zdg18])
    refine T_brE (fun h => absurd h (by decide)) (fun _ => ?_)
    refine T_brE (fun _ => ?_) (fun h => absurd rfl h)
    refine T_ldI (n := (nn : Int)) (by rw [add_mk]) .last rfl ?_
    refine T_drop1 .last ?_
    exact T.perm (by unfold da; ac_rfl) key
theorem bman_Sound_c {hs : List Hd} {x : Sl} (hl2 : hs.length ≤ 2 ^ 30) (hx : Rd P x 3 (hds hs)) (h0 : ∀ h ∈ hs, h.1 = 0 ∨ h.1 = 1) {k : Int × Bool → K} (hk : T B P (k (0, true))) : T B P (c_bman_Sound x k) := by
  refine T_of (bman_Sound_ok x k) ?_
  refine T_rdlen hx fun hxn => ?_
  rw [hds_len] at hxn
  have hxl : x.n = hs.length := by omega
  refine T_lpX (fun _ _ => P) (fun m (z : Int × Unit) => ∃ i : Nat, z.1 = i ∧ 1 ≤ i ∧ m = hs.length - i) (hs.length - 1) rfl ⟨1, rfl, by omega, rfl⟩ ?_
  rintro m ⟨z, u⟩ cc ⟨i, e1, e2, e3⟩ hc
  simp only at e1
  subst e1 e3
  (repeat' (with_reducible refine T_brD (fun _ => ?_) (fun _ => ?_)))
  · have hlt : i < hs.length := by omega
    refine T_ixH (l := hs) hx (by omega) (by rw [Int.toNat_natCast]; exact hlt) fun a ha => ?_
    simp only [Int.toNat_natCast] at ha
    have hki := h0 _ (List.getElem_mem hlt)
    refine T_ldAt ha rfl ?_
    (repeat' (with_reducible refine T_brE (fun _ => ?_) (fun _ => ?_)))
    · exfalso; omega
    · exfalso; omega
    · refine hc (hs.length - (i + 1)) _ (by omega) ⟨i + 1, w64 (by omega) (by omega), by omega, rfl⟩
  · exact hk
theorem bman_Open_c {d n g : Nat} {c : List Int} (hg : 2 ≤ g) (hg2 : g ≤ 2 ^ 20) (ht : Tells c (List.replicate g (0, 0, 0))) {k : Option Addr × Int → K}
    (hk : ∀ m F, T B (R * LDx d n c * Mg m d g (List.replicate g (0, 0, 0)) F) (k (da m, 0))) : T B (R * LDx d n c) (c_bman_Open (da d) g k) := by
  refine T_of (bman_Open_ok _ g k) ?_
  (repeat (first | ((with_reducible apply T_ldI); (focus rfl); (focus exact hasA); (focus rfl)) | (with_reducible refine T_al ?_; intro _)))
  refine T_bring (X := LDx d n c) (.init .last) ?_
  refine LDx_open fun la hla => ?_
  refine blocks_Open_c (by omega) hg2 (by simp) ht fun a => ?_
  (repeat' (with_reducible refine T_brNE (fun _ => ?_) (fun _ => ?_)))
  · rename_i h; exact absurd rfl h
  refine blocks_All_c (hs := List.replicate g (0, 0, 0)) (by simp; omega) fun s => ?_
  refine bman_Sound_c (hs := List.replicate g (0, 0, 0)) (by simp; omega) (Rd.vec (E := 143) (s := s) .last) (fun h hh => by rw [List.eq_of_mem_replicate hh]; exact .inl rfl) ?_
  (dsimp only [bman_Open, Zdn0, Zdn1, Zdn2, Zdn3, Zdn4, Zdn5, Zdn6, Zdn7, Zdn8, Zdn9, Zdn10, Zdn11, Zdn12, Zdn13])
  simp only [Bool.not_true]
  refine T_drop1 .last ?_
  (repeat (first | with_reducible refine T_tick ?_ | with_reducible refine T_brF ?_ | ((with_reducible apply T_ldI); (focus rfl); (focus exact hasA); (focus rfl))))
  refine blocks_TSpans_c (hs := List.replicate g (0, 0, 0)) (by simp; omega) (by simp; omega) fun s2 => ?_
  (repeat (first | with_reducible refine T_chk0 ?_ | ((with_reducible apply T_chk); (focus rfl); (focus exact hasA); (focus rfl))))
  rw [List.length_replicate, spS_free hg]
  refine runs_Fill_c (l := [(1, (g : Int) - 1)]) (by omega) (by omega) (Rd.vec (E := 152) (s := s2) .last) (by simp) (fun p hp => by simp only [List.mem_singleton] at hp; subst hp; simp only; omega)
    (fun i j p q hij hi hj => by
      have h1 := (List.getElem?_eq_some_iff.1 hj).1
      simp at h1; omega) fun x F ok hF => ?_
  (repeat' (first | ((with_reducible apply T_ldI); (focus rfl); (focus exact hasA); (focus rfl)) | (with_reducible refine T_al ?_; intro _) | with_reducible refine T_brNE (fun _ => ?_) (fun _ => ?_)))
  · rename_i h; exact absurd rfl h
  rename_i m
  have tie : Tie g (List.replicate g (0, 0, 0)) F := ⟨ok, by simp, hg, fun y => by
    rw [hF]
    have : (List.replicate g ((0, 0, 0) : Hd)).getD y.toNat (0, 0, 0) = (0, 0, 0) := by rw [List.getD_eq_getElem?_getD, List.getElem?_replicate]; split <;> rfl
    rw [this]
    simp only [List.mem_singleton, exists_eq_left]
    constructor
    · intro h; exact ⟨by omega, by omega, trivial⟩
    · intro h; exact ⟨by omega, by omega⟩⟩
  refine T_drop1 (.init (.init .last)) ?_
  refine T_drop1 (.init (.init (.init (.init .last)))) ?_
  exact T.perm (by ac_rfl) (Mgd_close (la := la) (a := a) (x := x) (R := R) hla tie (hk m F))
end
abbrev SlotK := Int × Int
def eslot (p : SlotK) : Value := .agg #[.int .i64 p.1, .int .i64 p.2]
def esl (s : Sl) : Value := s.v
def nilS : Sl := ⟨none, 0, 0⟩
theorem kd_slot : KeyD (α := SlotK) Tryz.prog 197 201 27 eslot := by
  refine ⟨by kernel_rfl, fun a b => ?_, fun a => by kernel_rfl, fun a b h => ?_, fun a => ?_⟩
  · have : keyEq Tryz.prog 201 (eslot a) (eslot b) = some ((a.1 == b.1) && ((a.2 == b.2) && true)) := by kernel_rfl
    rw [this, Bool.and_true]
    congr 1
    rw [Bool.eq_iff_iff]
    simp only [Bool.and_eq_true, beq_iff_eq, decide_eq_true_eq]
    exact ⟨fun h => Prod.ext h.1 h.2, fun h => by rw [h]; exact ⟨rfl, rfl⟩⟩
  · unfold eslot at h
    simp only [Value.agg.injEq, Array.mk.injEq, List.cons.injEq, Value.int.injEq, true_and, and_true] at h
    exact Prod.ext h.1 h.2
  · show ((2 : Nat) == 2 && _) = true
    simp [Instr.sameBits]
def ix (m k : Nat) : Nat := 32 + (32 * m + k)
structure FlOk (S : Nat → Sl) (cs : SlotK → Option Sl) : Prop where
  eq : ∀ m k : Nat, m < 4 → k < 32 → (cs ((m : Int), (k : Int))).getD nilS = S (ix m k)
def vI (S : Nat → Sl) (L : Nat → List Int) (i : Nat) : SL := vec 3 1 (S i) (ints (L i))
def glob (S : Nat → Sl) : List Value := (List.range 32).map fun k => (S k).v
def Fl (a : Nat) (L : Nat → List Int) : SL := ex fun q : (Nat → Sl) × (SlotK → Option Sl) × Nat => pt a (.cells (glob q.1 ++ [Value.map (some q.2.2)]).toArray 199) * MpF eslot esl q.2.2 q.2.1 * bigS 160 (vI q.1 L) * pu (FlOk q.1 q.2.1)
def setN {α : Type} (f : Nat → α) (i : Nat) (x : α) : Nat → α := fun j => if j = i then x else f j
theorem setN_same {α : Type} (f : Nat → α) (i : Nat) (x : α) : setN f i x i = x := if_pos rfl
theorem setN_ne {α : Type} (f : Nat → α) {i j : Nat} (x : α) (h : j ≠ i) : setN f i x j = f j := if_neg h
theorem glob_len (S : Nat → Sl) : (glob S).length = 32 := by simp [glob]
theorem glob_at (S : Nat → Sl) (t : List Value) {k : Nat} (h : k < 32) : (glob S ++ t)[k]? = some (S k).v := by
  rw [List.getElem?_append_left (by rw [glob_len]; exact h)]
  simp [glob, h]
theorem glob_map (S : Nat → Sl) (v : Value) : (glob S ++ [v])[32]? = some v := by
  rw [List.getElem?_append_right (by rw [glob_len]; omega), glob_len]; rfl
theorem glob_set (S : Nat → Sl) (t : List Value) {k : Nat} (h : k < 32) (s : Sl) : (glob S ++ t).set k s.v = glob (setN S k s) ++ t := by
  rw [List.set_append_left _ _ (by rw [glob_len]; exact h)]
  congr 1
  apply List.ext_getElem?
  intro i
  rw [List.getElem?_set, glob_len]
  simp only [glob, List.getElem?_map, List.getElem?_range, List.length_map, List.length_range]
  by_cases e : k = i
  · subst e
    rw [if_pos rfl, if_pos h, List.getElem?_range h]; simp [setN]
  · rw [if_neg e]
    by_cases h2 : i < 32
    · rw [List.getElem?_range h2]; simp [setN, Ne.symm e]
    · rw [List.getElem?_eq_none (by simp; omega)]; rfl
theorem glob_setN (S : Nat → Sl) {k : Nat} (h : 32 ≤ k) (s : Sl) : glob (setN S k s) = glob S := by
  unfold glob
  refine List.map_congr_left fun i hi => ?_
  rw [setN_ne]
  have := List.mem_range.1 hi; omega
section
variable {B : World} {P R : SL} {t : K}
theorem clone_int_c {s : Sl} {l : List Int} (hl : l.length ≤ 2 ^ 39) (h : Rd R s 1 (ints l)) {k : Sl → K} (hk : ∀ s', T B (R * vec 3 1 s' (ints l)) (k s')) : T B R (c_slices_Clone_Sint_int s k) := by
  refine T_of (slices_Clone_Sint_int_ok s k) ?_
  refine T_rdlen h fun hn => ?_
  rw [ints_len, Nat.mul_one] at hn
  refine T_rdp h fun hp => ?_
  refine T_br (fun e => ?_) (fun e => ?_)
  · have hl0 : ints l = [] := hp (by simpa using e)
    rw [hl0] at hk
    exact T_vecN rfl rfl (hk ⟨none, 0, 0⟩)
  · (repeat ((with_reducible refine T_al ?_; intro _)))
    rename_i b
    refine T_vecN (E := 3) (sz := 1) (s := ⟨some ⟨b, 0, none⟩, 0, 0⟩) rfl rfl ?_
    refine T_append (s := ⟨some ⟨b, 0, none⟩, 0, 0⟩) kd_int h.init (ints_scal l) (by simp; omega) fun s' => ?_
    exact T_dropM (hk s')
theorem Fl_open {a : Nat} {L : Nat → List Int} (h : ∀ S cs r, FlOk S cs → T B (R * MpF eslot esl r cs * bigS 160 (vI S L) * pt a (.cells (glob S ++ [Value.map (some r)]).toArray 199)) t) : T B (R * Fl a L) t := by
  refine T_ex fun q => ?_
  rw [← sep_assoc]
  refine T_pu fun ok => T.perm ?_ (h q.1 q.2.1 q.2.2 ok)
  ac_rfl
theorem Fl_close {a r : Nat} {L : Nat → List Int} {S : Nat → Sl} {cs : SlotK → Option Sl} (ok : FlOk S cs) (h : T B (R * Fl a L) t) : T B (R * MpF eslot esl r cs * bigS 160 (vI S L) * pt a (.cells (glob S ++ [Value.map (some r)]).toArray 199)) t := by
  have h2 := T_exI (B := B) (R := R) (t := t) (X := fun q : (Nat → Sl) × (SlotK → Option Sl) × Nat => pt a (.cells (glob q.1 ++ [Value.map (some q.2.2)]).toArray 199) * MpF eslot esl q.2.2 q.2.1 * bigS 160 (vI q.1 L) * pu (FlOk q.1 q.2.1)) (S, cs, r) h
  rw [← sep_assoc] at h2
  refine T.perm ?_ (T_puI ok h2)
  ac_rfl
theorem vec_nilI (R : SL) (h : T B (R * vec 3 1 nilS (ints [])) t) : T B R t := T_vecN (s := nilS) rfl rfl h
theorem big_nil (n : Nat) (h : T B (R * bigS n (vI (fun _ => nilS) (fun _ => []))) t) : T B R t := by
  induction n generalizing t R with
  | zero => rw [show bigS 0 (vI (fun _ => nilS) (fun _ => [])) = emp from rfl, sep_emp] at h; exact h
  | succ n ih =>
    refine ih (R := R) ?_
    refine vec_nilI _ ?_
    rw [sep_assoc]
    exact h
theorem free_New_c {k : Option Addr → K} (hk : ∀ a, T B (R * Fl a (fun _ => [])) (k (da a))) : T B R (c_free_New k) := by
  refine T_of (free_New_ok k) ?_
  (dsimp only [free_New, Zeh0, Zeh1])
  refine T_al fun r => ?_
  refine MpF_close (ek := eslot) (ev := esl) (FOk_nil (α := SlotK) (β := Sl)) ?_
  refine T_al fun a => ?_
  have e : (#[.slice none 0 0, .slice none 0 0, .slice none 0 0, .slice none 0 0, .slice none 0 0, .slice none 0 0, .slice none 0 0, .slice none 0 0, .slice none 0 0, .slice none 0 0, .slice none 0 0, .slice none 0 0, .slice none 0 0, .slice none 0 0, .slice none 0 0, .slice none 0 0, .slice none 0 0, .slice none 0 0, .slice none 0 0, .slice none 0 0, .slice none 0 0, .slice none 0 0, .slice none 0 0, .slice none 0 0, .slice none 0 0, .slice none 0 0, .slice none 0 0, .slice none 0 0, .slice none 0 0, .slice none 0 0, .slice none 0 0, .slice none 0 0, Value.map (some r)] : Array Value) = (glob (fun _ => nilS) ++ [Value.map (some r)]).toArray := rfl
  rw [e]
  refine big_nil 160 ?_
  have h := Fl_close (B := B) (R := R) (a := a) (r := r) (L := fun _ => []) (S := fun _ => nilS) (cs := fun _ => none) ⟨fun _ _ _ _ => rfl⟩ (hk a)
  exact T.perm (by ac_rfl) h
theorem free_right_c {m k : Int} {kk : Bool → K} (hk : T B R (kk (decide ((0 ≤ m ∧ m < 4) ∧ 0 ≤ k ∧ k < 32)))) : T B R (c_free_right m k kk) := by
  refine T_of (free_right_ok m k kk) ?_
  (repeat' (with_reducible refine T_brD (fun _ => ?_) (fun _ => ?_)))
  · refine class_Right_c ?_
    have e : decide (0 ≤ k ∧ k < 32) = decide ((0 ≤ m ∧ m < 4) ∧ 0 ≤ k ∧ k < 32) := by rw [decide_eq_decide]; omega
    rw [e]; exact hk
  · have e : decide ((0 ≤ m ∧ m < 4) ∧ 0 ≤ k ∧ k < 32) = false := by rw [decide_eq_false_iff_not]; omega
    rw [e] at hk; exact hk
  · have e : decide ((0 ≤ m ∧ m < 4) ∧ 0 ≤ k ∧ k < 32) = false := by rw [decide_eq_false_iff_not]; omega
    rw [e] at hk; exact hk
theorem bigRd {S : Nat → Sl} {L : Nat → List Int} {i : Nat} (h : i < 160) : Rd (bigS 160 (vI S L)) (S i) 1 (ints (L i)) := Rd.perm (bigS_out h) (Rd.vec (E := 3) .last)
/-- what a mutator keeps, out of the map -/
theorem T_lkSlot {r : Nat} {cs : SlotK → Option Sl} (h : MHas eslot esl P r cs) {x y : Int} {k : Nat → Obj → Sl → Bool → K} (ht : ∀ ob b, T B P (k r ob ((cs (x, y)).getD nilS) b)) :
    T B P (lkE Tryz.prog 201 (.slice none 0 0) (.sc .slice) (some r) (.agg #[.int .i64 x, .int .i64 y]) k) := by
  refine T_lkF (ek := eslot) (ev := esl) kd_slot h (key := (x, y)) ((cs (x, y)).getD nilS) ?_ fun ob => ht ob _
  cases cs (x, y) <;> rfl
theorem free_Own_c {a : Nat} {L : Nat → List Int} {m k : Nat} (hm : m < 4) (hk2 : k < 32) {kk : Int → K} (hk : T B (R * Fl a L) (kk (L (ix m k)).length)) : T B (R * Fl a L) (c_free_Lists_Own (da a) m k kk) := by
  refine T_of (free_Lists_Own_ok _ m k kk) ?_
  refine Fl_open fun S cs r ok => ?_
  unfold da
  refine T_nn ?_
  refine T_ldM (n := some r) (by rw [add_mk]) .last (glob_map S _) ?_
  refine T_lkSlot (cs := cs) (MHas.init (MHas.init (MHas.of .last))) fun ob b => ?_
  rw [ok.eq m k hm hk2]
  have hi : ix m k < 160 := by unfold ix; omega
  refine T_rdlen (Rd.init (Rd.tail (bigRd (S := S) (L := L) hi))) fun hn => ?_
  rw [ints_len] at hn
  have e : ((S (ix m k)).n : Int) = (L (ix m k)).length := by omega
  refine Fl_close ok ?_
  rw [← e] at hk; exact hk
/-- is a cell of a class free? -/
def FHas (L : Nat → List Int) (k : Nat) (x : Int) : Prop := x ∈ L k ∨ ∃ m, m < 4 ∧ x ∈ L (ix m k)
theorem free_Has_c {a : Nat} {L : Nat → List Int} (hL : ∀ i, i < 160 → (L i).length ≤ 2 ^ 30) {k : Nat} (hk2 : k < 32) {x : Int} {kk : Bool → K} (h1 : FHas L k x → T B (R * Fl a L) (kk true)) (h0 : ¬ FHas L k x → T B (R * Fl a L) (kk false)) :
    T B (R * Fl a L) (c_free_Lists_Has (da a) k x kk) := by
  refine T_of (free_Lists_Has_ok _ k x kk) ?_
  refine class_Right_c ?_
  rw [decide_eq_true (by omega)]
  simp only [Bool.not_true]
  refine Fl_open fun S cs r ok => ?_
  unfold da
  (repeat (first | with_reducible refine T_nn ?_ | with_reducible refine T_brF ?_))
  refine T_ixA (by omega) (by omega) ?_
  rw [Int.toNat_natCast, add_mk, add_mk, Nat.mul_one]
  refine T_ldS (n := S k) rfl .last (by rw [Nat.zero_add]; exact glob_at S _ hk2) ?_
  have hl := hL k (by omega)
  refine contains_int_c (l := L k) (by omega) (Rd.init (Rd.tail (bigRd (S := S) (L := L) (by omega)))) ?_
  by_cases hin : x ∈ L k
  · rw [decide_eq_true hin]
    (repeat (with_reducible refine T_brT ?_))
    exact Fl_close ok (h1 (.inl hin))
  · rw [decide_eq_false hin]
    (repeat (with_reducible refine T_brF ?_))
    refine T_lpX (fun _ _ => R * MpF eslot esl r cs * bigS 160 (vI S L) * pt a (.cells (glob S ++ [Value.map (some r)]).toArray 199)) (fun n (z : Int × Unit) => ∃ i : Nat, z.1 = i ∧ i ≤ 4 ∧ n = 4 - i ∧ ∀ m, m < i → x ∉ L (ix m k)) 4 rfl ⟨0, rfl, by omega, rfl, fun m h => by omega⟩ ?_
    rintro n ⟨z, u⟩ c ⟨i, e1, e2, e3, e4⟩ hc
    simp only at e1
    subst e1 e3
    (repeat' (first | with_reducible refine T_nn ?_ | ((with_reducible apply T_ldM); (focus rfl); (focus exact hasA); (focus rfl)) | with_reducible refine T_brD (fun _ => ?_) (fun _ => ?_)))
    · refine T_lkSlot (cs := cs) (MHas.init (MHas.init (MHas.of .last))) fun ob b => ?_
      rw [ok.eq i k (by omega) hk2]
      have hix : ix i k < 160 := by unfold ix; omega
      have hl := hL (ix i k) hix
      refine contains_int_c (l := L (ix i k)) (by omega) (Rd.init (Rd.tail (bigRd (S := S) (L := L) hix))) ?_
      by_cases hin2 : x ∈ L (ix i k)
      · rw [decide_eq_true hin2]
        (repeat (with_reducible refine T_brT ?_))
        exact Fl_close ok (h1 (.inr ⟨i, by omega, hin2⟩))
      · rw [decide_eq_false hin2]
        (repeat (with_reducible refine T_brF ?_))
        refine hc (4 - (i + 1)) _ (by omega) ⟨i + 1, w64 (by omega) (by omega), by omega, rfl, fun m hm => ?_⟩
        by_cases e : m = i
        · subst e; exact hin2
        · exact e4 m (by omega)
    · refine Fl_close ok (h0 ?_)
      rintro (h | ⟨m, hm, h⟩)
      · exact hin h
      · exact e4 m (by omega) h
end
theorem ix_inj {m k m' k' : Nat} (h1 : k < 32) (h2 : k' < 32) (h : ix m k = ix m' k') : m = m' ∧ k = k' := by unfold ix at h; omega
theorem FlOk.glob {S : Nat → Sl} {cs : SlotK → Option Sl} (ok : FlOk S cs) {k : Nat} (hk : k < 32) (s : Sl) : FlOk (setN S k s) cs := ⟨fun m k' hm hk' => by rw [ok.eq m k' hm hk', setN_ne]; unfold ix; omega⟩
theorem FlOk.slot {S : Nat → Sl} {cs : SlotK → Option Sl} (ok : FlOk S cs) {m k : Nat} (hm : m < 4) (hk : k < 32) (s : Sl) : FlOk (setN S (ix m k) s) (updF cs ((m : Int), (k : Int)) s) := ⟨fun m' k' hm' hk' => by
  unfold updF
  by_cases e : m' = m ∧ k' = k
  · obtain ⟨rfl, rfl⟩ := e
    rw [if_pos rfl, setN_same]; rfl
  · rw [if_neg (fun h => e (by simp only [Prod.mk.injEq, Int.natCast_inj] at h; exact h)), setN_ne, ok.eq m' k' hm' hk']
    intro h; exact e (ix_inj hk' hk h)⟩
theorem FlOk.del {S : Nat → Sl} {cs : SlotK → Option Sl} (ok : FlOk S cs) {m k : Nat} (hm : m < 4) (hk : k < 32) : FlOk (setN S (ix m k) nilS) (delF cs ((m : Int), (k : Int))) := ⟨fun m' k' hm' hk' => by
  unfold delF
  by_cases e : m' = m ∧ k' = k
  · obtain ⟨rfl, rfl⟩ := e
    rw [if_pos rfl, setN_same]; rfl
  · rw [if_neg (fun h => e (by simp only [Prod.mk.injEq, Int.natCast_inj] at h; exact h)), setN_ne, ok.eq m' k' hm' hk']
    intro h; exact e (ix_inj hk' hk h)⟩
theorem bigIn {S : Nat → Sl} {L : Nat → List Int} {i : Nat} (h : i < 160) (s : Sl) (l : List Int) : bigX 160 (vI S L) i * vec 3 1 s (ints l) = bigS 160 (vI (setN S i s) (setN L i l)) := by
  have := bigS_in (f := vI S L) (f' := vI (setN S i s) (setN L i l)) h fun j _ hj => by unfold vI; rw [setN_ne S s hj, setN_ne L l hj]
  rw [← this]
  unfold vI
  rw [setN_same, setN_same]
theorem setN_self {α : Type} (f : Nat → α) (i : Nat) : setN f i (f i) = f := by
  funext j; unfold setN; split
  · rename_i h; rw [h]
  · rfl
theorem ints_append (l m : List Int) : ints (l ++ m) = ints l ++ ints m := by simp [ints]
section
variable {B : World} {P R : SL} {t : K}
/-- a list of cells out of all, to be turned -/
theorem Fl_pick {a i : Nat} {L : Nat → List Int} (hi : i < 160) (h : ∀ S cs r, FlOk S cs → T B (R * MpF eslot esl r cs * bigX 160 (vI S L) i * pt a (.cells (glob S ++ [Value.map (some r)]).toArray 199) * vec 3 1 (S i) (ints (L i))) t) : T B (R * Fl a L) t := by
  refine Fl_open fun S cs r ok => ?_
  rw [bigS_out hi]
  exact T.perm (by unfold vI; ac_rfl) (h S cs r ok)
theorem Fl_put {a i r : Nat} {L : Nat → List Int} {S : Nat → Sl} {cs : SlotK → Option Sl} {s : Sl} {l : List Int} (hi : i < 160) (ok : FlOk (setN S i s) cs) (h : T B (R * Fl a (setN L i l)) t) :
    T B (R * MpF eslot esl r cs * bigX 160 (vI S L) i * pt a (.cells (glob (setN S i s) ++ [Value.map (some r)]).toArray 199) * vec 3 1 s (ints l)) t := by
  have h2 := Fl_close (B := B) (R := R) (a := a) (r := r) ok h
  rw [← bigIn hi] at h2
  exact T.perm (by ac_rfl) h2
theorem T_gld {a k : Nat} {S : Nat → Sl} {tl : List Value} {ty : TypeId} {kk : Sl → K} (h : Has P a (.cells (glob S ++ tl).toArray ty)) (hk : k < 32) (ht : T B P (kk (S k))) : T B P (ixA (Addr.add ⟨a, 0, none⟩ 0) 32 (k : Int) 1 fun x => ldS x kk) := by
  refine T_ixA (by omega) (by omega) ?_
  refine T_ldS (i := k) (n := S k) ?_ h (glob_at S _ hk) ht
  simp only [add_mk, Int.toNat_natCast, Nat.mul_one, Nat.zero_add]
theorem T_gst {a k : Nat} {S : Nat → Sl} {tl : List Value} {ty : TypeId} {s : Sl} {P' : SL} (hk : k < 32) (h : Upd P a (.cells (glob S ++ tl).toArray ty) (.cells (glob (setN S k s) ++ tl).toArray ty) P') (ht : T B P' t) :
    T B P (ixA (Addr.add ⟨a, 0, none⟩ 0) 32 (k : Int) 1 fun x => stK (Addr.add x 0) s.v t) := by
  refine T_ixA (by omega) (by omega) ?_
  refine T_st (b := a) (i := k) (l := glob S ++ tl) (ty := ty) ?_ ?_ (by rw [List.length_append, glob_len]; omega) ht
  · simp only [add_mk, Int.toNat_natCast, Nat.mul_one, Nat.zero_add, Nat.add_zero]
  · rw [glob_set S _ hk]; exact h
theorem free_Push_c {a : Nat} {L : Nat → List Int} (hL : ∀ i, i < 160 → (L i).length ≤ 2 ^ 30) {k : Nat} (hk2 : k < 32) {x : Int} {kk : Int → K} (h1 : FHas L k x → T B (R * Fl a L) (kk 41)) (h0 : ¬ FHas L k x → T B (R * Fl a (setN L k (L k ++ [x]))) (kk 0)) :
    T B (R * Fl a L) (c_free_Lists_Push (da a) k x kk) := by
  refine T_of (free_Lists_Push_ok _ k x kk) ?_
  refine class_Right_c ?_
  rw [decide_eq_true (by omega)]
  simp only [Bool.not_true]
  (repeat (with_reducible refine T_brF ?_))
  refine free_Has_c hL hk2 (fun h => ?_) (fun h => ?_)
  · (repeat (with_reducible refine T_brT ?_))
    exact h1 h
  · (repeat (first | with_reducible refine T_tick ?_ | with_reducible refine T_brF ?_))
    have h0 := h0 h
    refine Fl_pick (i := k) (by omega) fun S cs r ok => ?_
    unfold da
    have hl := hL k (by omega)
    (repeat (with_reducible refine T_nn ?_))
    refine T_gld (.init .last) hk2 ?_
    (repeat (first | with_reducible refine T_nn ?_ | (with_reducible refine T_al ?_; intro _)))
    refine T_app1b (vs := ints (L k)) (new := [.int .i64 x]) kd_int rfl rfl (by rw [ints_len]; omega) fun s' => ?_
    refine T_gst (S := S) (s := s') hk2 (.init .last) ?_
    have e : ints (L k) ++ [Value.int .i64 x] = ints (L k ++ [x]) := (ints_append (L k) [x]).symm
    rw [e]
    exact Fl_put (i := k) (by omega) (ok.glob hk2 s') h0
theorem cutP_zero (p : Option Addr) (c : Nat) : cutP p 0 c 1 = p := by
  unfold cutP
  split
  · rfl
  · cases p with
    | none => rfl
    | some a => simp [Addr.add]
theorem take6_c {a b : Nat} {L : Nat → List Int} {m k : Nat} (hm : m < 4) (hk2 : k < 32) (hL : (L (ix m k)).length ≤ 2 ^ 30) {kk : Int × Int → K}
    (h0 : L (ix m k) = [] → T B (R * Fl a L) (kk (0, 4))) (h1 : ∀ ini x, L (ix m k) = ini ++ [x] → T B (R * Fl a (setN L (ix m k) ini)) (kk (x, 0))) :
    T B (R * pt b (.cells [.int .i64 m, .int .i64 k].toArray 201) * Fl a L) (Zdw6 (da a) kk ⟨b, 0, none⟩) := by
  have hi : ix m k < 160 := by unfold ix; omega
  refine Fl_pick hi fun S cs r ok => ?_
  unfold da
  (repeat (first | with_reducible refine T_nn ?_ | with_reducible refine T_tick ?_ | ((with_reducible apply T_ldI); (focus rfl); (focus exact hasA); (focus rfl)) | ((with_reducible apply T_ldM); (focus rfl); (focus exact hasA); (focus rfl))))
  refine T_lkSlot (cs := cs) (MHas.init (MHas.init (MHas.init (MHas.of .last)))) fun ob bb => ?_
  rw [ok.eq m k hm hk2]
  refine T_vlen .last fun hn => ?_
  rw [ints_len, Nat.mul_one] at hn
  by_cases he : L (ix m k) = []
  · have hn0 : (S (ix m k)).n = 0 := by rw [hn, he]; rfl
    (dsimp only [free_Lists_Take, Zdw0, Zdw1, Zdw2, Zdw3, Zdw4, Zdw5, Zdw6, Zdw7, Zdw8, Zdw9, Zdw10, Zdw11, Zdw12, Zdw13, Zdw14, Zdw15, Zdw16])
    rw [hn0]
    (repeat' (first | with_reducible refine T_nn ?_ | with_reducible refine T_tick ?_ | ((with_reducible apply T_ldI); (focus rfl); (focus exact hasA); (focus rfl)) | ((with_reducible apply T_ldM); (focus rfl); (focus exact hasA); (focus rfl)) | with_reducible refine T_brE (fun _ => ?_) (fun _ => ?_)))
    · refine T_drop1 (.init (.init (.init (.init .last)))) ?_
      have := Fl_put (B := B) (R := R) (a := a) (i := ix m k) (r := r) (L := L) (S := S) (cs := cs) (s := S (ix m k)) (l := L (ix m k)) hi (by rw [setN_self]; exact ok) (t := kk (0, 4)) (by rw [setN_self]; exact h0 he)
      rw [setN_self] at this
      exact this
    · rename_i h; exact absurd rfl h
  · have hpos : 0 < (L (ix m k)).length := List.length_pos_iff.2 he
    obtain ⟨ini, x, hx⟩ : ∃ ini x, L (ix m k) = ini ++ [x] := ⟨_, _, (List.dropLast_concat_getLast he).symm⟩
    have hil : (L (ix m k)).length = ini.length + 1 := by rw [hx]; simp
    (repeat' (first | with_reducible refine T_nn ?_ | with_reducible refine T_tick ?_ | ((with_reducible apply T_ldI); (focus rfl); (focus exact hasA); (focus rfl)) | ((with_reducible apply T_ldM); (focus rfl); (focus exact hasA); (focus rfl)) | with_reducible refine T_brE (fun _ => ?_) (fun _ => ?_)))
    · exfalso; omega
    have e1 : IntKind.wrap .i64 (((S (ix m k)).n : Int) - 1) = ((ini.length : Nat) : Int) := by rw [w64 (by omega) (by omega)]; omega
    (dsimp only [free_Lists_Take, Zdw0, Zdw1, Zdw2, Zdw3, Zdw4, Zdw5, Zdw6, Zdw7, Zdw8, Zdw9, Zdw10, Zdw11, Zdw12, Zdw13, Zdw14, Zdw15, Zdw16])
    rw [e1]
    refine T_vopen (s := S (ix m k)) (vs := ints (L (ix m k))) .last (by rw [hx]; simp [ints]) fun b2 rest q1 q2 q3 q4 => ?_
    refine T_vecI q1 q2 q3 q4 ?_
    rw [ints_len] at q3
    refine T_lo (by omega) (by omega) ?_
    rw [Int.toNat_natCast]
    refine T_bring (X := MpF eslot esl r cs) (.init (.init (.init .last))) ?_
    refine T_updM (ek := eslot) (ev := esl) kd_slot (v := ⟨cutP (S (ix m k)).p 0 (S (ix m k)).c 1, ini.length - 0, (S (ix m k)).c - 0⟩) (key := ((m : Int), (k : Int))) rfl rfl ?_
    refine T_ixV (i := ini.length) (n := x) (Rd.vec (E := 3) (s := S (ix m k)) (vs := ints (L (ix m k))) (.init .last)) (by omega) (by rw [Int.toNat_natCast, ints_at (by omega)]; simp [hx]) ?_
    skip
    refine T_bring (X := vec 3 1 (S (ix m k)) (ints (L (ix m k)))) (.init .last) ?_
    refine T_vcut (s' := ⟨cutP (S (ix m k)).p 0 (S (ix m k)).c 1, ini.length - 0, (S (ix m k)).c - 0⟩) (n := ini.length) (by omega) (by simp only [cutP_zero]) (by simp) (by simp) (by rw [ints_len]; omega) ?_
    have e2 : (ints (L (ix m k))).take (ini.length * 1) = ints ini := by rw [hx, ints_append, Nat.mul_one, List.take_append_of_le_length (by rw [ints_len]; omega), List.take_of_length_le (by rw [ints_len]; omega)]
    rw [e2]
    refine T_drop1 (.init (.init (.init (.init .last)))) ?_
    have h2 := Fl_put (B := B) (R := R) (a := a) (i := ix m k) (r := r) (L := L) (S := S) (cs := updF cs ((m : Int), (k : Int)) ⟨cutP (S (ix m k)).p 0 (S (ix m k)).c 1, ini.length - 0, (S (ix m k)).c - 0⟩) (l := ini) hi (ok.slot hm hk2 _) (h1 ini x hx)
    rw [glob_setN S (by unfold ix; omega)] at h2
    exact T.perm (by ac_rfl) h2
end
/-- two lists of one class turned, by one cell -/
def Turn (L L' : Nat → List Int) (m k : Nat) : Prop := ∀ i, i ≠ k → i ≠ ix m k → L' i = L i
section
variable {B : World} {P R : SL} {t : K}
theorem free_Take_c {a : Nat} {L : Nat → List Int} (hL : ∀ i, i < 160 → (L i).length ≤ 2 ^ 30) {m k : Nat} (hm : m < 4) (hk2 : k < 32) {kk : Int × Int → K}
    (h0 : L k = [] → L (ix m k) = [] → T B (R * Fl a L) (kk (0, 4)))
    (h1 : ∀ x L', Turn L L' m k → (L k ++ L (ix m k)).Perm (x :: (L' k ++ L' (ix m k))) → T B (R * Fl a L') (kk (x, 0))) :
    T B (R * Fl a L) (c_free_Lists_Take (da a) m k kk) := by
  refine T_of (free_Lists_Take_ok _ m k kk) ?_
  refine free_right_c ?_
  rw [decide_eq_true (by omega)]
  have hi : ix m k < 160 := by unfold ix; omega
  have hne : ix m k ≠ k := by unfold ix; omega
  have hlk := hL k (by omega)
  have hli := hL (ix m k) hi
  unfold da
  simp only [Bool.not_true]
  (repeat (first | with_reducible refine T_nn ?_ | with_reducible refine T_tick ?_ | with_reducible refine T_brF ?_ | (with_reducible refine T_al ?_; intro _) | ((with_reducible apply T_st); (focus rfl); (focus exact updA); (focus simp); simp only [List.set, Nat.zero_add, Nat.reduceAdd])))
  rename_i b
  refine T_bring (X := Fl a L) (.init .last) ?_
  -- the last step
  have six : ∀ L2 : Nat → List Int, (L2 (ix m k)).length ≤ 2 ^ 30 → Turn L L2 m k → (L2 k ++ L2 (ix m k) = L k ∧ L (ix m k) = [] ∨ L2 = L) → (L2 (ix m k) = [] → L2 = L ∧ L k = [] ∨ L (ix m k) ≠ []) → (L2 = L → L (ix m k) ≠ []  ∨ L k = []) →
      T B (R * pt b (.cells [.int .i64 m, .int .i64 k].toArray 201) * Fl a L2) (Zdw6 (some ⟨a, 0, none⟩) kk ⟨b, 0, none⟩) := by
    intro L2 hlen htu hsum hemp hself
    refine take6_c hm hk2 hlen (fun he => ?_) (fun ini x hx => ?_)
    · rcases hemp he with ⟨rfl, h⟩ | h
      · exact h0 h he
      · rcases hsum with ⟨_, h2⟩ | rfl
        · exact absurd h2 h
        · exact absurd he h
    · refine h1 x (setN L2 (ix m k) ini) (fun i h1 h2 => by rw [setN_ne _ _ h2]; exact htu i h1 h2) ?_
      rw [setN_same, setN_ne _ _ hne.symm]
      have hp : (L2 k ++ (ini ++ [x])).Perm (x :: (L2 k ++ ini)) := by
        rw [← List.append_assoc]; exact List.perm_append_singleton x (L2 k ++ ini)
      rcases hsum with ⟨h1, h2⟩ | rfl
      · rw [h2, List.append_nil, ← h1, hx]; exact hp
      · rw [hx]; exact hp
  refine Fl_open fun S cs r ok => ?_
  (repeat (first | ((with_reducible apply T_ldI); (focus rfl); (focus exact hasA); (focus rfl)) | ((with_reducible apply T_ldM); (focus rfl); (focus exact hasA); (focus rfl))))
  refine T_lkSlot (cs := cs) (MHas.init (MHas.init (MHas.of .last))) fun ob bb => ?_
  rw [ok.eq m k hm hk2]
  refine T_rdlen (Rd.init (Rd.tail (bigRd (S := S) (L := L) hi))) fun hn => ?_
  rw [ints_len, Nat.mul_one] at hn
  by_cases he : L (ix m k) = []
  · have hn0 : (S (ix m k)).n = 0 := by rw [hn, he]; rfl
    (dsimp only [free_Lists_Take, Zdw0, Zdw1, Zdw2, Zdw3, Zdw4, Zdw5, Zdw6, Zdw7, Zdw8, Zdw9, Zdw10, Zdw11, Zdw12, Zdw13, Zdw14, Zdw15, Zdw16])
    rw [hn0]
    refine T_brE (fun _ => ?_) (fun h => absurd rfl h)
    (repeat (with_reducible refine T_nn ?_))
    refine T_rdlen (Rd.init (Rd.tail (bigRd (S := S) (L := L) (show k < 160 by omega)))) fun hnk => ?_
    rw [ints_len, Nat.mul_one] at hnk
    refine T_gld .last hk2 ?_
    (repeat (with_reducible refine T_nn ?_))
    refine T_gld .last hk2 ?_
    obtain ⟨f, hf, hf2⟩ : ∃ f : Nat, IntKind.wrap .i64 (((S k).n : Int) - min2I ((S k).n : Int) 4) = (f : Int) ∧ f = (L k).length - min (L k).length 4 := by
      refine ⟨_, ?_, rfl⟩
      have : min2I ((S k).n : Int) 4 = ((min (L k).length 4 : Nat) : Int) := by unfold min2I; split <;> omega
      rw [this, w64 (by omega) (by omega)]; omega
    rw [hf]
    (repeat (first | with_reducible refine T_nn ?_ | with_reducible refine T_tick ?_ | ((with_reducible apply T_ldI); (focus rfl); (focus exact hasA); (focus rfl)) | ((with_reducible apply T_ldM); (focus rfl); (focus exact hasA); (focus rfl))))
    refine T_gld .last hk2 ?_
    refine T_lo (by omega) (by omega) ?_
    rw [Int.toNat_natCast]
    have hpc := (bigRd (S := S) (L := L) (show k < 160 by omega)).piece (y := ⟨cutP (S k).p f (S k).c 1, (S k).n - f, (S k).c - f⟩) (o := f) (n := (L k).length - f) (by omega) (by rw [ints_len]; omega) rfl (by simp only; omega) rfl
    have ecut : cut (ints (L k)) (f * 1) (((L k).length - f) * 1) = ints ((L k).drop f) := by
      unfold cut ints
      rw [Nat.mul_one, Nat.mul_one, List.take_of_length_le (by simp), List.map_drop]
    rw [ecut] at hpc
    refine clone_int_c (l := (L k).drop f) (by simp; omega) (Rd.init (Rd.tail hpc)) fun x57 => ?_
    (repeat (first | with_reducible refine T_chk0 ?_ | ((with_reducible apply T_chk); (focus rfl); (focus exact hasA); (focus rfl))))
    refine T_bring (X := MpF eslot esl r cs) (.init (.init (.init .last))) ?_
    refine T_updM (ek := eslot) (ev := esl) kd_slot (v := x57) (key := ((m : Int), (k : Int))) rfl rfl ?_
    -- the map's turned: closed
    rw [bigS_out hi]
    refine T.perm (Q := R * pt b (.cells [.int .i64 m, .int .i64 k].toArray 201) * MpF eslot esl r (updF cs ((m : Int), (k : Int)) x57) * bigX 160 (vI S L) (ix m k) * pt a (.cells (glob (setN S (ix m k) x57) ++ [Value.map (some r)]).toArray 199) * vec 3 1 x57 (ints ((L k).drop f)) * vI S L (ix m k)) ?_ ?_
    · rw [glob_setN S (by unfold ix; omega)]; ac_rfl
    refine T.weak ?_
    refine Fl_put hi (ok.slot hm hk2 x57) ?_
    refine Fl_pick (i := k) (by omega) fun S2 cs2 r2 ok2 => ?_
    rw [setN_ne _ _ hne.symm]
    refine T_vlen .last fun hnk2 => ?_
    rw [ints_len, Nat.mul_one] at hnk2
    (repeat (first | with_reducible refine T_nn ?_ | with_reducible refine T_tick ?_))
    refine T_gld (S := S2) (.init .last) hk2 ?_
    have hcap : ∀ t, ((S2 k).n ≤ (S2 k).c → T B (R * pt b (.cells [.int .i64 m, .int .i64 k].toArray 201) * MpF eslot esl r2 cs2 * bigX 160 (vI S2 (setN L (ix m k) ((L k).drop f))) k * pt a (.cells (glob S2 ++ [Value.map (some r2)]).toArray 199) * vec 3 1 (S2 k) (ints (L k))) t) → T B (R * pt b (.cells [.int .i64 m, .int .i64 k].toArray 201) * MpF eslot esl r2 cs2 * bigX 160 (vI S2 (setN L (ix m k) ((L k).drop f))) k * pt a (.cells (glob S2 ++ [Value.map (some r2)]).toArray 199) * vec 3 1 (S2 k) (ints (L k))) t := by
      intro t h w hw
      have := (Rd.vec (E := 3) (s := S2 k) (vs := ints (L k)) .last) B w hw
      exact h (by omega) w hw
    refine hcap _ fun hc2 => ?_
    refine T_lo (by omega) (by omega) ?_
    rw [Int.toNat_natCast]
    (repeat (with_reducible refine T_nn ?_))
    refine T_gst (S := S2) (s := ⟨cutP (S2 k).p 0 (S2 k).c 1, f - 0, (S2 k).c - 0⟩) hk2 (.init .last) ?_
    refine T_vcut (s' := ⟨cutP (S2 k).p 0 (S2 k).c 1, f - 0, (S2 k).c - 0⟩) (n := f) (by omega) (by simp only [cutP_zero]) (by simp) (by simp) (by rw [ints_len]; omega) ?_
    have e3 : (ints (L k)).take (f * 1) = ints ((L k).take f) := by unfold ints; rw [Nat.mul_one, List.map_take]
    rw [e3]
    refine Fl_put (i := k) (by omega) (ok2.glob hk2 _) ?_
    refine six _ ?_ (fun i h1 h2 => by rw [setN_ne _ _ h1, setN_ne _ _ h2]) (.inl ⟨?_, he⟩) (fun h => .inl ?_) (fun h => .inr ?_)
    · rw [setN_ne _ _ hne, setN_same]; simp; omega
    · rw [setN_same, setN_ne _ _ hne, setN_same]; exact List.take_append_drop f (L k)
    · rw [setN_ne _ _ hne, setN_same] at h
      have hlen := congrArg List.length h
      simp at hlen
      have hz : L k = [] := List.eq_nil_of_length_eq_zero (by omega)
      refine ⟨?_, hz⟩
      funext j
      by_cases hj : j = k
      · subst hj; rw [setN_same, hz]; simp
      · rw [setN_ne _ _ hj]
        by_cases hj2 : j = ix m k
        · subst hj2; rw [setN_same, he, hz]; simp
        · rw [setN_ne _ _ hj2]
    · have h2 := congrFun h (ix m k)
      rw [setN_ne _ _ hne, setN_same, he] at h2
      have hlen := congrArg List.length h2
      simp at hlen
      exact List.eq_nil_of_length_eq_zero (by omega)
  · have hpos : 0 < (L (ix m k)).length := List.length_pos_iff.2 he
    (dsimp only [free_Lists_Take, Zdw0, Zdw1, Zdw2, Zdw3, Zdw4, Zdw5, Zdw6, Zdw7, Zdw8, Zdw9, Zdw10, Zdw11, Zdw12, Zdw13, Zdw14, Zdw15, Zdw16])
    refine T_brE (fun h => by exfalso; omega) (fun _ => ?_)
    refine Fl_close ok ?_
    have := six L hli (fun _ _ _ => rfl) (.inr rfl) (fun h => absurd h he) (fun _ => .inl he)
    exact this
end
end Go.Proofs.YtdgcbapclnnkkaaGreat.X
section
namespace Go.Proofs
open Go.Shelf
def Tryz.lays189_ren : Go.Shelf.Ren := ⟨fun | 189 => 206 | 125 => 228 | 257 => 227 | 128 => 247 | 129 => 248 | 294 => 238 | 295 => 239 | 296 => 240 | 297 => 241 | 298 => 242 | 299 => 243 | 216 => 244 | 300 => 245 | 301 => 246 | 328 => 259 | 329 => 260 | 330 => 261 | 331 => 262 | 332 => 263 | 215 => 264 | 343 => 271 | n => n, fun | 28 => 27 | 3 => 3 | 46 => 111 | 0 => 0 | 51 => 220 | 53 => 109 | 4 => 4 | 183 => 269 | 182 => 268 | 131 => 132 | 5 => 5 | 9 => 9 | 218 => 282 | 222 => 286 | 228 => 293 | 229 => 82 | n => n, fun | n => n⟩
theorem Tryz.lays189 : Go.Proofs.Lays.n189 Tryz.prog Tryz.lays189_ren := {
  mixed := by kernel_rfl
  f125 := Tryz.func228.trans (congrArg some (by kernel_rfl))
  f128 := Tryz.func247.trans (congrArg some (by kernel_rfl))
  f129 := Tryz.func248.trans (congrArg some (by kernel_rfl))
  f189 := Tryz.func206.trans (congrArg some (by kernel_rfl))
  f215 := Tryz.func264.trans (congrArg some (by kernel_rfl))
  f216 := Tryz.func244.trans (congrArg some (by kernel_rfl))
  f257 := Tryz.func227.trans (congrArg some (by kernel_rfl))
  f294 := Tryz.func238.trans (congrArg some (by kernel_rfl))
  f295 := Tryz.func239.trans (congrArg some (by kernel_rfl))
  f296 := Tryz.func240.trans (congrArg some (by kernel_rfl))
  f297 := Tryz.func241.trans (congrArg some (by kernel_rfl))
  f298 := Tryz.func242.trans (congrArg some (by kernel_rfl))
  f299 := Tryz.func243.trans (congrArg some (by kernel_rfl))
  f300 := Tryz.func245.trans (congrArg some (by kernel_rfl))
  f301 := Tryz.func246.trans (congrArg some (by kernel_rfl))
  f328 := Tryz.func259.trans (congrArg some (by kernel_rfl))
  f329 := Tryz.func260.trans (congrArg some (by kernel_rfl))
  f330 := Tryz.func261.trans (congrArg some (by kernel_rfl))
  f331 := Tryz.func262.trans (congrArg some (by kernel_rfl))
  f332 := Tryz.func263.trans (congrArg some (by kernel_rfl))
  f343 := Tryz.func271.trans (congrArg some (by kernel_rfl))
  t0 := Tryz.underlying0
  a0 := Tryz.isAgg0
  z0 := Tryz.sizeOf0
  v0 := Tryz.zeroValue0
  t3 := Tryz.underlying3
  a3 := Tryz.isAgg3
  z3 := Tryz.sizeOf3
  v3 := Tryz.zeroValue3
  t4 := Tryz.underlying4
  a4 := Tryz.isAgg4
  z4 := Tryz.sizeOf4
  v4 := Tryz.zeroValue4
  t5 := Tryz.underlying5
  a5 := Tryz.isAgg5
  z5 := Tryz.sizeOf5
  v5 := Tryz.zeroValue5
  t9 := Tryz.underlying9
  a9 := Tryz.isAgg9
  z9 := Tryz.sizeOf9
  v9 := Tryz.zeroValue9
  t28 := Tryz.underlying27
  a28 := Tryz.isAgg27
  z28 := Tryz.sizeOf27
  v28 := Tryz.zeroValue27
  t46 := Tryz.underlying111
  a46 := Tryz.isAgg111
  z46 := Tryz.sizeOf111
  v46 := Tryz.zeroValue111
  t51 := Tryz.underlying220
  a51 := Tryz.isAgg220
  z51 := Tryz.sizeOf220
  v51 := Tryz.zeroValue220
  t53 := Tryz.underlying109
  a53 := Tryz.isAgg109
  z53 := Tryz.sizeOf109
  v53 := Tryz.zeroValue109
  t131 := Tryz.underlying132
  a131 := Tryz.isAgg132
  z131 := Tryz.sizeOf132
  v131 := Tryz.zeroValue132
  t182 := Tryz.underlying268
  a182 := Tryz.isAgg268
  z182 := Tryz.sizeOf268
  v182 := Tryz.zeroValue268
  t183 := Tryz.underlying269
  a183 := Tryz.isAgg269
  z183 := Tryz.sizeOf269
  v183 := Tryz.zeroValue269
  t218 := Tryz.underlying282
  a218 := Tryz.isAgg282
  z218 := Tryz.sizeOf282
  v218 := Tryz.zeroValue282
  t222 := Tryz.underlying286
  a222 := Tryz.isAgg286
  z222 := Tryz.sizeOf286
  v222 := Tryz.zeroValue286
  t228 := Tryz.underlying293
  a228 := Tryz.isAgg293
  z228 := Tryz.sizeOf293
  v228 := Tryz.zeroValue293
  t229 := Tryz.underlying82
  a229 := Tryz.isAgg82
  z229 := Tryz.sizeOf82
  v229 := Tryz.zeroValue82 }
open Go.Sort Go.RowKit in
theorem Tryz.slices_Sort_int (blk off cap : Nat) (zs : List Int) (w : World) (hH : Holds (Value.int .i64) w blk off zs.toArray) (hblk : blk < w.heap.size) (hsz : zs.length < 4611686018427387904) :
    Calls Tryz.prog 206 #[.slice (some ⟨blk, off, none⟩) zs.length cap] w fun e w' =>
      e = .returned (.tuple #[]) ∧ ∃ n os, w' = grow (putRow (Value.int .i64) (Sort.ahead w n) blk off (zs.mergeSort fun x y => decide (x ≤ y)).toArray) os := Any.slices_Sort_int Tryz.lays189 blk off cap zs w hH hblk hsz
def Tryz.laysSF6_ren : Go.Shelf.Ren := ⟨fun | 6 => 207 | 15 => 228 | 14 => 229 | 28 => 247 | 29 => 248 | 20 => 249 | 21 => 250 | 22 => 251 | 23 => 252 | 24 => 253 | 25 => 254 | 26 => 255 | 27 => 256 | 46 => 265 | 47 => 260 | 48 => 261 | 49 => 266 | 50 => 267 | 57 => 272 | n => n, fun | 22 => 150 | 24 => 152 | 25 => 248 | 3 => 3 | 39 => 111 | 0 => 0 | 53 => 220 | 55 => 109 | 4 => 4 | 46 => 269 | 45 => 268 | 50 => 132 | 5 => 5 | 9 => 9 | 66 => 282 | 70 => 286 | 76 => 293 | 77 => 82 | n => n, fun | n => n⟩
theorem Tryz.laysSF6 : Go.Proofs.SlLaysF0.n6 Tryz.prog Tryz.laysSF6_ren := {
  mixed := by kernel_rfl
  f6 := ⟨Tryz.f207.name, by decide, Tryz.func207.trans (congrArg some (by kernel_rfl))⟩
  f14 := ⟨Tryz.f229.name, by decide, Tryz.func229.trans (congrArg some (by kernel_rfl))⟩
  f15 := Tryz.func228.trans (congrArg some (by kernel_rfl))
  f20 := ⟨Tryz.f249.name, by decide, Tryz.func249.trans (congrArg some (by kernel_rfl))⟩
  f21 := ⟨Tryz.f250.name, by decide, Tryz.func250.trans (congrArg some (by kernel_rfl))⟩
  f22 := ⟨Tryz.f251.name, by decide, Tryz.func251.trans (congrArg some (by kernel_rfl))⟩
  f23 := ⟨Tryz.f252.name, by decide, Tryz.func252.trans (congrArg some (by kernel_rfl))⟩
  f24 := ⟨Tryz.f253.name, by decide, Tryz.func253.trans (congrArg some (by kernel_rfl))⟩
  f25 := ⟨Tryz.f254.name, by decide, Tryz.func254.trans (congrArg some (by kernel_rfl))⟩
  f26 := ⟨Tryz.f255.name, by decide, Tryz.func255.trans (congrArg some (by kernel_rfl))⟩
  f27 := ⟨Tryz.f256.name, by decide, Tryz.func256.trans (congrArg some (by kernel_rfl))⟩
  f28 := Tryz.func247.trans (congrArg some (by kernel_rfl))
  f29 := Tryz.func248.trans (congrArg some (by kernel_rfl))
  f46 := ⟨Tryz.f265.name, by decide, Tryz.func265.trans (congrArg some (by kernel_rfl))⟩
  f47 := Tryz.func260.trans (congrArg some (by kernel_rfl))
  f48 := Tryz.func261.trans (congrArg some (by kernel_rfl))
  f49 := ⟨Tryz.f266.name, by decide, Tryz.func266.trans (congrArg some (by kernel_rfl))⟩
  f50 := ⟨Tryz.f267.name, by decide, Tryz.func267.trans (congrArg some (by kernel_rfl))⟩
  f57 := ⟨Tryz.f272.name, by decide, Tryz.func272.trans (congrArg some (by kernel_rfl))⟩
  t0 := Tryz.underlying0
  a0 := Tryz.isAgg0
  z0 := Tryz.sizeOf0
  v0 := Tryz.zeroValue0
  t3 := Tryz.underlying3
  a3 := Tryz.isAgg3
  z3 := Tryz.sizeOf3
  v3 := Tryz.zeroValue3
  t4 := Tryz.underlying4
  a4 := Tryz.isAgg4
  z4 := Tryz.sizeOf4
  v4 := Tryz.zeroValue4
  t5 := Tryz.underlying5
  a5 := Tryz.isAgg5
  z5 := Tryz.sizeOf5
  v5 := Tryz.zeroValue5
  t9 := Tryz.underlying9
  a9 := Tryz.isAgg9
  z9 := Tryz.sizeOf9
  v9 := Tryz.zeroValue9
  t22 := Tryz.underlying150
  a22 := Tryz.isAgg150
  z22 := Tryz.sizeOf150
  v22 := Tryz.zeroValue150
  t25 := Tryz.underlying248
  a25 := Tryz.isAgg248
  z25 := Tryz.sizeOf248
  v25 := Tryz.zeroValue248
  t39 := Tryz.underlying111
  a39 := Tryz.isAgg111
  z39 := Tryz.sizeOf111
  v39 := Tryz.zeroValue111
  t45 := Tryz.underlying268
  a45 := Tryz.isAgg268
  z45 := Tryz.sizeOf268
  v45 := Tryz.zeroValue268
  t46 := Tryz.underlying269
  a46 := Tryz.isAgg269
  z46 := Tryz.sizeOf269
  v46 := Tryz.zeroValue269
  t50 := Tryz.underlying132
  a50 := Tryz.isAgg132
  z50 := Tryz.sizeOf132
  v50 := Tryz.zeroValue132
  t53 := Tryz.underlying220
  a53 := Tryz.isAgg220
  z53 := Tryz.sizeOf220
  v53 := Tryz.zeroValue220
  t55 := Tryz.underlying109
  a55 := Tryz.isAgg109
  z55 := Tryz.sizeOf109
  v55 := Tryz.zeroValue109
  t66 := Tryz.underlying282
  a66 := Tryz.isAgg282
  z66 := Tryz.sizeOf282
  v66 := Tryz.zeroValue282
  t70 := Tryz.underlying286
  a70 := Tryz.isAgg286
  z70 := Tryz.sizeOf286
  v70 := Tryz.zeroValue286
  t76 := Tryz.underlying293
  a76 := Tryz.isAgg293
  z76 := Tryz.sizeOf293
  v76 := Tryz.zeroValue293
  t77 := Tryz.underlying82
  a77 := Tryz.isAgg82
  z77 := Tryz.sizeOf82
  v77 := Tryz.zeroValue82 }
open Go.RowKit Go.Lib Go.Sort in
theorem Tryz.slices_SortFunc {α : Type} [Inhabited α] (k : Nat) (aE : ∀ w, (isAgg 152).run Tryz.prog w = .ok true w) (zE : ∀ w, (Go.sizeOf 152).run Tryz.prog w = .ok k w) (enc : α → List Value) (hk : ∀ x, (enc x).length = k) (h1 : ∀ x, ∀ v ∈ enc x, v.oneCell' = true) (cf : α → α → Int) (hO : SWO (ltOf cf)) (g : Nat) (cb : Array Value) (blk off cap : Nat) (d : Array α) (w : World) (eg : ∀ args w, (callFunc g args).run Tryz.prog w = .ok (.enter g args) w) (hcmp : CmpLays Tryz.prog g cb enc k cf blk off d.size w) (hH : HoldsK enc k w blk off d) (hblk : blk < w.heap.size) (hsz : d.size < 4611686018427387904) :
    Calls Tryz.prog 207 #[.slice (some ⟨blk, off, none⟩) d.size cap, .func (.func g) #[] cb] w fun e w' =>
      e = .returned (.tuple #[]) ∧ ∃ d' n os, PermIn 0 d.size d d' ∧ SortedIn (ltOf cf) 0 d.size d' ∧ w' = sortWorldK enc k w blk off n d' os := AnyQ.slices_SortFunc Tryz.laysSF6 k aE zE enc hk h1 cf hO g cb blk off cap d w eg hcmp hH hblk hsz
open Go.RowKit Go.Sort in
theorem Tryz.slices_Sort_int_none (p : Option Addr) (cap : Nat) (w : World) : Calls Tryz.prog 206 #[.slice p 0 cap] w fun e w' => e = .returned (.tuple #[]) ∧ w' = w := Any.slices_Sort_int_none Tryz.lays189 p cap w
theorem Tryz.slices_SortFunc_none (p : Option Addr) (cap : Nat) (fv : Value) (w : World) : Calls Tryz.prog 207 #[.slice p 0 cap, fv] w fun e w' => e = .returned (.tuple #[]) ∧ w' = w := AnyF.slices_SortFunc_none Tryz.laysSF6 p cap fv w
end Go.Proofs
end
namespace Go.Proofs.YtdgcbapclnnkkaaGreat.X
section
variable {B : World} {P Q R : SL} {t : K}
theorem Sat.grown {w : World} (s : Sat B P w) (os : Array Obj) : Sat B P (Sort.grow w os) := by
  obtain ⟨⟨x, hx, hb⟩, k⟩ := s
  refine ⟨⟨x, hx, fun y q e => ?_⟩, ⟨k.os, k.tape, k.output, by simp only [Sort.grow, Array.size_append]; have := k.size; omega, fun y hy => ?_⟩⟩
  · have h2 := hb y q e
    have hlt : y < w.heap.size := (Array.getElem?_eq_some_iff.1 h2.2).1
    refine ⟨h2.1, ?_⟩
    simp only [Sort.grow, Array.getElem?_append, hlt, if_true]; exact h2.2
  · have : y < w.heap.size := by have := k.size; omega
    simp only [Sort.grow, Array.getElem?_append, this, if_true]; exact k.block y hy
theorem put_sat {α : Type} [Inhabited α] {w : World} {b : Nat} {vs rest : List Value} {E : TypeId} {enc : α → Value} {d : Array α} (hd : d.size = vs.length) (n : Nat) (os : Array Obj)
    (s : Sat B (R * pt b (.cells (vs ++ rest).toArray E)) w) : Sat B (R * pt b (.cells (d.toList.map enc ++ rest).toArray E)) (Sort.grow (Sort.putRow enc (Sort.ahead w n) b 0 d) os) := by
  refine Sat.grown ?_ os
  have s2 : Sat B (R * pt b (.cells (vs ++ rest).toArray E)) (Sort.ahead w n) := s.drew _
  have hh := (s2.has (b := b) (o := .cells (vs ++ rest).toArray E) Has.last).1
  refine s2.upd Upd.last ?_ ?_ rfl rfl rfl (by simp [Sort.putRow, Sort.mapBlock])
  · simp only [Sort.putRow, Sort.mapBlock, Array.getElem?_modify, if_true]
    rw [hh]
    simp only [Option.map_some, Sort.onCells, Option.some.injEq, Obj.cells.injEq, and_true]
    apply Array.ext_getElem?
    intro i
    simp only [Sort.putCells, Array.getElem?_mapIdx, List.getElem?_toArray, Nat.zero_le, true_and, Nat.zero_add, Nat.sub_zero]
    by_cases hi : i < d.size
    · rw [List.getElem?_append_left (by omega), List.getElem?_append_left (by simp; exact hi), List.getElem?_eq_getElem (by omega)]
      simp only [Option.map_some, hi, if_true, List.getElem?_map]
      rw [Array.getElem?_toList, Array.getElem?_eq_getElem hi]
      simp [getElem!_pos, hi]
    · rw [List.getElem?_append_right (by omega), List.getElem?_append_right (by simp; omega)]
      simp only [List.length_map, Array.length_toList, hd]
      cases rest[i - vs.length]? with
      | none => rfl
      | some v => simp only [Option.map_some]; rw [if_neg (by omega)]
  · intro x hx
    simp only [Sort.putRow, Sort.mapBlock, Array.getElem?_modify]
    rw [if_neg (Ne.symm hx)]
end
section
variable {B : World} {P Q R : SL} {t : K}
theorem sort_holds {α : Type} [Inhabited α] {w : World} {b : Nat} {vs rest : List Value} {E : TypeId} {enc : α → Value} {d : Array α} (hd : d.toList.map enc = vs) (s : Sat B (R * pt b (.cells (vs ++ rest).toArray E)) w) :
    Sort.Holds enc w b 0 d := by
  subst hd
  intro j hj
  have hh := (s.has (b := b) (o := .cells (d.toList.map enc ++ rest).toArray E) Has.last).1
  refine ⟨?_, by simp [World.frozen?, hh]⟩
  refine s.cell (b := b) Has.last ?_
  rw [Nat.zero_add, List.getElem?_append_left (by simp; exact hj), List.getElem?_map, Array.getElem?_toList, Array.getElem?_eq_getElem hj]
  simp [getElem!_pos, hj]
/-- ascending -/
def sortI (l : List Int) : List Int := l.mergeSort fun x y => decide (x ≤ y)
theorem sort_int_c {s : Sl} {l : List Int} (hl : l.length ≤ 2 ^ 40) {k : Unit → K} (hk : T B (R * vec 3 1 s (ints (sortI l))) (k ())) : T B (R * vec 3 1 s (ints l)) (c_slices_Sort_Sint_int s k) := by
  intro w hw
  rcases vec_cases hw with ⟨h1, h2, h3, hR⟩ | ⟨b, rest, h1, h2, h3, h4, hR⟩
  · have hl : l = [] := by cases l <;> simp_all [ints]
    subst hl
    have hs : s.v = .slice s.p 0 s.c := by unfold Sl.v; rw [h1]
    unfold c_slices_Sort_Sint_int cl
    rw [hs]
    refine (Tryz.slices_Sort_int_none s.p s.c w).mono ?_
    rintro e w' ⟨rfl, rfl⟩
    have e0 : sortI [] = [] := by simp [sortI]
    rw [e0] at hk
    exact ⟨(), rfl, hk _ hw⟩
  · have hlen : s.n = l.length := by simpa [ints] using h2
    have hc := Tryz.slices_Sort_int b 0 s.c l w (sort_holds (vs := ints l) (by simp [ints]) hR) (by have := (hR.has (b := b) Has.last).1; exact (Array.getElem?_eq_some_iff.1 this).1) (by omega)
    have hs : s.v = .slice (some ⟨b, 0, none⟩) l.length s.c := by unfold Sl.v; rw [h1, hlen]
    unfold c_slices_Sort_Sint_int cl
    rw [hs]
    refine hc.mono ?_
    rintro e w' ⟨rfl, n, os, rfl⟩
    refine ⟨(), rfl, hk _ ?_⟩
    have hlen2 : (sortI l).length = l.length := List.length_mergeSort _
    have := put_sat (enc := Value.int .i64) (d := (sortI l).toArray) (by simp [hlen2, ints]) n os hR
    refine vec_mk (rest := rest) h1 (by rw [h2]; simp [ints, hlen2]) (by rw [h3]; simp [ints, hlen2]) h4 ?_
    exact this
/-- pairs whose first number is told by a difference -/
abbrev Bp := {p : Int × Int // 0 ≤ p.1 ∧ p.1 ≤ 2 ^ 40}
instance : Inhabited Bp := ⟨⟨(0, 0), by simp⟩⟩
def encB (p : Bp) : List Value := [.int .i64 p.1.1, .int .i64 p.1.2]
def cmpB (p q : Bp) : Int := p.1.1 - q.1.1
theorem cmpB_lt (p q : Bp) : ltOf cmpB p q = decide (p.1.1 < q.1.1) := by
  unfold ltOf cmpB
  rw [decide_eq_decide]; omega
theorem swoB : Sort.SWO (ltOf cmpB) where
  irrefl x := by rw [cmpB_lt]; simp
  trans x y z h1 h2 := by rw [cmpB_lt] at *; simp at *; omega
  ntrans x y z h1 h2 := by rw [cmpB_lt] at *; simp at *; omega
theorem cmp_run (p q : Bp) (w : World) : Calls Tryz.prog 208 #[.agg (encB p).toArray, .agg (encB q).toArray] w fun e w' => e = .returned (.int .i64 (cmpB p q)) ∧ ∃ os, w' = Sort.grow w os := by
  have hp := p.2
  have hq := q.2
  have h : c_runs_Index_List_1 p.1 q.1 (fun x w' => x = cmpB p q ∧ ∃ os, w' = Sort.grow w os) w := by
    refine runs_Index_List_1_ok p.1 q.1 _ w ?_
    refine ⟨p.1.1, ?_, q.1.1, ?_, ?_, #[.cells #[.int .i64 p.1.1, .int .i64 p.1.2] 152, .cells #[.int .i64 q.1.1, .int .i64 q.1.2] 152], ?_⟩
    · simp [World.cell?, Addr.add, Array.getElem?_push]
    · simp [World.cell?, Addr.add, Array.getElem_push]
    · exact w64 (by omega) (by omega)
    · simp only [Sort.grow]
      congr 1
  unfold c_runs_Index_List_1 cl at h
  refine h.mono ?_
  rintro e w' ⟨x, rfl, rfl, h⟩
  exact ⟨rfl, h⟩
theorem prs_get {l : List (Int × Int)} {i j : Nat} (hi : i < l.length) (hj : j < 2) : (prs l)[i * 2 + j]? = [Value.int .i64 l[i].1, .int .i64 l[i].2][j]? := by
  rw [← prs_cut hi, cut_get hj]
theorem flat_prs (d : Array Bp) : (Sort.flatK encB 2 d).toList = prs (d.toList.map (·.1)) := by
  apply List.ext_getElem?
  intro t
  by_cases ht : t < d.size * 2
  · have e : t = t / 2 * 2 + t % 2 := by omega
    have hi : t / 2 < (d.toList.map (·.1)).length := by simp; omega
    rw [Array.getElem?_toList, Array.getElem?_eq_getElem (by simp; exact ht)]
    have hg := Sort.get_flatK encB 2 d t ht
    rw [getElem!_pos _ t (by simp; exact ht)] at hg
    rw [hg]
    conv => rhs; rw [e]
    rw [prs_get hi (by omega)]
    have h2 : t / 2 < d.size := by omega
    rw [getElem!_pos d (t / 2) h2]
    simp only [List.getElem_map, Array.getElem_toList]
    unfold encB
    have : t % 2 = 0 ∨ t % 2 = 1 := by omega
    rcases this with h | h <;> rw [h] <;> rfl
  · rw [List.getElem?_eq_none (by simp; omega), List.getElem?_eq_none (by rw [prs_len]; simp; omega)]
theorem sort_sp_c {s : Sl} {l : List (Int × Int)} (hl : l.length ≤ 2 ^ 40) (hb : ∀ p ∈ l, 0 ≤ p.1 ∧ p.1 ≤ 2 ^ 40) {k : Unit → K} (hk : ∀ l', l'.Perm l → l'.Pairwise (fun p q => p.1 ≤ q.1) → T B (R * vec 152 2 s (prs l')) (k ())) :
    T B (R * vec 152 2 s (prs l)) (c_slices_SortFunc_Sblocks_Span_blocks_Span s ⟨.func 208, #[], #[]⟩ k) := by
  intro w hw
  have hpl := prs_len l
  rcases vec_cases hw with ⟨h1, h2, h3, hR⟩ | ⟨b, rest, h1, h2, h3, h4, hR⟩
  · have hl0 : l = [] := by
      cases l with
      | nil => rfl
      | cons p l => rw [h3] at hpl; simp at hpl
    subst hl0
    have hs : s.v = .slice s.p 0 s.c := by unfold Sl.v; rw [h1]
    unfold c_slices_SortFunc_Sblocks_Span_blocks_Span cl
    rw [hs]
    refine (Tryz.slices_SortFunc_none s.p s.c _ w).mono ?_
    rintro e w' ⟨rfl, rfl⟩
    exact ⟨(), rfl, hk [] (.refl _) .nil _ hw⟩
  · have hlen : s.n = l.length := by omega
    obtain ⟨d, hd⟩ : ∃ d : Array Bp, d.toList.map (·.1) = l := by
      refine ⟨(l.attach.map fun p => (⟨p.1, hb p.1 p.2⟩ : Bp)).toArray, ?_⟩
      rw [List.toList_toArray, List.map_map]
      exact List.attach_map_subtype_val l
    have hdl : d.size = l.length := by rw [← hd]; simp
    have hfl := flat_prs d
    rw [hd] at hfl
    have hc := Tryz.slices_SortFunc 2 (fun w => by
        obtain ⟨⟨dd, hdd⟩, _⟩ := okT_spec (P := Tryz.prog) (t := 152) (by kernel_rfl)
        rw [r_isAgg hdd w]; kernel_rfl) (fun w => by rw [r_size (by kernel_rfl) w]; kernel_rfl) encB (fun _ => rfl) (fun x v hv => by simp [encB] at hv; rcases hv with rfl | rfl <;> rfl) cmpB swoB 208 #[] b 0 s.c d w
      (enters_of Tryz.func208 (by kernel_rfl) rfl) (fun m os dk _ x y => (cmp_run x y _).mono fun e w' ⟨h1, os', h2⟩ => ⟨h1, 0, os', h2⟩)
      (sort_holds (enc := id) (vs := prs l) (by rw [List.map_id]; exact hfl) hR) (by have := (hR.has (b := b) Has.last).1; exact (Array.getElem?_eq_some_iff.1 this).1) (by omega)
    have hs : s.v = .slice (some ⟨b, 0, none⟩) d.size s.c := by unfold Sl.v; rw [h1, hlen, hdl]
    unfold c_slices_SortFunc_Sblocks_Span_blocks_Span cl
    rw [hs]
    refine Calls.mono hc ?_
    rintro e w' ⟨rfl, d', n, os, ⟨q1, _, q2⟩, q3, rfl⟩
    refine ⟨(), rfl, hk (d'.toList.map (·.1)) ?_ ?_ _ ?_⟩
    · rw [← hd]
      refine List.Perm.map _ ?_
      have e1 : (d'.extract 0 d.size) = d' := by rw [← q1]; simp
      have e2 : (d.extract 0 d.size) = d := by simp
      rw [e1, e2] at q2; exact q2
    · rw [List.pairwise_map, List.pairwise_iff_getElem]
      intro i j hi hj hij
      simp only [Array.length_toList] at hi hj
      have := q3 i j (by omega) hij (by omega)
      rw [cmpB_lt, getElem!_pos d' j hj, getElem!_pos d' i hi] at this
      simp only [Array.getElem_toList]
      simpa using this
    · have hfl' := flat_prs d'
      have hfs : (Sort.flatK encB 2 d').size = (prs l).length := by rw [Sort.size_flatK, hpl, q1, hdl]
      have := put_sat (enc := id) (d := Sort.flatK encB 2 d') hfs n os hR
      rw [List.map_id, hfl'] at this
      refine vec_mk (rest := rest) h1 ?_ ?_ h4 this
      · rw [h2, hpl, prs_len]; simp [q1, hdl]
      · rw [h3, hpl, prs_len]; simp [q1, hdl]
end
theorem bigXRd {S : Nat → Sl} {L : Nat → List Int} {i j : Nat} (h : i < 160) (hij : i ≠ j) : Rd (bigX 160 (vI S L) j) (S i) 1 (ints (L i)) := Rd.perm (bigX_out h hij) (Rd.vec (E := 3) .last)
section
variable {B : World} {P R : SL} {t : K} {Pg : Program} {α β : Type} [DecidableEq α] {mt kt et : TypeId} {ek : α → Value} {ev : β → Value}
theorem T_entF (hD : KeyD Pg mt kt et ek) {z : β} (hz : zeroP Pg et = some (ev z)) {r : Nat} {f : α → Option β} {key : α} {sh : Sh} {kv : Value} {kk : sh.T × Int → K} (x : sh.T)
    (hx : ev ((f key).getD z) = sh.enc x) (hkv : kv = ek key) (ht : ∀ (stamp : Nat) (M : SL), (∀ (R' : SL) (v : β) vv t, vv = ev v → T B (R' * MpF ek ev r (updF f key v)) t → T B (R' * M) (semU Pg (Instr.entryStore mt (.map (some r)) (.int .i64 (stamp : Int)) vv) t)) → T B (R * M) (kk (x, (stamp : Int)))) :
    T B (R * MpF ek ev r f) (semT Pg (Instr.mapEntry mt (.map (some r)) kv) (.tup [.sc sh, .sc (.int .i64)]) kk) := by
  subst hkv
  refine MpF_open fun es c ok => ?_
  obtain ⟨l, ok, hl⟩ := ok
  refine T_mapEntry hD hD.same hz ok x (by rw [hl]; exact hx) fun stamp es' c' e ok' he hb => ?_
  obtain ⟨p1, p2⟩ := entL_put l key z z
  refine ht stamp (pt r (.map es' c')) fun R' v vv t hv ht2 => ?_
  subst hb
  refine T_entryStore (mt := mt) ok' he p1 hv ?_
  rw [(entL_put l key z v).2]
  refine T_ex fun y => ?_
  rw [← sep_assoc]
  refine T_pu fun ok2 => ?_
  refine MpF_close ⟨_, ok2, fun k => ?_⟩ ht2
  rw [lkup_put, hl]; rfl
end
section
variable {B : World} {P R : SL} {t : K}
theorem put5_c {a b : Nat} {L : Nat → List Int} (hL : ∀ i, i < 160 → (L i).length ≤ 2 ^ 31) {m k : Nat} (hm : m < 4) (hk2 : k < 32) {kk : Int → K}
    (h0 : ∀ L', Turn L L' m k → (L' k ++ L' (ix m k)).Perm (L k ++ L (ix m k)) → T B (R * Fl a L') (kk 0)) :
    T B (R * pt b (.cells [.int .i64 m, .int .i64 k].toArray 201) * Fl a L) (Zdj5 (da a) k kk ⟨b, 0, none⟩) := by
  have hi : ix m k < 160 := by unfold ix; omega
  have hne : ix m k ≠ k := by unfold ix; omega
  have hlk := hL k (by omega)
  have hli := hL (ix m k) hi
  refine Fl_open fun S cs r ok => ?_
  unfold da
  (repeat (first | with_reducible refine T_nn ?_ | with_reducible refine T_tick ?_ | ((with_reducible apply T_ldI); (focus rfl); (focus exact hasA); (focus rfl)) | ((with_reducible apply T_ldM); (focus rfl); (focus exact hasA); (focus rfl))))
  refine T_lkSlot (cs := cs) (MHas.init (MHas.init (MHas.of .last))) fun ob bb => ?_
  rw [ok.eq m k hm hk2]
  refine T_rdlen (Rd.init (Rd.tail (bigRd (S := S) (L := L) hi))) fun hn => ?_
  rw [ints_len, Nat.mul_one] at hn
  have hcap : ∀ t, ((S (ix m k)).n ≤ (S (ix m k)).c → T B (R * pt b (.cells [.int .i64 m, .int .i64 k].toArray 201) * MpF eslot esl r cs * bigS 160 (vI S L) * pt a (.cells (glob S ++ [Value.map (some r)]).toArray 199)) t) → T B (R * pt b (.cells [.int .i64 m, .int .i64 k].toArray 201) * MpF eslot esl r cs * bigS 160 (vI S L) * pt a (.cells (glob S ++ [Value.map (some r)]).toArray 199)) t := by
    intro t h w hw
    have := (Rd.init (Rd.tail (bigRd (S := S) (L := L) hi))) B w hw
    exact h (by omega) w hw
  refine hcap _ fun hc2 => ?_
  (repeat' (first | with_reducible refine T_nn ?_ | with_reducible refine T_tick ?_ | with_reducible refine T_brD (fun _ => ?_) (fun _ => ?_)))
  · rename_i hgt
    obtain ⟨f, hf, hf2⟩ : ∃ f : Nat, IntKind.wrap .i64 (Int.tdiv ((S (ix m k)).n : Int) 2) = (f : Int) ∧ f = (L (ix m k)).length / 2 := by
      refine ⟨_, ?_, rfl⟩
      rw [Int.tdiv_eq_ediv_of_nonneg (by omega), w64 (by omega) (by omega)]; omega
    rw [hf]
    refine T_gld .last hk2 ?_
    refine T_lo (by omega) (by omega) ?_
    rw [Int.toNat_natCast]
    (repeat (with_reducible refine T_nn ?_))
    rw [bigS_out (i := k) (by omega)]
    refine T.perm (Q := R * pt b (.cells [.int .i64 m, .int .i64 k].toArray 201) * MpF eslot esl r cs * bigX 160 (vI S L) k * pt a (.cells (glob S ++ [Value.map (some r)]).toArray 199) * vec 3 1 (S k) (ints (L k))) (by unfold vI; ac_rfl) ?_
    have hpc := (bigXRd (S := S) (L := L) hi hne).piece (y := ⟨cutP (S (ix m k)).p 0 (S (ix m k)).c 1, f - 0, (S (ix m k)).c - 0⟩) (o := 0) (n := f) (by omega) (by rw [ints_len]; omega) rfl (by simp) rfl
    have ecut : cut (ints (L (ix m k))) (0 * 1) (f * 1) = ints ((L (ix m k)).take f) := by
      unfold cut ints; rw [Nat.mul_one, Nat.zero_mul, List.drop_zero, List.map_take]
    rw [ecut] at hpc
    refine T_append (s := S k) (vs := ints (L k)) (x := ⟨cutP (S (ix m k)).p 0 (S (ix m k)).c 1, f - 0, (S (ix m k)).c - 0⟩) (new := ints ((L (ix m k)).take f)) kd_int (Rd.init (Rd.tail hpc)) (ints_scal _) (by rw [ints_len]; simp only; omega) fun s' => ?_
    refine T_gst (S := S) (s := s') hk2 (.init .last) ?_
    rw [← ints_append]
    refine T.perm (Q := R * pt b (.cells [.int .i64 m, .int .i64 k].toArray 201) * MpF eslot esl r cs * bigS 160 (vI (setN S k s') (setN L k (L k ++ (L (ix m k)).take f))) * pt a (.cells (glob (setN S k s') ++ [Value.map (some r)]).toArray 199)) (by rw [← bigIn (by omega)]; ac_rfl) ?_
    have ok1 := ok.glob hk2 s'
    have hS1 : setN S k s' (ix m k) = S (ix m k) := setN_ne _ _ hne
    have hL1 : setN L k (L k ++ (L (ix m k)).take f) (ix m k) = L (ix m k) := setN_ne _ _ hne
    generalize hSe : setN S k s' = S1 at *
    generalize hLe : setN L k (L k ++ (L (ix m k)).take f) = L1 at *
    (repeat (first | with_reducible refine T_nn ?_ | with_reducible refine T_tick ?_ | ((with_reducible apply T_ldI); (focus rfl); (focus exact hasA); (focus rfl)) | ((with_reducible apply T_ldM); (focus rfl); (focus exact hasA); (focus rfl))))
    refine T_lo (by omega) (by omega) ?_
    rw [Int.toNat_natCast]
    have hpc2 := (bigRd (S := S1) (L := L1) hi).piece (y := ⟨cutP (S (ix m k)).p f (S (ix m k)).c 1, (S (ix m k)).n - f, (S (ix m k)).c - f⟩) (o := f) (n := (L (ix m k)).length - f) (by omega) (by rw [ints_len, hL1]; omega) (by rw [hS1]) (by simp only; omega) (by rw [hS1])
    have ecut2 : cut (ints (L1 (ix m k))) (f * 1) (((L (ix m k)).length - f) * 1) = ints ((L (ix m k)).drop f) := by
      rw [hL1]
      unfold cut ints
      rw [Nat.mul_one, Nat.mul_one, List.take_of_length_le (by simp), List.map_drop]
    rw [ecut2] at hpc2
    refine clone_int_c (l := (L (ix m k)).drop f) (by simp; omega) (Rd.init (Rd.tail hpc2)) fun x71 => ?_
    (repeat (first | with_reducible refine T_chk0 ?_ | ((with_reducible apply T_chk); (focus rfl); (focus exact hasA); (focus rfl))))
    refine T_bring (X := MpF eslot esl r cs) (.init (.init (.init .last))) ?_
    refine T_updM (ek := eslot) (ev := esl) kd_slot (v := x71) (key := ((m : Int), (k : Int))) rfl rfl ?_
    rw [bigS_out hi]
    refine T.perm (Q := R * MpF eslot esl r (updF cs ((m : Int), (k : Int)) x71) * bigX 160 (vI S1 L1) (ix m k) * pt a (.cells (glob (setN S1 (ix m k) x71) ++ [Value.map (some r)]).toArray 199) * vec 3 1 x71 (ints ((L (ix m k)).drop f)) * (pt b (.cells [.int .i64 m, .int .i64 k].toArray 201) * vI S1 L1 (ix m k))) ?_ ?_
    · rw [glob_setN S1 (by unfold ix; omega)]; ac_rfl
    refine T.weak ?_
    refine Fl_put hi (ok1.slot hm hk2 x71) ?_
    refine h0 _ (fun i h1 h2 => ?_) ?_
    · rw [setN_ne _ _ h2, ← hLe, setN_ne _ _ h1]
    · rw [setN_same, setN_ne _ _ hne.symm, ← hLe, setN_same, List.append_assoc, List.take_append_drop]
  · refine T_drop1 (.init (.init (.init .last))) ?_
    exact Fl_close ok (h0 L (fun _ _ _ => rfl) (.refl _))
theorem free_Put_c {a : Nat} {L : Nat → List Int} (hL : ∀ i, i < 160 → (L i).length ≤ 2 ^ 30) {m k : Nat} (hm : m < 4) (hk2 : k < 32) {x : Int} {kk : Int → K}
    (h1 : FHas L k x → T B (R * Fl a L) (kk 41))
    (h0 : ¬ FHas L k x → ∀ L', Turn L L' m k → (L' k ++ L' (ix m k)).Perm (x :: (L k ++ L (ix m k))) → T B (R * Fl a L') (kk 0)) :
    T B (R * Fl a L) (c_free_Lists_Put (da a) m k x kk) := by
  refine T_of (free_Lists_Put_ok _ m k x kk) ?_
  refine free_right_c ?_
  rw [decide_eq_true (by omega)]
  have hi : ix m k < 160 := by unfold ix; omega
  have hne : ix m k ≠ k := by unfold ix; omega
  have hlk := hL k (by omega)
  have hli := hL (ix m k) hi
  simp only [Bool.not_true]
  (repeat (with_reducible refine T_brF ?_))
  refine free_Has_c hL hk2 (fun h => ?_) (fun h => ?_)
  · (repeat (with_reducible refine T_brT ?_))
    exact h1 h
  have h0 := h0 h
  (repeat (first | with_reducible refine T_tick ?_ | with_reducible refine T_brF ?_ | (with_reducible refine T_al ?_; intro _) | ((with_reducible apply T_st); (focus rfl); (focus exact updA); (focus simp); simp only [List.set, Nat.zero_add, Nat.reduceAdd])))
  rename_i b
  refine T_bring (X := Fl a L) (.init .last) ?_
  refine Fl_pick hi fun S cs r ok => ?_
  unfold da
  (repeat (first | with_reducible refine T_nn ?_ | ((with_reducible apply T_ldI); (focus rfl); (focus exact hasA); (focus rfl)) | ((with_reducible apply T_ldM); (focus rfl); (focus exact hasA); (focus rfl)) | (with_reducible refine T_al ?_; intro _)))
  rename_i b1
  refine T_bring (X := MpF eslot esl r cs) (.init (.init (.init (.init .last)))) ?_
  refine T_entF (ek := eslot) (ev := esl) kd_slot (z := nilS) (by kernel_rfl) (key := ((m : Int), (k : Int))) (sh := .slice) ((cs ((m : Int), (k : Int))).getD nilS) rfl rfl fun stamp M hM => ?_
  rw [ok.eq m k hm hk2]
  refine T.perm (Q := R * pt b (.cells [.int .i64 m, .int .i64 k].toArray 201) * bigX 160 (vI S L) (ix m k) * pt a (.cells (glob S ++ [Value.map (some r)]).toArray 199) * M * vec 3 1 (S (ix m k)) (ints (L (ix m k))) * pt b1 (.cells [.int .i64 x].toArray 3)) (by ac_rfl) ?_
  refine T_app1b (vs := ints (L (ix m k))) (new := [.int .i64 x]) kd_int rfl rfl (by rw [ints_len]; omega) fun s' => ?_
  refine T_bring (X := M) (.init .last) ?_
  refine hM _ s' _ _ rfl ?_
  have e : ints (L (ix m k)) ++ [Value.int .i64 x] = ints (L (ix m k) ++ [x]) := (ints_append (L (ix m k)) [x]).symm
  rw [e]
  have hcl : ∀ t, T B (R * pt b (.cells [.int .i64 m, .int .i64 k].toArray 201) * Fl a (setN L (ix m k) (L (ix m k) ++ [x]))) t → T B (R * pt b (.cells [.int .i64 m, .int .i64 k].toArray 201) * bigX 160 (vI S L) (ix m k) * pt a (.cells (glob S ++ [Value.map (some r)]).toArray 199) * vec 3 1 s' (ints (L (ix m k) ++ [x])) * MpF eslot esl r (updF cs ((m : Int), (k : Int)) s')) t := by
    intro t ht
    have h2 := Fl_put (r := r) hi (ok.slot hm hk2 s') ht
    rw [glob_setN S (by unfold ix; omega)] at h2
    exact T.perm (by ac_rfl) h2
  refine hcl _ ?_
  refine put5_c (L := setN L (ix m k) (L (ix m k) ++ [x])) (fun i hi2 => ?_) hm hk2 fun L' ht hp => ?_
  · by_cases e : i = ix m k
    · subst e; rw [setN_same]; simp; omega
    · rw [setN_ne _ _ e]; have := hL i hi2; omega
  · refine h0 L' (fun i g1 g2 => by rw [ht i g1 g2, setN_ne _ _ g2]) (hp.trans ?_)
    rw [setN_same, setN_ne _ _ hne.symm, ← List.append_assoc]
    exact List.perm_append_singleton x _
end
def drF (L : Nat → List Int) (m : Nat) : Nat → Nat → List Int
  | 0 => L
  | i + 1 => setN (setN (drF L m i) i (drF L m i i ++ drF L m i (ix m i))) (ix m i) []
theorem drF_get (L : Nat → List Int) {m : Nat} (hm : m < 4) : ∀ i, i ≤ 32 → ∀ x, x < 160 → drF L m i x = if x < 32 then (if x < i then L x ++ L (ix m x) else L x) else if ix m 0 ≤ x ∧ x < ix m 0 + i then [] else L x := by
  intro i
  induction i with
  | zero =>
    intro _ x hx
    show L x = _
    split
    · rw [if_neg (by omega)]
    · rw [if_neg (by omega)]
  | succ i ih =>
    intro hi x hx
    have ih := ih (by omega)
    show setN (setN (drF L m i) i (drF L m i i ++ drF L m i (ix m i))) (ix m i) [] x = _
    have hix : ix m i < 160 := by unfold ix; omega
    by_cases e1 : x = ix m i
    · subst e1
      rw [setN_same, if_neg (by unfold ix; omega), if_pos (by unfold ix; omega)]
    · rw [setN_ne _ _ e1]
      by_cases e2 : x = i
      · subst e2
        rw [setN_same, ih x hx, ih (ix m x) hix, if_pos (by omega), if_neg (by omega), if_neg (by unfold ix; omega), if_neg (by unfold ix; omega), if_pos (by omega), if_pos (by omega)]
      · rw [setN_ne _ _ e2, ih x hx]
        by_cases h32 : x < 32
        · rw [if_pos h32, if_pos h32]
          by_cases h : x < i
          · rw [if_pos h, if_pos (by omega)]
          · rw [if_neg h, if_neg (by omega)]
        · rw [if_neg h32, if_neg h32]
          by_cases h : ix m 0 ≤ x ∧ x < ix m 0 + i
          · rw [if_pos h, if_pos (by omega)]
          · rw [if_neg h, if_neg (by unfold ix at *; omega)]
/-- a class's cells, with those of so many mutators -/
def accL (L : Nat → List Int) (k : Nat) : Nat → List Int
  | 0 => L k
  | i + 1 => accL L k i ++ L (ix i k)
theorem accL_len {L : Nat → List Int} (hL : ∀ i, i < 160 → (L i).length ≤ 2 ^ 30) {k : Nat} (hk : k < 32) : ∀ i, i ≤ 4 → (accL L k i).length ≤ (i + 1) * 2 ^ 30 := by
  intro i
  induction i with
  | zero => intro _; have := hL k (by omega); show (L k).length ≤ _; omega
  | succ i ih =>
    intro h
    have := ih (by omega)
    have := hL (ix i k) (by unfold ix; omega)
    show (accL L k i ++ L (ix i k)).length ≤ _
    rw [List.length_append]; omega
section
variable {B : World} {P R : SL} {t : K}
theorem free_Drain_c {a : Nat} {L : Nat → List Int} (hL : ∀ i, i < 160 → (L i).length ≤ 2 ^ 30) {m : Nat} (hm : m < 4) {kk : Unit → K} (hk : T B (R * Fl a (drF L m 32)) (kk ())) : T B (R * Fl a L) (c_free_Lists_Drain (da a) m kk) := by
  refine T_of (free_Lists_Drain_ok _ m kk) ?_
  (dsimp only [free_Lists_Drain, Zeo0, Zeo1, Zeo2, Zeo3, Zeo4, Zeo5])
  refine T_lpX (fun _ s => R * Fl a (drF L m s.1.toNat)) (fun n (z : Int × Unit) => ∃ i : Nat, z.1 = i ∧ i ≤ 32 ∧ n = 32 - i) 32 rfl ⟨0, rfl, by omega, rfl⟩ ?_
  rintro n ⟨z, u⟩ c ⟨i, e1, e2, e3⟩ hc
  simp only at e1
  subst e1 e3
  simp only [Int.toNat_natCast]
  (repeat' (first | with_reducible refine T_tick ?_ | (with_reducible refine T_al ?_; intro _) | ((with_reducible apply T_st); (focus rfl); (focus exact updA); (focus simp); simp only [List.set, Nat.zero_add, Nat.reduceAdd]) | with_reducible refine T_brD (fun _ => ?_) (fun _ => ?_)))
  · rename_i hlt b
    have hlt' : i < 32 := by omega
    have hix : ix m i < 160 := by unfold ix; omega
    have hne : ix m i ≠ i := by unfold ix; omega
    have hnext := hc (32 - (i + 1)) (IntKind.wrap .i64 ((i : Int) + 1), ()) (by omega) ⟨i + 1, w64 (by omega) (by omega), by omega, rfl⟩
    have e : (IntKind.wrap .i64 ((i : Int) + 1)).toNat = i + 1 := by rw [w64 (by omega) (by omega)]; omega
    simp only [e] at hnext
    have hl1 : (drF L m i i).length ≤ 2 ^ 30 := by rw [drF_get L hm i e2 i (by omega), if_pos hlt', if_neg (by omega)]; exact hL i (by omega)
    have hl2 : (drF L m i (ix m i)).length ≤ 2 ^ 30 := by rw [drF_get L hm i e2 _ hix, if_neg (by unfold ix; omega), if_neg (by unfold ix; omega)]; exact hL _ hix
    have hnext : T B (R * Fl a (setN (setN (drF L m i) i (drF L m i i ++ drF L m i (ix m i))) (ix m i) [])) (c (IntKind.wrap .i64 ((i : Int) + 1), ())) := hnext
    clear hc
    generalize drF L m i = L0 at *
    refine T_bring (X := Fl a L0) (.init .last) ?_
    refine Fl_pick (i := i) (by omega) fun S cs r ok => ?_
    unfold da
    (repeat (with_reducible refine T_nn ?_))
    refine T_gld (S := S) (.init .last) hlt' ?_
    (repeat (first | with_reducible refine T_nn ?_ | ((with_reducible apply T_ldI); (focus rfl); (focus exact hasA); (focus rfl)) | ((with_reducible apply T_ldM); (focus rfl); (focus exact hasA); (focus rfl))))
    refine T_lkSlot (cs := cs) (MHas.init (MHas.init (MHas.init (MHas.of .last)))) fun ob bb => ?_
    rw [ok.eq m i hm hlt']
    (repeat (with_reducible refine T_nn ?_))
    have hrd := bigXRd (S := S) (L := L0) hix hne
    refine T_rdlen (Rd.init (Rd.init (Rd.tail hrd))) fun hnn => ?_
    rw [ints_len, Nat.mul_one] at hnn
    refine T_append (s := S i) (vs := ints (L0 i)) (x := S (ix m i)) (new := ints (L0 (ix m i))) kd_int (Rd.init (Rd.tail hrd)) (ints_scal _) (by rw [ints_len]; omega) fun s' => ?_
    refine T_gst (S := S) (s := s') hlt' (.init .last) ?_
    rw [← ints_append]
    (repeat (first | with_reducible refine T_nn ?_ | with_reducible refine T_tick ?_ | ((with_reducible apply T_ldI); (focus rfl); (focus exact hasA); (focus rfl)) | ((with_reducible apply T_ldM); (focus rfl); (focus exact hasA); (focus rfl))))
    refine T_bring (X := MpF eslot esl r cs) (.init (.init (.init .last))) ?_
    refine T_delF (ek := eslot) (ev := esl) kd_slot (key := ((m : Int), (i : Int))) rfl ?_
    have ok1 := ok.glob hlt' s'
    have ok2 := ok1.del hm hlt'
    refine T.perm (Q := R * pt b (.cells [.int .i64 m, .int .i64 i].toArray 201) * MpF eslot esl r (delF cs ((m : Int), (i : Int))) * bigS 160 (vI (setN S i s') (setN L0 i (L0 i ++ L0 (ix m i)))) * pt a (.cells (glob (setN S i s') ++ [Value.map (some r)]).toArray 199)) (by rw [← bigIn (by omega)]; ac_rfl) ?_
    rw [bigS_out hix]
    refine T.perm (Q := R * MpF eslot esl r (delF cs ((m : Int), (i : Int))) * bigX 160 (vI (setN S i s') (setN L0 i (L0 i ++ L0 (ix m i)))) (ix m i) * pt a (.cells (glob (setN (setN S i s') (ix m i) nilS) ++ [Value.map (some r)]).toArray 199) * (pt b (.cells [.int .i64 m, .int .i64 i].toArray 201) * vI (setN S i s') (setN L0 i (L0 i ++ L0 (ix m i))) (ix m i))) ?_ ?_
    · rw [glob_setN (setN S i s') (by unfold ix; omega)]; ac_rfl
    refine T.weak ?_
    refine vec_nilI _ ?_
    exact Fl_put hix ok2 hnext
  · have : i = 32 := by omega
    subst this
    exact hk
theorem free_List_c {a : Nat} {L : Nat → List Int} (hL : ∀ i, i < 160 → (L i).length ≤ 2 ^ 30) {k : Nat} (hk2 : k < 32) {kk : Sl → K} (hk : ∀ s, T B (R * Fl a L * vec 3 1 s (ints (sortI (accL L k 4)))) (kk s)) : T B (R * Fl a L) (c_free_Lists_List (da a) k kk) := by
  refine T_of (free_Lists_List_ok _ k kk) ?_
  refine class_Right_c ?_
  rw [decide_eq_true (by omega)]
  simp only [Bool.not_true]
  refine Fl_open fun S cs r ok => ?_
  unfold da
  (repeat (first | with_reducible refine T_nn ?_ | with_reducible refine T_brF ?_))
  refine T_gld (S := S) .last hk2 ?_
  have hl := hL k (by omega)
  have hacc := accL_len hL hk2
  refine clone_int_c (l := L k) (by omega) (Rd.init (Rd.tail (bigRd (S := S) (L := L) (by omega)))) fun x16 => ?_
  (dsimp only [free_Lists_List, Zdy0, Zdy1, Zdy2, Zdy3, Zdy4, Zdy5, Zdy6, Zdy7, Zdy8, Zdy9, Zdy10, Zdy11])
  refine T_lpX (fun _ s => R * MpF eslot esl r cs * bigS 160 (vI S L) * pt a (.cells (glob S ++ [Value.map (some r)]).toArray 199) * vec 3 1 s.1 (ints (accL L k s.2.1.toNat))) (fun n (z : Sl × Int × Unit) => ∃ i : Nat, z.2.1 = i ∧ i ≤ 4 ∧ n = 4 - i) 4 rfl ⟨0, rfl, by omega, rfl⟩ ?_
  rintro n ⟨out, z, u⟩ c ⟨i, e1, e2, e3⟩ hc
  simp only at e1
  subst e1 e3
  simp only [Int.toNat_natCast]
  (repeat' (first | with_reducible refine T_nn ?_ | ((with_reducible apply T_ldM); (focus rfl); (focus exact hasA); (focus rfl)) | with_reducible refine T_brD (fun _ => ?_) (fun _ => ?_)))
  · have hlt : i < 4 := by omega
    have hix : ix i k < 160 := by unfold ix; omega
    refine T_lkSlot (cs := cs) (MHas.init (MHas.init (MHas.init (MHas.of .last)))) fun ob bb => ?_
    rw [ok.eq i k hlt hk2]
    have hrd := bigRd (S := S) (L := L) hix
    refine T_rdlen (Rd.init (Rd.init (Rd.tail hrd))) fun hnn => ?_
    rw [ints_len, Nat.mul_one] at hnn
    have h1 := hL _ hix
    have h2 := hacc i e2
    have h3 : (i + 1) * 2 ^ 30 ≤ 5 * 2 ^ 30 := Nat.mul_le_mul_right _ (by omega)
    refine T_append (s := out) (vs := ints (accL L k i)) (x := S (ix i k)) (new := ints (L (ix i k))) kd_int (Rd.init (Rd.tail hrd)) (ints_scal _) (by rw [ints_len]; omega) fun s' => ?_
    have := hc (4 - (i + 1)) (s', IntKind.wrap .i64 ((i : Int) + 1), ()) (by omega) ⟨i + 1, w64 (by omega) (by omega), by omega, rfl⟩
    have e : (IntKind.wrap .i64 ((i : Int) + 1)).toNat = i + 1 := by rw [w64 (by omega) (by omega)]; omega
    simp only [e] at this
    rw [← ints_append]
    exact this
  · have h4 : i = 4 := by omega
    subst h4
    have h2 := hacc 4 (by omega)
    refine sort_int_c (by omega) ?_
    have := hk out
    refine T_bring (X := vec 3 1 out (ints (sortI (accL L k 4)))) .last ?_
    refine T.perm (Q := R * vec 3 1 out (ints (sortI (accL L k 4))) * MpF eslot esl r cs * bigS 160 (vI S L) * pt a (.cells (glob S ++ [Value.map (some r)]).toArray 199)) (by ac_rfl) ?_
    refine Fl_close ok ?_
    exact T.perm (by ac_rfl) this
/-- ascending by their firsts -/
theorem runs_List_c {x : Nat} {lim : Int} {F : RF} {k : Sl → K} (ok : RunsOk lim F) (hk : ∀ s l, Cov F l → l.Pairwise (fun p q => p.1 ≤ q.1) → T B (R * Idx x lim F * vec 152 2 s (prs l)) (k s)) : T B (R * Idx x lim F) (c_runs_Index_List (da x) k) := by
  refine T_of (runs_Index_List_ok _ k) ?_
  unfold da
  refine Idx_open fun r1 r2 E hE => ?_
  (repeat (first | with_reducible refine T_nn ?_ | ((with_reducible apply T_ldM); (focus rfl); (focus exact hasA); (focus rfl))))
  (dsimp only [runs_Index_List, Zdz0, Zdz1, Zdz2, Zdz3, Zdz4, Zdz5, Zdz6, Zdz7])
  refine T_bring (X := MpF ei ei r1 F) (.init (.init .last)) ?_
  have hB := ok.big
  have cl : ∀ s l t, T B (R * Idx x lim F * vec 152 2 s (prs l)) t → T B (R * MpF ei ei r2 E * pt x (.cells [.map (some r1), .map (some r2), .int .i64 lim].toArray 242) * vec 152 2 s (prs l) * MpF ei ei r1 F) t := by
    intro s l t h
    have h2 : T B (R * vec 152 2 s (prs l) * Idx x lim F) t := T.perm (by ac_rfl) h
    exact T.perm (by ac_rfl) (Idx_close (r1 := r1) (r2 := r2) hE h2)
  refine T_rangeF (f := F) (ek := ei) (ev := ei) kd_ii (fun z sn => R * MpF ei ei r2 E * pt x (.cells [.map (some r1), .map (some r2), .int .i64 lim].toArray 242) * vec 152 2 z.1 (prs sn.reverse)) (fun z sn => Sub F sn) (fun t h => ?_) ⟨by simp, by simp⟩ ?_ ?_
  · refine T_vecN (E := 152) (sz := 2) (s := ⟨none, 0, 0⟩) rfl rfl ?_
    exact T.perm (by simp only [List.reverse_nil]; show _ = _ * vec 152 2 ⟨none, 0, 0⟩ [] * _; ac_rfl) h
  · rintro ⟨z, u⟩ sn key v It c hS hf hni hM hW hc
    have hS' := hS.cons hf hni
    have l1 := hS'.len ok
    simp only [List.length_cons] at l1
    refine T_decI key rfl ?_
    refine T_decI v rfl ?_
    (repeat ((with_reducible refine T_al ?_; intro _)))
    rename_i b
    refine T.perm (Q := R * MpF ei ei r2 E * pt x (.cells [.map (some r1), .map (some r2), .int .i64 lim].toArray 242) * It * vec 152 2 z (prs sn.reverse) * pt b (.cells [.int .i64 key, .int .i64 v].toArray 152)) (by ac_rfl) ?_
    refine T_app1b (vs := prs sn.reverse) (new := [.int .i64 key, .int .i64 v]) kd_sp rfl rfl (by rw [prs_len]; simp; omega) fun s' => ?_
    have := hc (s', ()) hS'
    rw [List.reverse_cons, prs_append] at this
    exact T.perm (by show _ = _ * vec 152 2 s' (prs sn.reverse ++ prs [(key, v)]) * It; rw [show prs [(key, v)] = [.int .i64 key, .int .i64 v] from rfl]; ac_rfl) this
  · rintro ⟨z, u⟩ sn hS hnd hcov
    simp only
    have l1 := hS.len ok
    refine T_bring (X := vec 152 2 z (prs sn.reverse)) (.init .last) ?_
    refine sort_sp_c (by simp; omega) (fun p hp => ?_) fun l' hp hs => ?_
    · have := ok.rng _ _ (hS.mem p (by simpa using hp)); omega
    · have hcov' : Cov F l' := by
        have hp2 : l'.Perm sn := hp.trans (List.reverse_perm sn)
        refine ⟨(hp2.map (·.1)).nodup_iff.2 hnd, fun key v => ?_⟩
        rw [hcov, hp2.mem_iff]
      exact T.perm (by ac_rfl) (cl z l' _ (hk z l' hcov' hs))
end
/-- words of a cell, cells of a block -/
def cw (k : Nat) : Nat := (clsW k).toNat
def cn (k : Nat) : Nat := (cls k).toNat
theorem cls_tab : ∀ k : Nat, k < 32 → clsW k = cw k ∧ cls k = cn k ∧ 2 ≤ cw k ∧ cw k ≤ 256 ∧ cn k = 512 / cw k ∧ 2 ≤ cn k ∧ cn k ≤ 256 ∧ cn k * cw k ≤ 512 := by decide +kernel
def cellN (b k i : Nat) : Nat := b * 512 + i * cw k
theorem cellN_rng {b k i : Nat} (hk : k < 32) (hi : i < cn k) : b * 512 ≤ cellN b k i ∧ cellN b k i + cw k ≤ (b + 1) * 512 := by
  obtain ⟨_, _, h2, _, _, _, _, h8⟩ := cls_tab k hk
  unfold cellN
  have : (i + 1) * cw k ≤ cn k * cw k := Nat.mul_le_mul_right _ hi
  rw [Nat.add_mul, Nat.one_mul] at this
  omega
theorem cellN_inj {b b' k i i' : Nat} (hk : k < 32) (hi : i < cn k) (hi' : i' < cn k) (h : cellN b k i = cellN b' k i') : b = b' ∧ i = i' := by
  have h1 := cellN_rng (b := b) hk hi
  have h2 := cellN_rng (b := b') hk hi'
  obtain ⟨_, _, h3, _⟩ := cls_tab k hk
  have hb : b = b' := by omega
  subst hb
  refine ⟨rfl, ?_⟩
  unfold cellN at h
  exact Nat.eq_of_mul_eq_mul_right (by omega) (by omega : i * cw k = i' * cw k)
theorem cellN_blk {b k i : Nat} (hk : k < 32) (hi : i < cn k) : cellN b k i / 512 = b := by
  have h1 := cellN_rng (b := b) hk hi
  obtain ⟨_, _, h3, _⟩ := cls_tab k hk
  omega
theorem cellAt_eq {g b k i : Nat} (hk : k < 32) (hb : 1 ≤ b) (hb2 : b < g) (hi : i < cn k) : cellAt g k ((b : Int), (i : Int)) = (cellN b k i : Nat) := by
  obtain ⟨h1, h2, _⟩ := cls_tab k hk
  unfold cellAt cellN
  rw [if_neg (by rw [h2]; omega), h1]
  simp only [Int.natCast_add, Int.natCast_mul]; rfl
abbrev hd (hs : List Hd) (b : Nat) : Hd := hs.getD b (0, 0, 0)
/-- a cell of a block of small objects of a class -/
def SmCell (g : Nat) (hs : List Hd) (k x : Nat) : Prop := ∃ b i : Nat, 1 ≤ b ∧ b < g ∧ hd hs b = (1, (k : Int), 0) ∧ i < cn k ∧ x = cellN b k i
theorem SmCell.k {g : Nat} {hs : List Hd} {k k' x : Nat} (hk : k < 32) (hk' : k' < 32) (h : SmCell g hs k x) (h' : SmCell g hs k' x) : k = k' := by
  obtain ⟨b, i, _, _, h1, h2, rfl⟩ := h
  obtain ⟨b', i', _, _, h1', h2', e⟩ := h'
  have : b = b' := by
    have e1 := cellN_blk (b := b) hk h2
    rw [e, cellN_blk hk' h2'] at e1
    exact e1.symm
  subst this
  rw [h1] at h1'
  simp only [Prod.mk.injEq] at h1'
  omega
/-- what the lists of free cells hold -/
structure Frees (g : Nat) (hs : List Hd) (U : Nat → Bool) (L : Nat → List Int) : Prop where
  nd : ∀ k, k < 32 → (accL L k 4).Nodup
  mem : ∀ k, k < 32 → ∀ y : Int, y ∈ accL L k 4 ↔ ∃ x : Nat, y = x ∧ SmCell g hs k x ∧ U x = false
/-- an allocator's blocks, objects and free cells fit one another -/
structure Inv (g : Nat) (hs : List Hd) (U : Nat → Bool) (L : Nat → List Int) : Prop where
  len : hs.length = g
  two : 2 ≤ g
  big : g ≤ 2 ^ 20
  right : ∀ h ∈ hs, hRight h
  zero : hd hs 0 = (0, 0, 0)
  whole : ∀ b, (hd hs b).1 = 2 → ∃ n, WholeP hs b n
  cont : ∀ b, (hd hs b).1 = 3 → ∃ b0 n, WholeP hs b0 n ∧ b0 < b ∧ b < b0 + n
  used : ∀ x, U x = true → (∃ k, k < 32 ∧ SmCell g hs k x) ∨ (∃ b n, 1 ≤ b ∧ WholeP hs b n ∧ x = b * 512)
  free : Frees g hs U L
theorem mem_accL {L : Nat → List Int} {k : Nat} {y : Int} : y ∈ accL L k 4 ↔ FHas L k y := by
  show y ∈ (((L k ++ L (ix 0 k)) ++ L (ix 1 k)) ++ L (ix 2 k)) ++ L (ix 3 k) ↔ _
  unfold FHas
  simp only [List.mem_append]
  constructor
  · rintro ((((h | h) | h) | h) | h)
    · exact .inl h
    · exact .inr ⟨0, by omega, h⟩
    · exact .inr ⟨1, by omega, h⟩
    · exact .inr ⟨2, by omega, h⟩
    · exact .inr ⟨3, by omega, h⟩
  · rintro (h | ⟨m, hm, h⟩)
    · exact .inl (.inl (.inl (.inl h)))
    · have : m = 0 ∨ m = 1 ∨ m = 2 ∨ m = 3 := by omega
      rcases this with rfl | rfl | rfl | rfl
      · exact .inl (.inl (.inl (.inr h)))
      · exact .inl (.inl (.inr h))
      · exact .inl (.inr h)
      · exact .inr h
theorem accL_count (L : Nat → List Int) (k : Nat) (y : Int) : (accL L k 4).count y = (L k).count y + (L (ix 0 k)).count y + (L (ix 1 k)).count y + (L (ix 2 k)).count y + (L (ix 3 k)).count y := by
  show ((((L k ++ L (ix 0 k)) ++ L (ix 1 k)) ++ L (ix 2 k)) ++ L (ix 3 k)).count y = _
  simp only [List.count_append]
/-- one cell turned, out of two lists of a class -/
theorem accL_turn {L L' : Nat → List Int} {m k : Nat} (hm : m < 4) (hk : k < 32) (ht : Turn L L' m k) {l l' : List Int} (hp : (L k ++ L (ix m k) ++ l).Perm (L' k ++ L' (ix m k) ++ l')) :
    (accL L k 4 ++ l).Perm (accL L' k 4 ++ l') ∧ ∀ j, j < 32 → j ≠ k → accL L' j 4 = accL L j 4 := by
  constructor
  · rw [List.perm_iff_count]
    intro y
    have h := hp.count_eq y
    simp only [List.count_append, accL_count] at h ⊢
    have hh : ∀ m', m' < 4 → m' ≠ m → L' (ix m' k) = L (ix m' k) := fun m' h1 h2 => ht _ (by unfold ix; omega) (by unfold ix; omega)
    have : m = 0 ∨ m = 1 ∨ m = 2 ∨ m = 3 := by omega
    rcases this with rfl | rfl | rfl | rfl
    · rw [hh 1 (by omega) (by omega), hh 2 (by omega) (by omega), hh 3 (by omega) (by omega)]; omega
    · rw [hh 0 (by omega) (by omega), hh 2 (by omega) (by omega), hh 3 (by omega) (by omega)]; omega
    · rw [hh 0 (by omega) (by omega), hh 1 (by omega) (by omega), hh 3 (by omega) (by omega)]; omega
    · rw [hh 0 (by omega) (by omega), hh 1 (by omega) (by omega), hh 2 (by omega) (by omega)]; omega
  · intro j hj hjk
    have e : ∀ i, accL L' j i = accL L j i ∨ 4 < i := by
      intro i
      induction i with
      | zero => left; exact ht j hjk (by unfold ix; omega)
      | succ i ih =>
        by_cases h : 4 < i + 1
        · exact .inr h
        · rcases ih with ih | ih
          · left
            show accL L' j i ++ L' (ix i j) = accL L j i ++ L (ix i j)
            rw [ih, ht (ix i j) (by unfold ix; omega) (by unfold ix; omega)]
          · omega
    rcases e 4 with h | h
    · exact h
    · omega
theorem Frees.len {g : Nat} {hs : List Hd} {U : Nat → Bool} {L : Nat → List Int} (hg : g ≤ 2 ^ 20) (h : Frees g hs U L) {k : Nat} (hk : k < 32) : (accL L k 4).length ≤ 2 ^ 29 := by
  have h1 : ((accL L k 4).map Int.toNat).Nodup := by
    refine List.Pairwise.map _ (fun a b hab => ?_) (List.Pairwise.and_mem.1 (h.nd k hk))
    obtain ⟨ha, hb, hab⟩ := hab
    obtain ⟨x, rfl, _⟩ := (h.mem k hk a).1 ha
    obtain ⟨y, rfl, _⟩ := (h.mem k hk b).1 hb
    omega
  have := nodup_lt_len (2 ^ 29) _ h1 (fun x hx => by
    obtain ⟨a, ha, rfl⟩ := List.mem_map.1 hx
    obtain ⟨x, rfl, ⟨b, i, h1, h2, h3, h4, rfl⟩, _⟩ := (h.mem k hk a).1 ha
    have := cellN_rng (b := b) hk h4
    obtain ⟨_, _, h5, _⟩ := cls_tab k hk
    omega)
  simpa using this
theorem Frees.lens {g : Nat} {hs : List Hd} {U : Nat → Bool} {L : Nat → List Int} (hg : g ≤ 2 ^ 20) (h : Frees g hs U L) : ∀ i, i < 160 → (L i).length ≤ 2 ^ 29 := by
  intro i hi
  have sub : ∀ k, k < 32 → (accL L k 4).length = (L k).length + (L (ix 0 k)).length + (L (ix 1 k)).length + (L (ix 2 k)).length + (L (ix 3 k)).length := by
    intro k _
    show ((((L k ++ L (ix 0 k)) ++ L (ix 1 k)) ++ L (ix 2 k)) ++ L (ix 3 k)).length = _
    simp only [List.length_append]
  by_cases h32 : i < 32
  · have := h.len hg h32
    rw [sub i h32] at this; omega
  · obtain ⟨m, k, hm, hk, rfl⟩ : ∃ m k, m < 4 ∧ k < 32 ∧ i = ix m k := ⟨(i - 32) / 32, (i - 32) % 32, by omega, by omega, by unfold ix; omega⟩
    have := h.len hg hk
    rw [sub k hk] at this
    have : m = 0 ∨ m = 1 ∨ m = 2 ∨ m = 3 := by omega
    rcases this with rfl | rfl | rfl | rfl <;> omega
structure St where
  hs : List Hd
  F : RF
  c : List Int
  U : Nat → Bool
  L : Nat → List Int
def AlQ (a d g : Nat) (s : St) (m u f : Nat) : SL := LDx d (64 * g) s.c * Mg m d g s.hs s.F * Bm u (512 * g) s.U * Fl f s.L * pt a (.cells [.pointer (da m), .pointer (da d), .int .i64 g, .pointer (da u), .pointer (da f)].toArray 47)
def Al (a d g : Nat) (s : St) : SL := ex fun q : Nat × Nat × Nat => AlQ a d g s q.1 q.2.1 q.2.2
section
variable {B : World} {P R : SL} {t : K}
theorem Al_open {a d g : Nat} {s : St} (h : ∀ m u f, T B (R * LDx d (64 * g) s.c * Mg m d g s.hs s.F * Bm u (512 * g) s.U * Fl f s.L * pt a (.cells [.pointer (da m), .pointer (da d), .int .i64 g, .pointer (da u), .pointer (da f)].toArray 47)) t) : T B (R * Al a d g s) t := by
  refine T_ex fun q => T.perm ?_ (h q.1 q.2.1 q.2.2)
  unfold AlQ; simp only [sep_assoc]
theorem Al_close {a d g m u f : Nat} {s : St} (h : T B (R * Al a d g s) t) : T B (R * LDx d (64 * g) s.c * Mg m d g s.hs s.F * Bm u (512 * g) s.U * Fl f s.L * pt a (.cells [.pointer (da m), .pointer (da d), .int .i64 g, .pointer (da u), .pointer (da f)].toArray 47)) t := by
  have h2 := T_exI (B := B) (R := R) (t := t) (X := fun q : Nat × Nat × Nat => AlQ a d g s q.1 q.2.1 q.2.2) (m, u, f) h
  refine T.perm ?_ h2
  unfold AlQ; simp only [sep_assoc]
theorem Al_tie {a d g : Nat} {s : St} (h : Tie g s.hs s.F → T B (R * Al a d g s) t) : T B (R * Al a d g s) t := by
  refine Al_open fun m u f => ?_
  refine T_bring (X := Mg m d g s.hs s.F) (.init (.init (.init .last))) ?_
  refine Mg_tie fun tie => ?_
  exact T.perm (by ac_rfl) (Al_close (m := m) (u := u) (f := f) (h tie))
end
/-- a block's cells that are not in use, the last one first; so many of them looked at -/
def cvN (U : Nat → Bool) (b k : Nat) : Nat → List Int
  | 0 => []
  | t + 1 => cvN U b k t ++ (if U (cellN b k (cn k - 1 - t)) then [] else [((cellN b k (cn k - 1 - t) : Nat) : Int)])
theorem cvN_mem {U : Nat → Bool} {b k : Nat} : ∀ {t : Nat}, t ≤ cn k → ∀ {y : Int}, y ∈ cvN U b k t ↔ ∃ i, cn k - t ≤ i ∧ i < cn k ∧ y = (cellN b k i : Nat) ∧ U (cellN b k i) = false := by
  intro t
  induction t with
  | zero => intro _ y; simp only [cvN, List.not_mem_nil, false_iff]; rintro ⟨i, h1, h2, _⟩; omega
  | succ t ih =>
    intro ht y
    have ih := @ih (by omega) y
    simp only [cvN, List.mem_append, ih]
    constructor
    · rintro (⟨i, h1, h2, h3⟩ | h)
      · exact ⟨i, by omega, h2, h3⟩
      · split at h
        · simp at h
        · rename_i hu
          simp only [List.mem_singleton] at h
          exact ⟨cn k - 1 - t, by omega, by omega, h, by simpa using hu⟩
    · rintro ⟨i, h1, h2, h3, h4⟩
      by_cases e : i = cn k - 1 - t
      · right
        rw [← e, if_neg (by simp [h4])]; simp [h3]
      · exact .inl ⟨i, by omega, h2, h3, h4⟩
theorem cvN_nodup {U : Nat → Bool} {b k : Nat} (hk : k < 32) : ∀ {t : Nat}, t ≤ cn k → (cvN U b k t).Nodup := by
  intro t
  induction t with
  | zero => intro _; simp [cvN]
  | succ t ih =>
    intro ht
    simp only [cvN]
    split
    · simp; exact ih (by omega)
    · rw [List.nodup_append]
      refine ⟨ih (by omega), by simp, fun y hy z hz => ?_⟩
      simp only [List.mem_singleton] at hz
      subst hz
      obtain ⟨i, h1, h2, h3, _⟩ := (cvN_mem (by omega)).1 hy
      intro e
      rw [h3] at e
      have := (cellN_inj (b := b) (b' := b) hk h2 (by omega) (by omega : cellN b k i = cellN b k (cn k - 1 - t))).2
      omega
theorem cvN_len {U : Nat → Bool} {b k t : Nat} : (cvN U b k t).length ≤ t := by
  induction t with
  | zero => simp [cvN]
  | succ t ih =>
    simp only [cvN, List.length_append]
    split <;> simp <;> omega
section
variable {B : World} {P R : SL} {t : K}
theorem carve_c {a d g b k : Nat} {s : St} (hg : g ≤ 2 ^ 20) (hb : 1 ≤ b) (hb2 : b < g) (hk : k < 32) (hL : ∀ i, i < 160 → (s.L i).length ≤ 2 ^ 29) (hno : ∀ i, i < cn k → ¬ FHas s.L k ((cellN b k i : Nat) : Int)) {kk : Unit → K}
    (hkk : T B (R * Al a d g { s with L := setN s.L k (s.L k ++ cvN s.U b k (cn k)) }) (kk ())) : T B (R * Al a d g s) (c_alloc_Allocator_carve (da a) b k kk) := by
  refine T_of (alloc_Allocator_carve_ok _ b k kk) ?_
  obtain ⟨t1, t2, t3, t4, t5, t6, t7, t8⟩ := cls_tab k hk
  refine class_Cells_c ?_
  have e0 : IntKind.wrap .i64 (cls k - 1) = (cn k : Int) - 1 := by rw [w64 (by omega) (by omega), t2]
  (dsimp only [alloc_Allocator_carve, Zfq0, Zfq1, Zfq2, Zfq3, Zfq4, Zfq5, Zfq6])
  rw [e0]
  refine T_lpX (fun n z => R * Al a d g { s with L := setN s.L k (s.L k ++ cvN s.U b k (cn k - n)) }) (fun n (z : Int × Unit) => n ≤ cn k ∧ z.1 = (n : Int) - 1) (cn k) ?_ ⟨by omega, rfl⟩ ?_
  · rw [Nat.sub_self]
    simp only [cvN, List.append_nil]
    rw [setN_self]
  rintro n ⟨z, u⟩ c ⟨e1, e2⟩ hc
  simp only at e2
  subst e2
  (repeat' (with_reducible refine T_brD (fun _ => ?_) (fun _ => ?_)))
  · rename_i hge
    have hn : 1 ≤ n := by omega
    have ei : (n : Int) - 1 = ((n - 1 : Nat) : Int) := by omega
    have hlt : n - 1 < cn k := by omega
    refine Al_open fun m u f => ?_
    unfold da
    (repeat (first | with_reducible refine T_nn ?_ | ((with_reducible apply T_ldI); (focus rfl); (focus exact hasA); (focus rfl))))
    rw [ei]
    refine cells_Address_c (by omega) ?_
    rw [cellAt_eq hk hb hb2 hlt]
    (repeat (first | with_reducible refine T_nn ?_ | ((with_reducible apply T_ldP); (focus rfl); (focus exact hasA); (focus rfl))))
    refine T_bring (X := Bm u (512 * g) s.U) (.init (.init .last)) ?_
    refine bitmap_Has_c ?_
    have hh : has s.U ((cellN b k (n - 1) : Nat) : Int) = s.U (cellN b k (n - 1)) := by unfold has; rw [decide_eq_true (by omega), Bool.true_and, Int.toNat_natCast]
    rw [hh]
    have hstep : cn k - (n - 1) = (cn k - n) + 1 := by omega
    have hcell : cn k - 1 - (cn k - n) = n - 1 := by omega
    have hnx := hc (n - 1) (IntKind.wrap .i64 (((n - 1 : Nat) : Int) - 1), ()) (by omega) ⟨by omega, by rw [w64 (by omega) (by omega)]⟩
    rw [hstep] at hnx
    simp only [cvN, hcell] at hnx
    cases hu : s.U (cellN b k (n - 1))
    · rw [hu] at hnx
      simp only [Bool.false_eq_true, if_false] at hnx
      simp only [Bool.not_false]
      (repeat (first | with_reducible refine T_nn ?_ | with_reducible refine T_brT ?_ | ((with_reducible apply T_ldP); (focus rfl); (focus exact hasA); (focus rfl))))
      refine T_bring (X := Fl f (setN s.L k (s.L k ++ cvN s.U b k (cn k - n)))) (.init (.init .last)) ?_
      have hlen : ∀ i, i < 160 → (setN s.L k (s.L k ++ cvN s.U b k (cn k - n)) i).length ≤ 2 ^ 30 := by
        intro i hi
        have h1 := hL i hi
        have h2 := @cvN_len s.U b k (cn k - n)
        by_cases e : i = k
        · subst e; rw [setN_same, List.length_append]; omega
        · rw [setN_ne _ _ e]; omega
      refine free_Push_c hlen hk (fun hf => ?_) (fun _ => ?_)
      · exfalso
        rcases hf with h | ⟨m', hm', h⟩
        · rw [setN_same, List.mem_append] at h
          rcases h with h | h
          · exact hno (n - 1) hlt (.inl h)
          · obtain ⟨i, h1, h2, h3, h4⟩ := (cvN_mem (by omega)).1 h
            have := (cellN_inj (b := b) (b' := b) hk hlt h2 (by omega)).2
            omega
        · rw [setN_ne _ _ (by unfold ix; omega)] at h
          exact hno (n - 1) hlt (.inr ⟨m', hm', h⟩)
      · have e3 : setN (setN s.L k (s.L k ++ cvN s.U b k (cn k - n))) k (setN s.L k (s.L k ++ cvN s.U b k (cn k - n)) k ++ [((cellN b k (n - 1) : Nat) : Int)]) = setN s.L k (s.L k ++ (cvN s.U b k (cn k - n) ++ [((cellN b k (n - 1) : Nat) : Int)])) := by
          funext j
          by_cases e : j = k
          · subst e; rw [setN_same, setN_same, setN_same, List.append_assoc]
          · rw [setN_ne _ _ e, setN_ne _ _ e, setN_ne _ _ e]
        rw [e3]
        exact T.perm (by unfold da; ac_rfl) (Al_close (a := a) (m := m) (u := u) (f := f) (d := d) (g := g) (R := R) (s := { s with L := setN s.L k (s.L k ++ (cvN s.U b k (cn k - n) ++ [((cellN b k (n - 1) : Nat) : Int)])) }) hnx)
    · rw [hu] at hnx
      simp only [if_true, List.append_nil] at hnx
      simp only [Bool.not_true]
      (repeat (with_reducible refine T_brF ?_))
      exact T.perm (by unfold da; ac_rfl) (Al_close (a := a) (m := m) (u := u) (f := f) (d := d) (g := g) (R := R) (s := { s with L := setN s.L k (s.L k ++ cvN s.U b k (cn k - n)) }) hnx)
  · have : n = 0 := by omega
    subst this
    exact hkk
end
theorem hRight_mem {hs : List Hd} (h : ∀ x ∈ hs, hRight x) (b : Nat) : hRight (hd hs b) := by
  by_cases hb : b < hs.length
  · exact h _ (getD_mem hb)
  · unfold hd; rw [List.getD_eq_getElem?_getD, List.getElem?_eq_none (by omega)]; exact .inl rfl
theorem WholeP.keep {hs hs' : List Hd} {b n : Nat} (hl : hs'.length = hs.length) (h : WholeP hs b n) (he : ∀ i, b ≤ i → i < b + n → hd hs' i = hd hs i) : WholeP hs' b n := by
  obtain ⟨h1, h2, h3, h4, h5⟩ := h
  refine ⟨h1, by omega, ?_, ?_, fun i hi hi2 => ?_⟩
  · have := he b (by omega) (by omega); unfold hd at this; rw [this]; exact h3
  · have := he b (by omega) (by omega); unfold hd at this; rw [this]; exact h4
  · have := he (b + i) (by omega) (by omega); unfold hd at this; rw [this]; exact h5 i hi hi2
theorem WholeP.kind {hs : List Hd} {b n i : Nat} (h : WholeP hs b n) (h1 : b ≤ i) (h2 : i < b + n) : (i = b ∧ (hd hs i).1 = 2) ∨ (b < i ∧ (hd hs i).1 = 3) := by
  by_cases e : i = b
  · subst e; exact .inl ⟨rfl, h.2.2.1⟩
  · right
    refine ⟨by omega, ?_⟩
    have := h.2.2.2.2 (i - b) (by omega) (by omega)
    rw [show b + (i - b) = i by omega] at this
    show (hs.getD i (0, 0, 0)).1 = 3
    rw [this]
/-- a cell out of the lists -/
theorem Frees.take {g : Nat} {hs : List Hd} {U : Nat → Bool} {L L' : Nat → List Int} (h : Frees g hs U L) {k : Nat} (hk : k < 32) {y : Int} (hp : (accL L k 4).Perm (y :: accL L' k 4)) (ho : ∀ j, j < 32 → j ≠ k → (accL L' j 4).Perm (accL L j 4)) :
    ∃ x : Nat, y = x ∧ SmCell g hs k x ∧ U x = false ∧ Frees g hs (uAdd U x) L' := by
  have hy : y ∈ accL L k 4 := hp.mem_iff.2 (by simp)
  obtain ⟨x, rfl, hc, hu⟩ := (h.mem k hk y).1 hy
  refine ⟨x, rfl, hc, hu, fun j hj => ?_, fun j hj z => ?_⟩
  · by_cases e : j = k
    · subst e
      exact (List.nodup_cons.1 (hp.nodup_iff.1 (h.nd j hj))).2
    · exact (ho j hj e).nodup_iff.2 (h.nd j hj)
  · by_cases e : j = k
    · subst e
      have hnd := List.nodup_cons.1 (hp.nodup_iff.1 (h.nd j hj))
      constructor
      · intro hz
        obtain ⟨x', rfl, h1, h2⟩ := (h.mem j hj z).1 (hp.mem_iff.2 (by simp [hz]))
        refine ⟨x', rfl, h1, ?_⟩
        unfold uAdd
        have : x' ≠ x := fun e => hnd.1 (by rw [← e]; exact hz)
        simp [this, h2]
      · rintro ⟨x', rfl, h1, h2⟩
        unfold uAdd at h2
        simp only [Bool.or_eq_false_iff, beq_eq_false_iff_ne, ne_eq] at h2
        have := hp.mem_iff.1 ((h.mem j hj (x' : Int)).2 ⟨x', rfl, h1, h2.2⟩)
        rcases List.mem_cons.1 this with h3 | h3
        · exact absurd (by omega) h2.1
        · exact h3
    · rw [(ho j hj e).mem_iff, h.mem j hj z]
      constructor
      · rintro ⟨x', rfl, h1, h2⟩
        refine ⟨x', rfl, h1, ?_⟩
        unfold uAdd
        have : x' ≠ x := fun e2 => e (SmCell.k hj hk h1 (e2 ▸ hc))
        simp [this, h2]
      · rintro ⟨x', rfl, h1, h2⟩
        unfold uAdd at h2
        simp only [Bool.or_eq_false_iff] at h2
        exact ⟨x', rfl, h1, h2.2⟩
theorem Inv.take {g : Nat} {hs : List Hd} {U : Nat → Bool} {L L' : Nat → List Int} (h : Inv g hs U L) {k : Nat} (hk : k < 32) {y : Int} (hp : (accL L k 4).Perm (y :: accL L' k 4)) (ho : ∀ j, j < 32 → j ≠ k → (accL L' j 4).Perm (accL L j 4)) :
    ∃ x : Nat, y = x ∧ SmCell g hs k x ∧ U x = false ∧ Inv g hs (uAdd U x) L' := by
  obtain ⟨x, h1, h2, h3, h4⟩ := h.free.take hk hp ho
  refine ⟨x, h1, h2, h3, ⟨h.len, h.two, h.big, h.right, h.zero, h.whole, h.cont, fun z hz => ?_, h4⟩⟩
  unfold uAdd at hz
  simp only [Bool.or_eq_true, beq_iff_eq] at hz
  rcases hz with rfl | hz
  · exact .inl ⟨k, hk, h2⟩
  · exact h.used z hz
/-- blocks that are free have nothing in use -/
theorem Inv.free_unused {g : Nat} {hs : List Hd} {U : Nat → Bool} {L : Nat → List Int} (h : Inv g hs U L) {b : Nat} (hb : (hd hs b).1 = 0 ∨ (hd hs b).1 = 3) {x : Nat} (hx : x / 512 = b) : U x = false := by
  cases hu : U x with
  | false => rfl
  | true =>
    exfalso
    rcases h.used x hu with ⟨k, hk, b', i, h1, h2, h3, h4, rfl⟩ | ⟨b', n, h1, hw, rfl⟩
    · rw [cellN_blk hk h4] at hx
      subst hx
      rw [h3] at hb
      simp at hb
    · have : b' = b := by omega
      subst this
      have := hw.2.2.1
      unfold hd at hb; omega
/-- a new block of small objects -/
theorem Inv.block {g : Nat} {hs : List Hd} {U : Nat → Bool} {L : Nat → List Int} (h : Inv g hs U L) {b k : Nat} (hk : k < 32) (hb : 1 ≤ b) (hb2 : b < g) (h0 : (hd hs b).1 = 0) :
    (∀ i, i < cn k → ¬ FHas L k ((cellN b k i : Nat) : Int)) ∧ (∀ i, i < cn k → U (cellN b k i) = false) ∧ Inv g (splice hs b [(1, (k : Int), 0)]) U (setN L k (L k ++ cvN U b k (cn k))) ∧ (accL (setN L k (L k ++ cvN U b k (cn k))) k 4).Perm (accL L k 4 ++ cvN U b k (cn k)) := by
  have hl := h.len
  have hfit : b + [((1, (k : Int), 0) : Hd)].length ≤ hs.length := by simp; omega
  have hhd : ∀ i, hd (splice hs b [(1, (k : Int), 0)]) i = if i = b then (1, (k : Int), 0) else hd hs i := by
    intro i
    unfold hd
    rw [splice_getD hfit]
    simp only [List.length_singleton]
    by_cases e : i = b
    · subst e; rw [if_pos (by omega), if_pos rfl]; simp
    · rw [if_neg (by omega), if_neg e]
  have hun : ∀ i, i < cn k → U (cellN b k i) = false := fun i hi => h.free_unused (.inl h0) (cellN_blk hk hi)
  have hno : ∀ i, i < cn k → ¬ FHas L k ((cellN b k i : Nat) : Int) := by
    intro i hi hf
    obtain ⟨x, hx, ⟨b', i', h1, h2, h3, h4, h5⟩, _⟩ := (h.free.mem k hk _).1 (mem_accL.2 hf)
    have h6 : cellN b k i = cellN b' k i' := by omega
    have := (cellN_inj hk hi h4 h6).1
    subst this
    rw [h3] at h0
    simp at h0
  have hw' : ∀ {b0 n0}, WholeP hs b0 n0 → WholeP (splice hs b [(1, (k : Int), 0)]) b0 n0 := by
    intro b0 n0 hw
    refine hw.keep (splice_length hfit) fun i h1 h2 => ?_
    rw [hhd, if_neg]
    intro e; subst e
    rcases hw.kind h1 h2 with ⟨_, h3⟩ | ⟨_, h3⟩ <;> omega
  have hacc : ∀ j, j < 32 → (accL (setN L k (L k ++ cvN U b k (cn k))) j 4).Perm (if j = k then accL L k 4 ++ cvN U b k (cn k) else accL L j 4) := by
    intro j hj
    by_cases e : j = k
    · subst e
      rw [if_pos rfl]
      have := (accL_turn (L := L) (L' := setN L j (L j ++ cvN U b j (cn j))) (m := 0) (by omega) hj (fun i h1 _ => setN_ne _ _ h1) (l := cvN U b j (cn j)) (l' := []) (by
        rw [setN_same, setN_ne _ _ (show ix 0 j ≠ j by unfold ix; omega), List.append_nil, List.append_assoc, List.append_assoc]
        exact List.Perm.append_left _ List.perm_append_comm)).1
      rw [List.append_nil] at this
      exact this.symm
    · rw [if_neg e]
      have := (accL_turn (L := L) (L' := setN L k (L k ++ cvN U b k (cn k))) (m := 0) (by omega) hk (fun i h1 _ => setN_ne _ _ h1) (l := cvN U b k (cn k)) (l' := []) (by
        rw [setN_same, setN_ne _ _ (show ix 0 k ≠ k by unfold ix; omega), List.append_nil, List.append_assoc, List.append_assoc]
        exact List.Perm.append_left _ List.perm_append_comm)).2 j hj e
      rw [this]
  have hsm : ∀ j, j < 32 → ∀ x, SmCell g (splice hs b [(1, (k : Int), 0)]) j x ↔ SmCell g hs j x ∨ (j = k ∧ ∃ i, i < cn k ∧ x = cellN b k i) := by
    intro j hj x
    constructor
    · rintro ⟨b', i, h1, h2, h3, h4, rfl⟩
      rw [hhd] at h3
      by_cases e : b' = b
      · subst e
        rw [if_pos rfl] at h3
        simp only [Prod.mk.injEq] at h3
        have : j = k := by omega
        subst this
        exact .inr ⟨rfl, i, h4, rfl⟩
      · rw [if_neg e] at h3
        exact .inl ⟨b', i, h1, h2, h3, h4, rfl⟩
    · rintro (⟨b', i, h1, h2, h3, h4, rfl⟩ | ⟨rfl, i, h4, rfl⟩)
      · refine ⟨b', i, h1, h2, ?_, h4, rfl⟩
        rw [hhd, if_neg]
        · exact h3
        · intro e; subst e; rw [h3] at h0; simp at h0
      · exact ⟨b, i, hb, hb2, by rw [hhd, if_pos rfl], h4, rfl⟩
  refine ⟨hno, hun, ⟨by rw [splice_length hfit]; exact hl, h.two, h.big, fun x hx => ?_, ?_, fun b0 hb0 => ?_, fun b0 hb0 => ?_, fun x hx => ?_, ⟨fun j hj => ?_, fun j hj y => ?_⟩⟩, ?_⟩
  · unfold splice at hx
    simp only [List.mem_append, List.mem_singleton] at hx
    rcases hx with (hx | rfl) | hx
    · exact h.right x (List.mem_of_mem_take hx)
    · exact .inr (.inl ⟨rfl, by simp only; omega, by simp only; omega, rfl⟩)
    · exact h.right x (List.mem_of_mem_drop hx)
  · rw [hhd, if_neg (by omega)]; exact h.zero
  · rw [hhd] at hb0
    by_cases e : b0 = b
    · rw [if_pos e] at hb0; simp at hb0
    · rw [if_neg e] at hb0
      obtain ⟨n, hw⟩ := h.whole b0 hb0
      exact ⟨n, hw' hw⟩
  · rw [hhd] at hb0
    by_cases e : b0 = b
    · rw [if_pos e] at hb0; simp at hb0
    · rw [if_neg e] at hb0
      obtain ⟨b1, n, hw, h1, h2⟩ := h.cont b0 hb0
      exact ⟨b1, n, hw' hw, h1, h2⟩
  · rcases h.used x hx with ⟨j, hj, hc⟩ | ⟨b0, n, h1, hw, h2⟩
    · exact .inl ⟨j, hj, (hsm j hj x).2 (.inl hc)⟩
    · exact .inr ⟨b0, n, h1, hw' hw, h2⟩
  · rw [(hacc j hj).nodup_iff]
    by_cases e : j = k
    · subst e
      rw [if_pos rfl, List.nodup_append]
      refine ⟨h.free.nd j hj, cvN_nodup hj (by omega), fun y hy z hz => ?_⟩
      obtain ⟨i, h1, h2, h3, _⟩ := (cvN_mem (by omega)).1 hz
      intro e
      rw [e, h3] at hy
      exact hno i h2 (mem_accL.1 hy)
    · rw [if_neg e]; exact h.free.nd j hj
  · rw [(hacc j hj).mem_iff]
    by_cases e : j = k
    · subst e
      rw [if_pos rfl, List.mem_append, h.free.mem j hj, cvN_mem (by omega)]
      constructor
      · rintro (⟨x, rfl, h1, h2⟩ | ⟨i, h1, h2, rfl, h3⟩)
        · exact ⟨x, rfl, (hsm j hj x).2 (.inl h1), h2⟩
        · exact ⟨_, rfl, (hsm j hj _).2 (.inr ⟨rfl, i, h2, rfl⟩), h3⟩
      · rintro ⟨x, rfl, h1, h2⟩
        rcases (hsm j hj x).1 h1 with h1 | ⟨_, i, h3, rfl⟩
        · exact .inl ⟨x, rfl, h1, h2⟩
        · exact .inr ⟨i, by omega, h3, rfl, h2⟩
    · rw [if_neg e, h.free.mem j hj]
      constructor
      · rintro ⟨x, rfl, h1, h2⟩
        exact ⟨x, rfl, (hsm j hj x).2 (.inl h1), h2⟩
      · rintro ⟨x, rfl, h1, h2⟩
        rcases (hsm j hj x).1 h1 with h1 | ⟨h3, _⟩
        · exact ⟨x, rfl, h1, h2⟩
        · exact absurd h3 e
  · have := hacc k hk
    rw [if_pos rfl] at this
    exact this
theorem drain_acc (L : Nat → List Int) {m : Nat} (hm : m < 4) {j : Nat} (hj : j < 32) : (accL (drF L m 32) j 4).Perm (accL L j 4) := by
  rw [List.perm_iff_count]
  intro y
  rw [accL_count, accL_count]
  have hg := fun x hx => drF_get L hm 32 (by omega) x hx
  have h0 : drF L m 32 j = L j ++ L (ix m j) := by rw [hg j (by omega), if_pos hj, if_pos hj]
  have hc : ∀ m', m' < 4 → drF L m 32 (ix m' j) = if m' = m then [] else L (ix m' j) := by
    intro m' hm'
    rw [hg (ix m' j) (by unfold ix; omega), if_neg (by unfold ix; omega)]
    by_cases e : m' = m
    · subst e; rw [if_pos (by unfold ix; omega), if_pos rfl]
    · rw [if_neg (by unfold ix; omega), if_neg e]
  rw [h0, hc 0 (by omega), hc 1 (by omega), hc 2 (by omega), hc 3 (by omega), List.count_append]
  have : m = 0 ∨ m = 1 ∨ m = 2 ∨ m = 3 := by omega
  rcases this with rfl | rfl | rfl | rfl <;> simp <;> omega
section
variable {B : World} {P R : SL} {t : K}
theorem steal_c {a d g m0 k : Nat} {s : St} (hL : ∀ i, i < 160 → (s.L i).length ≤ 2 ^ 29) (hm : m0 < 4) (hk : k < 32) (he : s.L k = []) {kk : Int × Int → K}
    (h0 : accL s.L k 4 = [] → T B (R * Al a d g s) (kk (0, 4)))
    (h1 : ∀ x L', (accL s.L k 4).Perm (x :: accL L' k 4) → (∀ j, j < 32 → j ≠ k → (accL L' j 4).Perm (accL s.L j 4)) → T B (R * Al a d g { s with L := L' }) (kk (x, 0))) :
    T B (R * Al a d g s) (c_alloc_Allocator_steal (da a) m0 k kk) := by
  refine T_of (alloc_Allocator_steal_ok _ m0 k kk) ?_
  (dsimp only [alloc_Allocator_steal, Zfr0, Zfr1, Zfr2, Zfr3, Zfr4, Zfr5, Zfr6, Zfr7, Zfr8])
  refine T_lpX (fun _ _ => R * Al a d g s) (fun n (z : Int × Unit) => ∃ i : Nat, z.1 = i ∧ i ≤ 4 ∧ n = 4 - i ∧ ∀ m, m < i → s.L (ix m k) = []) 4 rfl ⟨0, rfl, by omega, rfl, fun m h => by omega⟩ ?_
  rintro n ⟨z, u⟩ c ⟨i, e1, e2, e3, e4⟩ hc
  simp only at e1
  subst e1 e3
  (repeat' (with_reducible refine T_brD (fun _ => ?_) (fun _ => ?_)))
  · have hi : i < 4 := by omega
    refine Al_open fun m u f => ?_
    unfold da
    (repeat (first | with_reducible refine T_nn ?_ | ((with_reducible apply T_ldP); (focus rfl); (focus exact hasA); (focus rfl))))
    refine T_bring (X := Fl f s.L) (.init .last) ?_
    refine free_Own_c hi hk ?_
    (repeat' (first | with_reducible refine T_nn ?_ | ((with_reducible apply T_ldP); (focus rfl); (focus exact hasA); (focus rfl)) | with_reducible refine T_brD (fun _ => ?_) (fun _ => ?_)))
    · rename_i hpos
      have hne : s.L (ix i k) ≠ [] := fun h => by rw [h] at hpos; simp at hpos
      refine free_Drain_c (fun j hj => by have := hL j hj; omega) hi ?_
      (repeat (first | with_reducible refine T_nn ?_ | ((with_reducible apply T_ldP); (focus rfl); (focus exact hasA); (focus rfl))))
      have hlen : ∀ j, j < 160 → (drF s.L i 32 j).length ≤ 2 ^ 30 := by
        intro j hj
        rw [drF_get s.L hi 32 (by omega) j hj]
        split
        · rw [List.length_append]
          have h1 := hL j hj
          have h2 := hL (ix i j) (by unfold ix; omega)
          omega
        · split
          · simp
          · have h1 := hL j hj; omega
      have hdk : drF s.L i 32 k = s.L (ix i k) := by rw [drF_get s.L hi 32 (by omega) k (by omega), if_pos hk, if_pos hk, he, List.nil_append]
      refine free_Take_c hlen hm hk (fun h _ => ?_) (fun x L' ht hp => ?_)
      · exfalso; rw [hdk] at h; exact hne h
      · skip
        obtain ⟨p1, p2⟩ := accL_turn (L := drF s.L i 32) (L' := L') hm hk ht (l := []) (l' := [x]) (by rw [List.append_nil]; exact hp.trans (List.perm_append_singleton x _).symm)
        rw [List.append_nil] at p1
        have := h1 x L' (((drain_acc s.L hi hk).symm.trans p1).trans (List.perm_append_singleton x _)) (fun j hj hjk => by rw [p2 j hj hjk]; exact drain_acc s.L hi hj)
        exact T.perm (by unfold da; ac_rfl) (Al_close (a := a) (m := m) (u := u) (f := f) (d := d) (g := g) (R := R) (s := { s with L := L' }) this)
    · rename_i hpos
      have hz : s.L (ix i k) = [] := List.eq_nil_of_length_eq_zero (by omega)
      refine T.perm ?_ (Al_close (a := a) (m := m) (u := u) (f := f) (d := d) (g := g) (R := R) (s := s) (hc (4 - (i + 1)) (IntKind.wrap .i64 ((i : Int) + 1), ()) (by omega) ⟨i + 1, w64 (by omega) (by omega), by omega, rfl, fun m' hm' => ?_⟩))
      · unfold da; ac_rfl
      · by_cases e : m' = i
        · subst e; exact hz
        · exact e4 m' (by omega)
  · refine h0 ?_
    show (((s.L k ++ s.L (ix 0 k)) ++ s.L (ix 1 k)) ++ s.L (ix 2 k)) ++ s.L (ix 3 k) = []
    rw [he, e4 0 (by omega), e4 1 (by omega), e4 2 (by omega), e4 3 (by omega)]; rfl
end
section
set_option maxHeartbeats 1000000
theorem cvN_full {U : Nat → Bool} {b k : Nat} (h : ∀ i, i < cn k → U (cellN b k i) = false) : ∀ t, t ≤ cn k → (cvN U b k t).length = t := by
  intro t
  induction t with
  | zero => intro _; rfl
  | succ t ih =>
    intro ht
    simp only [cvN, List.length_append, ih (by omega)]
    rw [if_neg (by rw [h _ (by omega)]; simp)]; rfl
/-- a small object's cell: where it came from -/
structure RoomS (g : Nat) (s s' : St) (k x : Nat) : Prop where
  inv : Inv g s'.hs (uAdd s.U x) s'.L
  cell : SmCell g s'.hs k x
  un : s.U x = false
  u : s'.U = s.U
  other : ∀ j, j < 32 → j ≠ k → (accL s'.L j 4).length = (accL s.L j 4).length
  from_ : (s'.hs = s.hs ∧ s'.F = s.F ∧ s'.c = s.c ∧ (accL s.L k 4).length = (accL s'.L k 4).length + 1) ∨
    (∃ (b : Nat) (q : Int), 1 ≤ b ∧ b < g ∧ s.F b = some q ∧ 1 ≤ q ∧ (hd s.hs b).1 = 0 ∧ s'.hs = splice s.hs b [(1, (k : Int), 0)] ∧ s'.F = takeF s.F b 1 q ∧ s'.c = wrH s.c b [(1, (k : Int), 0)] ∧ (accL s'.L k 4).length + 1 = (accL s.L k 4).length + cn k)
section
variable {B : World} {P R : SL} {t : K}
theorem room_small_c {a d g m0 k : Nat} {s : St} (inv : Inv g s.hs s.U s.L) (hm : m0 < 4) (hk : k < 32) {o : Ob} (ho : kOf (oSize o) = ((k : Int), true)) {kk : Int × Int → K}
    (h0 : accL s.L k 4 = [] → (∀ q r, s.F q = some r → r < 1) → T B (R * Al a d g s) (kk (0, 4)))
    (h1 : ∀ (x : Nat) s', RoomS g s s' k x → T B (R * Al a d g s') (kk ((x : Int), 0))) :
    T B (R * Al a d g s) (c_alloc_Allocator_room (da a) m0 o kk) := by
  refine T_of (alloc_Allocator_room_ok _ m0 o kk) ?_
  have hL := inv.free.lens inv.big
  have hL30 : ∀ i, i < 160 → (s.L i).length ≤ 2 ^ 30 := fun i hi => by have := hL i hi; omega
  (repeat (first | ((with_reducible apply T_ldI); (focus rfl); (focus exact hasA); (focus rfl)) | (with_reducible refine T_al ?_; intro _)))
  rename_i bo
  refine ohead_Small_c ?_
  rw [show ((o.1, o.2) : Ob) = o from rfl, ho]
  (dsimp only [alloc_Allocator_room, Zfk0, Zfk1, Zfk2, Zfk3, Zfk4, Zfk5, Zfk6, Zfk7, Zfk8, Zfk9, Zfk10, Zfk11, Zfk12, Zfk13, Zfk14, Zfk15, Zfk16, Zfk17, Zfk18, Zfk19, Zfk20, Zfk21, Zfk22])
  simp only [Bool.not_true]
  refine T_drop1 .last ?_
  refine Al_open fun m u f => ?_
  unfold da
  (repeat (first | with_reducible refine T_nn ?_ | with_reducible refine T_brF ?_ | ((with_reducible apply T_ldP); (focus rfl); (focus exact hasA); (focus rfl))))
  refine T_bring (X := Fl f s.L) (.init .last) ?_
  refine free_Take_c hL30 hm hk (fun e1 e2 => ?_) (fun x L' ht hp => ?_)
  · (repeat' (first | with_reducible refine T_nn ?_ | ((with_reducible apply T_ldP); (focus rfl); (focus exact hasA); (focus rfl)) | with_reducible refine T_brE (fun _ => ?_) (fun _ => ?_)))
    · rename_i h; exact absurd h (by decide)
    refine T_bring (X := LDx d (64 * g) s.c) (.init (.init (.init (.init .last)))) ?_
    refine T_bring (X := Mg m d g s.hs s.F) (.init (.init (.init (.init .last)))) ?_
    refine Mg_tie fun tie => ?_
    refine bman_Small_c (n := 64 * g) rfl (by omega) (fun hno => ?_) (fun b q hb hb1 hb2 hq => ?_)
    · (repeat' (first | with_reducible refine T_brE (fun _ => ?_) (fun _ => ?_) | with_reducible refine T_brNE (fun _ => ?_) (fun _ => ?_)))
      · rename_i h; exact absurd h (by decide)
      · rename_i h; exact absurd rfl h
      refine T.perm ?_ (Al_close (a := a) (m := m) (u := u) (f := f) (d := d) (g := g) (R := R) (s := s) (t := c_alloc_Allocator_steal (da a) m0 k fun x86 => kk (x86.1, x86.2)) ?_)
      · unfold da; ac_rfl
      refine steal_c hL hm hk e1 (fun he => ?_) (fun x L' hp ho => ?_)
      · exact h0 he hno
      · obtain ⟨n, rfl, q1, q2, q3⟩ := inv.take hk hp ho
        exact h1 n { s with L := L' } ⟨q3, q1, q2, rfl, fun j hj hjk => (ho j hj hjk).length_eq, .inl ⟨rfl, rfl, rfl, by rw [hp.length_eq]; rfl⟩⟩
    · (repeat' (first | with_reducible refine T_brE (fun _ => ?_) (fun _ => ?_) | with_reducible refine T_brNE (fun _ => ?_) (fun _ => ?_)))
      · have hfree : (hd s.hs b).1 = 0 := by
          have := (tie.fr b).1 ⟨(b : Int), q, hb, by omega, by omega⟩
          rw [Int.toNat_natCast] at this; exact this.2.2
        obtain ⟨g1, g2, g3, g4⟩ := inv.block hk hb1 hb2 hfree
        refine T.perm ?_ (Al_close (a := a) (m := m) (u := u) (f := f) (d := d) (g := g) (R := R) (s := { s with hs := splice s.hs b [(1, (k : Int), 0)], F := takeF s.F b 1 q, c := wrH s.c b [(1, (k : Int), 0)] }) (t := c_alloc_Allocator_carve (da a) b k fun x70 => Zfk3 (da a) m0 kk k) ?_)
        · unfold da; ac_rfl
        refine carve_c (s := { s with hs := splice s.hs b [(1, (k : Int), 0)], F := takeF s.F b 1 q, c := wrH s.c b [(1, (k : Int), 0)] }) inv.big hb1 hb2 hk hL g1 ?_
        refine Al_open fun m2 u2 f2 => ?_
        unfold da
        (repeat (first | with_reducible refine T_nn ?_ | ((with_reducible apply T_ldP); (focus rfl); (focus exact hasA); (focus rfl))))
        refine T_bring (X := Fl f2 (setN s.L k (s.L k ++ cvN s.U b k (cn k)))) (.init .last) ?_
        have hL' := g3.free.lens g3.big
        have hcv := cvN_full (U := s.U) (b := b) (k := k) g2 (cn k) (by omega)
        obtain ⟨_, _, _, _, _, hc2, _, _⟩ := cls_tab k hk
        refine free_Take_c (fun i hi => by have := hL' i hi; omega) hm hk (fun h _ => ?_) (fun x L' ht hp => ?_)
        · exfalso
          rw [setN_same] at h
          have := congrArg List.length h
          rw [List.length_append, hcv] at this
          simp at this; omega
        · skip
          obtain ⟨p1, p2⟩ := accL_turn (L := setN s.L k (s.L k ++ cvN s.U b k (cn k))) (L' := L') hm hk ht (l := []) (l' := [x]) (by rw [List.append_nil]; exact hp.trans (List.perm_append_singleton x _).symm)
          rw [List.append_nil] at p1
          have p1 := p1.trans (List.perm_append_singleton x _)
          obtain ⟨n, rfl, q1, q2, q3⟩ := g3.take hk p1 (fun j hj hjk => by rw [p2 j hj hjk])
          have h2 := h1 n { hs := splice s.hs b [(1, (k : Int), 0)], F := takeF s.F b 1 q, c := wrH s.c b [(1, (k : Int), 0)], U := s.U, L := L' } ⟨q3, q1, q2, rfl, fun j hj hjk => by
              simp only
              rw [p2 j hj hjk]
              have := (accL_turn (L := s.L) (L' := setN s.L k (s.L k ++ cvN s.U b k (cn k))) (m := 0) (by omega) hk (fun i h1 _ => setN_ne _ _ h1) (l := cvN s.U b k (cn k)) (l' := []) (by
                rw [setN_same, setN_ne _ _ (show ix 0 k ≠ k by unfold ix; omega), List.append_nil, List.append_assoc, List.append_assoc]
                exact List.Perm.append_left _ List.perm_append_comm)).2 j hj hjk
              rw [this], .inr ⟨b, q, hb1, hb2, hb, hq, hfree, rfl, rfl, rfl, by
              have e1 := p1.length_eq
              have e2 := g4.length_eq
              rw [List.length_append, hcv] at e2
              simp only [List.length_cons] at e1
              simp only; omega⟩⟩
          exact T.perm (by unfold da; ac_rfl) (Al_close (a := a) (m := m2) (u := u2) (f := f2) (d := d) (g := g) (R := R) h2)
      all_goals (rename_i h h2; first | exact absurd rfl h | exact absurd rfl h2)
  · obtain ⟨p1, p2⟩ := accL_turn (L := s.L) (L' := L') hm hk ht (l := []) (l' := [x]) (by rw [List.append_nil]; exact hp.trans (List.perm_append_singleton x _).symm)
    rw [List.append_nil] at p1
    have p1 := p1.trans (List.perm_append_singleton x _)
    obtain ⟨n, rfl, q1, q2, q3⟩ := inv.take hk p1 (fun j hj hjk => by rw [p2 j hj hjk])
    (repeat' (first | with_reducible refine T_nn ?_ | ((with_reducible apply T_ldP); (focus rfl); (focus exact hasA); (focus rfl)) | with_reducible refine T_brE (fun _ => ?_) (fun _ => ?_)))
    · have h2 := h1 n { s with L := L' } ⟨q3, q1, q2, rfl, fun j hj hjk => by simp only; rw [p2 j hj hjk], .inl ⟨rfl, rfl, rfl, by rw [p1.length_eq]; rfl⟩⟩
      exact T.perm (by unfold da; ac_rfl) (Al_close (a := a) (m := m) (u := u) (f := f) (d := d) (g := g) (R := R) h2)
    · rename_i h; exact absurd rfl h
end
end
section
set_option maxHeartbeats 1000000
theorem kOf_tab : ∀ w : Nat, w < 257 → 1 ≤ w → ∃ k : Nat, k < 32 ∧ kOf (w : Int) = ((k : Int), true) ∧ w ≤ cw k := by decide +kernel
theorem kOf_small {w : Int} (h1 : 1 ≤ w) (h2 : w ≤ 256) : ∃ k : Nat, k < 32 ∧ kOf w = ((k : Int), true) ∧ w ≤ cw k := by
  obtain ⟨n, rfl⟩ := Int.eq_ofNat_of_zero_le (show 0 ≤ w by omega)
  obtain ⟨k, a, b, c⟩ := kOf_tab n (by omega) (by omega)
  exact ⟨k, a, b, by omega⟩
theorem kOf_large {w : Int} (h : ¬ (1 ≤ w ∧ w ≤ 256)) : kOf w = (0, false) := if_neg h
/-- a large object's blocks, taken -/
theorem Inv.large {g : Nat} {hs : List Hd} {U : Nat → Bool} {L : Nat → List Int} (h : Inv g hs U L) {b n : Nat} (hb : 1 ≤ b) (hn : 1 ≤ n) (hn2 : n < 256) (hb2 : b + n ≤ g) (h0 : ∀ i, b ≤ i → i < b + n → (hd hs i).1 = 0) :
    WholeP (splice hs b (runH n)) b n ∧ Inv g (splice hs b (runH n)) (uAdd U (b * 512)) L ∧ U (b * 512) = false := by
  have hl := h.len
  have hrl := runH_len n
  have hfit : b + (runH n).length ≤ hs.length := by omega
  have hhd : ∀ i, hd (splice hs b (runH n)) i = if b ≤ i ∧ i < b + n then (if i = b then (2, 0, (n : Int)) else (3, 0, ((i - b : Nat) : Int))) else hd hs i := by
    intro i
    unfold hd
    rw [splice_getD hfit, hrl]
    by_cases e : b ≤ i ∧ i < b + n
    · rw [if_pos e, if_pos e, List.getD_eq_getElem?_getD, runH_get n (by omega)]
      by_cases e2 : i = b
      · rw [if_pos (by omega), if_pos e2]; rfl
      · rw [if_neg (by omega), if_neg e2]; rfl
    · rw [if_neg e, if_neg e]
  have hwn : WholeP (splice hs b (runH n)) b n := by
    refine ⟨hn, by rw [splice_length hfit]; omega, ?_, ?_, fun i h1 h2 => ?_⟩
    · have := hhd b; unfold hd at this; rw [this, if_pos (by omega), if_pos rfl]
    · have := hhd b; unfold hd at this; rw [this, if_pos (by omega), if_pos rfl]
    · have := hhd (b + i); unfold hd at this; rw [this, if_pos (by omega), if_neg (by omega)]
      congr 2; omega
  have hw' : ∀ {b0 n0}, WholeP hs b0 n0 → WholeP (splice hs b (runH n)) b0 n0 := by
    intro b0 n0 hw
    refine hw.keep (splice_length hfit) fun i h1 h2 => ?_
    rw [hhd, if_neg]
    intro e
    have := h0 i e.1 e.2
    rcases hw.kind h1 h2 with ⟨_, h3⟩ | ⟨_, h3⟩ <;> omega
  have hsm : ∀ j x, SmCell g (splice hs b (runH n)) j x ↔ SmCell g hs j x := by
    intro j x
    constructor
    · rintro ⟨b', i, h1, h2, h3, h4, rfl⟩
      rw [hhd] at h3
      by_cases e : b ≤ b' ∧ b' < b + n
      · rw [if_pos e] at h3
        split at h3 <;> simp at h3
      · rw [if_neg e] at h3
        exact ⟨b', i, h1, h2, h3, h4, rfl⟩
    · rintro ⟨b', i, h1, h2, h3, h4, rfl⟩
      refine ⟨b', i, h1, h2, ?_, h4, rfl⟩
      rw [hhd, if_neg]
      · exact h3
      · intro e
        have := h0 b' e.1 e.2
        rw [h3] at this; simp at this
  have hun : U (b * 512) = false := h.free_unused (.inl (h0 b (by omega) (by omega))) (by omega)
  refine ⟨hwn, ⟨by rw [splice_length hfit]; exact hl, h.two, h.big, fun x hx => ?_, ?_, fun b0 hb0 => ?_, fun b0 hb0 => ?_, fun x hx => ?_, ⟨h.free.nd, fun j hj y => ?_⟩⟩, hun⟩
  · unfold splice at hx
    simp only [List.mem_append] at hx
    rcases hx with (hx | hx) | hx
    · exact h.right x (List.mem_of_mem_take hx)
    · exact (runH_right hn2 x hx).1
    · exact h.right x (List.mem_of_mem_drop hx)
  · rw [hhd, if_neg (by omega)]; exact h.zero
  · rw [hhd] at hb0
    by_cases e : b ≤ b0 ∧ b0 < b + n
    · rw [if_pos e] at hb0
      by_cases e2 : b0 = b
      · subst e2; exact ⟨n, hwn⟩
      · rw [if_neg e2] at hb0; simp at hb0
    · rw [if_neg e] at hb0
      obtain ⟨n', hw⟩ := h.whole b0 hb0
      exact ⟨n', hw' hw⟩
  · rw [hhd] at hb0
    by_cases e : b ≤ b0 ∧ b0 < b + n
    · rw [if_pos e] at hb0
      by_cases e2 : b0 = b
      · rw [if_pos e2] at hb0; simp at hb0
      · exact ⟨b, n, hwn, by omega, by omega⟩
    · rw [if_neg e] at hb0
      obtain ⟨b1, n', hw, h1, h2⟩ := h.cont b0 hb0
      exact ⟨b1, n', hw' hw, h1, h2⟩
  · unfold uAdd at hx
    simp only [Bool.or_eq_true, beq_iff_eq] at hx
    rcases hx with rfl | hx
    · exact .inr ⟨b, n, hb, hwn, rfl⟩
    · rcases h.used x hx with ⟨j, hj, hc⟩ | ⟨b0, n0, h1, hw, h2⟩
      · exact .inl ⟨j, hj, (hsm j x).2 hc⟩
      · exact .inr ⟨b0, n0, h1, hw' hw, h2⟩
  · rw [h.free.mem j hj]
    constructor
    · rintro ⟨x, rfl, h1, h2⟩
      refine ⟨x, rfl, (hsm j x).2 h1, ?_⟩
      unfold uAdd
      have : x ≠ b * 512 := by
        intro e
        obtain ⟨b', i, g1, g2, g3, g4, g5⟩ := h1
        have e3 := cellN_blk (b := b') hj g4
        have : b' = b := by omega
        subst this
        have := h0 b' (by omega) (by omega)
        rw [g3] at this; simp at this
      simp [this, h2]
    · rintro ⟨x, rfl, h1, h2⟩
      unfold uAdd at h2
      simp only [Bool.or_eq_false_iff] at h2
      exact ⟨x, rfl, (hsm j x).1 h1, h2.2⟩
/-- a large object's blocks: where they came from -/
structure RoomL (g : Nat) (s s' : St) (n x : Nat) : Prop where
  inv : Inv g s'.hs (uAdd s.U x) s'.L
  un : s.U x = false
  u : s'.U = s.U
  l : s'.L = s.L
  from_ : ∃ (b : Nat) (q : Int), x = b * 512 ∧ 1 ≤ b ∧ b + n ≤ g ∧ WholeP s'.hs b n ∧ s.F b = some q ∧ (n : Int) ≤ q ∧ (∀ r q', s.F r = some q' → (n : Int) ≤ q' → q < q' ∨ q = q' ∧ (b : Int) ≤ r) ∧
    s'.hs = splice s.hs b (runH n) ∧ s'.F = takeF s.F b n q ∧ s'.c = wrH s.c b (runH n)
section
variable {B : World} {P R : SL} {t : K}
theorem room_large_c {a d g : Nat} {m0 : Int} {n : Nat} {s : St} (inv : Inv g s.hs s.U s.L) {o : Ob} (ho : kOf (oSize o) = (0, false)) (hn : oBlocks o = n) (hn1 : 1 ≤ n) (hn2 : n < 256) {kk : Int × Int → K}
    (h0 : (∀ q r, s.F q = some r → r < n) → T B (R * Al a d g s) (kk (0, 4)))
    (h1 : ∀ (x : Nat) s', RoomL g s s' n x → T B (R * Al a d g s') (kk ((x : Int), 0))) :
    T B (R * Al a d g s) (c_alloc_Allocator_room (da a) m0 o kk) := by
  refine T_of (alloc_Allocator_room_ok _ m0 o kk) ?_
  have hg := inv.big
  (repeat (first | ((with_reducible apply T_ldI); (focus rfl); (focus exact hasA); (focus rfl)) | (with_reducible refine T_al ?_; intro _)))
  rename_i bo
  refine ohead_Small_c ?_
  rw [show ((o.1, o.2) : Ob) = o from rfl, ho]
  (dsimp only [alloc_Allocator_room, Zfk0, Zfk1, Zfk2, Zfk3, Zfk4, Zfk5, Zfk6, Zfk7, Zfk8, Zfk9, Zfk10, Zfk11, Zfk12, Zfk13, Zfk14, Zfk15, Zfk16, Zfk17, Zfk18, Zfk19, Zfk20, Zfk21, Zfk22])
  simp only [Bool.not_false]
  refine T_bring (X := Al a d g s) (.init .last) ?_
  refine Al_open fun m u f => ?_
  unfold da
  (repeat (first | with_reducible refine T_nn ?_ | with_reducible refine T_tick ?_ | with_reducible refine T_brT ?_ | ((with_reducible apply T_ldI); (focus rfl); (focus exact hasA); (focus rfl)) | ((with_reducible apply T_ldP); (focus rfl); (focus exact hasA); (focus rfl))))
  refine ohead_Blocks_c ?_
  rw [show ((o.1, o.2) : Ob) = o from rfl, hn]
  (repeat (first | with_reducible refine T_chk0 ?_ | ((with_reducible apply T_chk); (focus rfl); (focus exact hasA); (focus rfl))))
  refine T_bring (X := LDx d (64 * g) s.c) (.init (.init (.init (.init .last)))) ?_
  refine T_bring (X := Mg m d g s.hs s.F) (.init (.init (.init (.init .last)))) ?_
  refine Mg_tie fun tie => ?_
  refine bman_Large_c (n := 64 * g) rfl ⟨hn1, hn2⟩ (fun hno => ?_) (fun b q hb hq hmin hb1 hb2 => ?_)
  · (repeat' (first | with_reducible refine T_nn ?_ | ((with_reducible apply T_ldI); (focus rfl); (focus exact hasA); (focus rfl)) | with_reducible refine T_brNE (fun _ => ?_) (fun _ => ?_)))
    · refine T_drop1 (.init (.init (.init (.init (.init .last))))) ?_
      exact T.perm (by unfold da; ac_rfl) (Al_close (a := a) (m := m) (u := u) (f := f) (d := d) (g := g) (R := R) (s := s) (h0 hno))
    · rename_i h; exact absurd h (by decide)
  · (repeat' (first | with_reducible refine T_nn ?_ | ((with_reducible apply T_ldI); (focus rfl); (focus exact hasA); (focus rfl)) | with_reducible refine T_brNE (fun _ => ?_) (fun _ => ?_)))
    · rename_i h; exact absurd rfl h
    refine geom_First_c (by omega) ?_
    have hf : first g (b : Int) = ((b * 512 : Nat) : Int) := by unfold first; rw [if_neg (by omega)]; omega
    rw [hf]
    have hfree : ∀ i, b ≤ i → i < b + n → (hd s.hs i).1 = 0 := by
      intro i h1 h2
      have := (tie.fr i).1 ⟨(b : Int), q, hb, by omega, by omega⟩
      rw [Int.toNat_natCast] at this; exact this.2.2
    obtain ⟨w1, w2, w3⟩ := inv.large hb1 hn1 hn2 hb2 hfree
    have h2 := h1 (b * 512) { s with hs := splice s.hs b (runH n), F := takeF s.F b n q, c := wrH s.c b (runH n) } ⟨w2, w3, rfl, rfl, b, q, rfl, hb1, hb2, w1, hb, hq, hmin, rfl, rfl, rfl⟩
    refine T_drop1 (.init (.init (.init (.init (.init .last))))) ?_
    exact T.perm (by unfold da; ac_rfl) (Al_close (a := a) (m := m) (u := u) (f := f) (d := d) (g := g) (R := R) h2)
end
end
section
set_option maxHeartbeats 1000000
def RoomR (g : Nat) (s : St) (o : Ob) (s1 : St) (x : Nat) : Prop :=
  (∃ k : Nat, k < 32 ∧ kOf (oSize o) = ((k : Int), true) ∧ oSize o ≤ cw k ∧ RoomS g s s1 k x) ∨ (∃ n : Nat, kOf (oSize o) = (0, false) ∧ oBlocks o = n ∧ 1 ≤ n ∧ n < 256 ∧ RoomL g s s1 n x)
def made (s1 : St) (o : Ob) (x : Nat) : St := { s1 with c := (zerN s1.c x (oSize o).toNat).set x (oenc x o), U := uAdd s1.U x }
def NoRoom (s : St) (o : Ob) : Prop :=
  (∃ k : Nat, k < 32 ∧ kOf (oSize o) = ((k : Int), true) ∧ accL s.L k 4 = [] ∧ ∀ q r, s.F q = some r → r < 1) ∨ (∃ n : Nat, kOf (oSize o) = (0, false) ∧ oBlocks o = n ∧ 1 ≤ n ∧ n < 256 ∧ ∀ q r, s.F q = some r → r < n)
theorem RoomR.inv {g : Nat} {s s1 : St} {o : Ob} {x : Nat} (h : RoomR g s o s1 x) : Inv g s1.hs (uAdd s.U x) s1.L ∧ s.U x = false ∧ s1.U = s.U := by
  rcases h with ⟨k, _, _, _, h⟩ | ⟨n, _, _, _, _, h⟩
  · exact ⟨h.inv, h.un, h.u⟩
  · exact ⟨h.inv, h.un, h.u⟩
theorem RoomR.fits {g : Nat} {s s1 : St} {o : Ob} {x : Nat} (h : RoomR g s o s1 x) (h1 : oSize o ≠ 0) : (x : Int) + oSize o ≤ 512 * g ∧ 512 ≤ x := by
  have hr := oSize_rng o
  rcases h with ⟨k, hk, hko, hs, h⟩ | ⟨n, hk, hb, _, _, h⟩
  · obtain ⟨b, i, h1, h2, h3, h4, rfl⟩ := h.cell
    have := cellN_rng (b := b) hk h4
    omega
  · obtain ⟨b, q, rfl, h1, h2, h3, _⟩ := h.from_
    unfold oBlocks at hb
    have : ¬ (1 ≤ oSize o ∧ oSize o ≤ 256) := by
      intro hh
      unfold kOf at hk
      rw [if_pos hh] at hk
      simp at hk
    rw [if_neg this] at hb
    omega
theorem HLs.made {n x z : Nat} {v : Int} {c la : List Int} (hx : 512 ≤ x) (hn : n / 64 ≤ 256) (h : HLs n c la) : HLs n ((zerN c x z).set x v) la := by
  intro i h1 h2
  rw [h i h1 h2, List.getElem?_set, if_neg (by omega), zerN_get, if_neg (by omega)]
section
variable {B : World} {P R : SL} {t : K}
theorem Alloc_c {a d g : Nat} {s : St} (inv : Inv g s.hs s.U s.L) {m p q : Int} {kk : Int × Int → K} (hg8 : (g - 1 : Nat) * 512 < 255 * 512)
    (hA : ¬ (0 ≤ m ∧ m < 4) → T B (R * Al a d g s) (kk (0, 1)))
    (hS : 0 ≤ m → m < 4 → (oSize (p, q) = 0 ∨ ((g : Int) - 1) * 512 < oSize (p, q)) → T B (R * Al a d g s) (kk (0, 5)))
    (h0 : 0 ≤ m → m < 4 → oSize (p, q) ≠ 0 → oSize (p, q) ≤ ((g : Int) - 1) * 512 → NoRoom s (p, q) → T B (R * Al a d g s) (kk (0, 4)))
    (h1 : 0 ≤ m → m < 4 → oSize (p, q) ≠ 0 → oSize (p, q) ≤ ((g : Int) - 1) * 512 → ∀ (x : Nat) s1, RoomR g s (p, q) s1 x → T B (R * Al a d g (made s1 (p, q) x)) (kk ((x : Int), 0))) :
    T B (R * Al a d g s) (c_alloc_Allocator_Alloc (da a) m p q kk) := by
  refine T_of (alloc_Allocator_Alloc_ok _ m p q kk) ?_
  have hg := inv.big
  have hg2 := inv.two
  have hr := oSize_rng (p, q)
  (repeat' (first | with_reducible refine T_tick ?_ | with_reducible refine T_brT ?_ | ((with_reducible apply T_ldI); (focus rfl); (focus exact hasA); (focus rfl)) | (with_reducible refine T_al ?_; intro _) | ((with_reducible apply T_st); (focus rfl); (focus exact updA); (focus simp); simp only [List.set, Nat.zero_add, Nat.reduceAdd]) | with_reducible refine T_brD (fun _ => ?_) (fun _ => ?_)))
  · refine T_drop1 .last ?_
    exact hA (by omega)
  · refine T_drop1 .last ?_
    exact hA (by omega)
  rename_i b hm1 hm2
  refine ohead_Size_c ?_
  (repeat' (first | with_reducible refine T_brT ?_ | ((with_reducible apply T_ldI); (focus rfl); (focus exact hasA); (focus rfl)) | with_reducible refine T_brE (fun _ => ?_) (fun _ => ?_)))
  · rename_i hz
    refine T_drop1 .last ?_
    exact hS (by omega) (by omega) (.inl hz)
  rename_i hz
  refine T_bring (X := Al a d g s) (.init .last) ?_
  -- the heap's geometry
  have rest : T B (R * pt b (.cells [.int .i64 p, .int .i64 q].toArray 68) * Al a d g s) (Zfg12 (da a) m kk ⟨b, 0, none⟩ (decide (oSize (p, q) > max 0 ((g : Int) - 1) * 512))) := by
    (repeat' (first | ((with_reducible apply T_ldI); (focus rfl); (focus exact hasA); (focus rfl)) | with_reducible refine T_brD (fun _ => ?_) (fun _ => ?_)))
    · rename_i hgt
      refine T_drop1 (.init .last) ?_
      exact hS (by omega) (by omega) (.inr (by omega))
    rename_i hle
    have hle2 : oSize (p, q) ≤ ((g : Int) - 1) * 512 := by omega
    obtain ⟨m0, rfl⟩ := Int.eq_ofNat_of_zero_le (show 0 ≤ m by omega)
    have h0' := h0 (by omega) (by omega) hz hle2
    have h1' := h1 (by omega) (by omega) hz hle2
    -- behind the room
    have fin : ∀ (x : Nat) s1, RoomR g s (p, q) s1 x → T B (R * pt b (.cells [.int .i64 p, .int .i64 q].toArray 68) * Al a d g s1) (Zfg8 (da a) kk ⟨b, 0, none⟩ (x : Int) 0) := by
      intro x s1 hrr
      have hkk := h1' x s1 hrr
      obtain ⟨f1, f2⟩ := hrr.fits hz
      obtain ⟨_, hun, hu⟩ := hrr.inv
      (repeat' (first | with_reducible refine T_tick ?_ | with_reducible refine T_brNE (fun _ => ?_) (fun _ => ?_)))
      · rename_i h; exact absurd rfl h
      refine T_bring (X := Al a d g s1) .last ?_
      refine Al_open fun mm u f => ?_
      unfold da
      (repeat (first | with_reducible refine T_nn ?_ | ((with_reducible apply T_ldI); (focus rfl); (focus exact hasA); (focus rfl)) | ((with_reducible apply T_ldP); (focus rfl); (focus exact hasA); (focus rfl))))
      refine T_bring (X := LDx d (64 * g) s1.c) (.init (.init (.init (.init .last)))) ?_
      refine LDx_open fun la hla => ?_
      refine object_Init_c (o := (p, q)) hz (by omega) ?_
      (repeat' (first | with_reducible refine T_nn ?_ | ((with_reducible apply T_ldP); (focus rfl); (focus exact hasA); (focus rfl)) | with_reducible refine T_brNE (fun _ => ?_) (fun _ => ?_)))
      · rename_i h; exact absurd rfl h
      refine LDx_close (hla.made (by omega) (by omega)) ?_
      refine T_bring (X := Bm u (512 * g) s1.U) (.init (.init (.init .last))) ?_
      refine bitmap_Add_c (fun h => ?_) (fun _ _ _ => ?_)
      · exact absurd ⟨by omega, by omega, by rw [Int.toNat_natCast, hu]; exact hun⟩ h
      rw [Int.toNat_natCast]
      refine T_drop1 (.init (.init (.init (.init (.init .last))))) ?_
      exact T.perm (by unfold da; ac_rfl) (Al_close (a := a) (m := mm) (u := u) (f := f) (d := d) (g := g) (R := R) (s := made s1 (p, q) x) hkk)
    skip
    by_cases hsm : oSize (p, q) ≤ 256
    · obtain ⟨k, k1, k2, k3⟩ := kOf_small (w := oSize (p, q)) (by omega) hsm
      refine room_small_c inv (by omega) k1 k2 (fun e1 e2 => ?_) (fun x s1 h => ?_)
      · (repeat' (first | with_reducible refine T_tick ?_ | with_reducible refine T_brNE (fun _ => ?_) (fun _ => ?_)))
        · refine T_drop1 (.init .last) ?_
          exact h0' (.inl ⟨k, k1, k2, e1, e2⟩)
        · rename_i h; exact absurd h (by decide)
      · exact fin x s1 (.inl ⟨k, k1, k2, k3, h⟩)
    · have k2 := kOf_large (w := oSize (p, q)) (by omega)
      obtain ⟨n, hn⟩ := Int.eq_ofNat_of_zero_le (show 0 ≤ oBlocks (p, q) by unfold oBlocks; split <;> omega)
      have hb : oBlocks (p, q) = (oSize (p, q) + 511) / 512 := by unfold oBlocks; rw [if_neg (by omega)]
      refine room_large_c (n := n) inv k2 hn (by omega) (by omega) (fun e1 => ?_) (fun x s1 h => ?_)
      · (repeat' (first | with_reducible refine T_tick ?_ | with_reducible refine T_brNE (fun _ => ?_) (fun _ => ?_)))
        · refine T_drop1 (.init .last) ?_
          exact h0' (.inr ⟨n, k2, hn, by omega, by omega, e1⟩)
        · rename_i h; exact absurd h (by decide)
      · exact fin x s1 (.inr ⟨n, k2, hn, by omega, by omega, h⟩)
  refine Al_open fun mm u f => ?_
  unfold da
  (repeat (first | with_reducible refine T_nn ?_ | ((with_reducible apply T_ldI); (focus rfl); (focus exact hasA); (focus rfl))))
  refine ohead_Size_c ?_
  (repeat (first | with_reducible refine T_chk0 ?_ | ((with_reducible apply T_chk); (focus rfl); (focus exact hasA); (focus rfl))))
  refine geom_Most_c (by omega) (by omega) ?_
  exact T.perm (by unfold da; ac_rfl) (Al_close (a := a) (m := mm) (u := u) (f := f) (d := d) (g := g) (s := s) rest)
end
end
section
set_option maxHeartbeats 1000000
/-- an object stands at an address -/
def PlOk (c : List Int) (n : Nat) (hs : List Hd) (g at_ : Int) (o : Ob) : Prop := oHead c n at_ = (o, 0) ∧ 1 ≤ blockOf g at_ ∧ blockOf g at_ < hs.length ∧
  ((∃ k : Nat, k < 32 ∧ kOf (oSize o) = ((k : Int), true) ∧ (cellOf g k at_).2 = true ∧ hd hs (blockOf g at_).toNat = (1, (k : Int), 0)) ∨
   (kOf (oSize o) = (0, false) ∧ ∃ m : Nat, WholeP hs (blockOf g at_).toNat m ∧ at_ = first g (blockOf g at_) ∧ (m : Int) = oBlocks o))
section
variable {B : World} {P R : SL} {t : K}
theorem Placed_c {d n : Nat} {c : List Int} {g at_ : Int} {hs : List Hd} {x : Sl} (hg : 0 ≤ g) (hg2 : g ≤ 2 ^ 20) (hl : hs.length ≤ 2 ^ 20) (hx : Rd R x 3 (hds hs)) {kk : Ob × Bool → K}
    (h1 : ∀ o, PlOk c n hs g at_ o → T B (R * LDx d n c) (kk (o, true))) (h0 : (∀ o, ¬ PlOk c n hs g at_ o) → ∀ o, T B (R * LDx d n c) (kk (o, false))) :
    T B (R * LDx d n c) (c_alloc_Placed (da d) g x at_ kk) := by
  refine T_of (alloc_Placed_ok _ g x at_ kk) ?_
  refine T_rdlen hx.init fun hxn => ?_
  rw [hds_len] at hxn
  have hxl : x.n = hs.length := by omega
  (repeat (first | ((with_reducible apply T_ldI); (focus rfl); (focus exact hasA); (focus rfl)) | (with_reducible refine T_al ?_; intro _)))
  refine geom_BlockOf_c (by omega) (by omega) ?_
  (repeat' (first | with_reducible refine T_brT ?_ | ((with_reducible apply T_ldI); (focus rfl); (focus exact hasA); (focus rfl)) | ((with_reducible apply T_st); (focus rfl); (focus exact updA); (focus simp); simp only [List.set, Nat.zero_add, Nat.reduceAdd]) | with_reducible refine T_brD (fun _ => ?_) (fun _ => ?_)))
  · rename_i b3 b4 hlt
    refine T_drop1 .last (T_drop1 .last ?_)
    exact h0 (fun o ho => by have := ho.2.1; omega) _
  · rename_i b3 b4 hn1 hlt
    refine T_drop1 .last (T_drop1 .last ?_)
    exact h0 (fun o ho => by have := ho.2.2.1; omega) _
  rename_i b3 b4 hb1 hb2
  obtain ⟨b, hb⟩ := Int.eq_ofNat_of_zero_le (show 0 ≤ blockOf g at_ by omega)
  have hlt : b < hs.length := by omega
  have hhd : hd hs b = hs[b] := getD_eq hlt _
  refine T_bring (X := LDx d n c) (.init (.init .last)) ?_
  refine LDx_open fun la hla => ?_
  refine object_Head_c ?_
  refine LDx_close hla ?_
  generalize hoh : oHead c n at_ = oe
  obtain ⟨⟨o1, o2⟩, e⟩ := oe
  simp only
  (repeat' (first | ((with_reducible apply T_ldI); (focus rfl); (focus exact hasA); (focus rfl)) | (with_reducible refine T_al ?_; intro _) | ((with_reducible apply T_st); (focus rfl); (focus exact updA); (focus simp); simp only [List.set, Nat.zero_add, Nat.reduceAdd]) | with_reducible refine T_brNE (fun _ => ?_) (fun _ => ?_)))
  · rename_i b2 hne
    refine T_drop1 .last ?_
    refine T_drop1 (.init .last) (T_drop1 (.init .last) ?_)
    exact h0 (fun o ho => by rw [ho.1] at hoh; simp only [Prod.mk.injEq] at hoh; exact hne hoh.2.symm) _
  rename_i b2 he
  subst he
  rw [hb]
  refine T_ixH (l := hs) hx.init.init.init.init (by omega) (by rw [Int.toNat_natCast]; exact hlt) fun a ha => ?_
  simp only [Int.toNat_natCast] at ha
  refine T_ldAt ha rfl ?_
  refine T_ldAt ha rfl ?_
  refine T_ldAt ha rfl ?_
  (repeat (first | ((with_reducible apply T_ldI); (focus rfl); (focus exact hasA); (focus rfl)) | (with_reducible refine T_al ?_; intro _) | ((with_reducible apply T_st); (focus rfl); (focus exact updA); (focus simp); simp only [List.set, Nat.zero_add, Nat.reduceAdd])))
  refine ohead_Small_c ?_
  by_cases hs1 : 1 ≤ oSize (o1, o2) ∧ oSize (o1, o2) ≤ 256
  · obtain ⟨k, k1, k2, k3⟩ := kOf_small hs1.1 hs1.2
    rw [k2]
    (repeat (first | with_reducible refine T_brT ?_ | ((with_reducible apply T_ldI); (focus rfl); (focus exact hasA); (focus rfl))))
    refine cells_At_c (by omega) (by omega) ?_
    generalize hce : cellOf g k at_ = ce
    obtain ⟨⟨c1, c2⟩, cb⟩ := ce
    have hno : (cb = true → hs[b] = (1, (k : Int), 0) → False) → ∀ o, ¬ PlOk c n hs g at_ o := by
      intro hn o ho
      obtain ⟨g1, g2, g3, g4⟩ := ho
      rw [hoh] at g1
      simp only [Prod.mk.injEq, and_true] at g1
      subst g1
      rcases g4 with ⟨k', h1', h2', h3', h4'⟩ | ⟨h2', _⟩
      · rw [k2] at h2'
        simp only [Prod.mk.injEq, Int.natCast_inj, and_true] at h2'
        subst h2'
        rw [hce] at h3'
        rw [hb, Int.toNat_natCast, hhd] at h4'
        exact hn h3' h4'
      · rw [k2] at h2'; simp at h2'
    cases cb
    · (repeat (first | with_reducible refine T_tick ?_ | with_reducible refine T_brF ?_ | ((with_reducible apply T_ldI); (focus rfl); (focus exact hasA); (focus rfl)) | (with_reducible refine T_al ?_; intro _) | ((with_reducible apply T_st); (focus rfl); (focus exact updA); (focus simp); simp only [List.set, Nat.zero_add, Nat.reduceAdd])))
      refine T_bring (X := LDx d n c) (by exact frmA) ?_
      repeat refine T_drop1 (.init .last) ?_
      exact h0 (hno fun h => by cases h) _
    · (repeat (first | with_reducible refine T_tick ?_ | with_reducible refine T_brT ?_ | with_reducible refine T_chk0 ?_ | ((with_reducible apply T_ldI); (focus rfl); (focus exact hasA); (focus rfl)) | (with_reducible refine T_al ?_; intro _) | ((with_reducible apply T_st); (focus rfl); (focus exact updA); (focus simp); simp only [List.set, Nat.zero_add, Nat.reduceAdd]) | ((with_reducible apply T_chk); (focus rfl); (focus exact hasA); (focus rfl))))
      refine T_bring (X := LDx d n c) (by exact frmA) ?_
      repeat refine T_drop1 (.init .last) ?_
      by_cases hq : hs[b] = (1, (k : Int), 0)
      · rw [hq]
        simp only [BEq.rfl, Bool.and_true]
        exact h1 (o1, o2) ⟨hoh, by omega, by omega, .inl ⟨k, k1, k2, by rw [hce], by rw [hb, Int.toNat_natCast, hhd, hq]⟩⟩
      · have : (hs[b].1 == 1 && (hs[b].2.1 == (k : Int) && (hs[b].2.2 == 0 && true))) = false := by
          cases hc2 : (hs[b].1 == 1 && (hs[b].2.1 == (k : Int) && (hs[b].2.2 == 0 && true))) with
          | false => rfl
          | true =>
            simp only [Bool.and_eq_true, beq_iff_eq, Bool.and_true] at hc2
            exact absurd (Prod.ext hc2.1 (Prod.ext hc2.2.1 hc2.2.2)) hq
        rw [this]
        exact h0 (hno fun _ h => hq h) _
  · have k2 := kOf_large hs1
    rw [k2]
    (repeat (with_reducible refine T_brF ?_))
    have hno : (∀ m : Nat, WholeP hs b m → at_ = first g (b : Int) → (m : Int) = oBlocks (o1, o2) → False) → ∀ o, ¬ PlOk c n hs g at_ o := by
      intro hn o ho
      obtain ⟨g1, g2, g3, g4⟩ := ho
      rw [hoh] at g1
      simp only [Prod.mk.injEq, and_true] at g1
      subst g1
      rcases g4 with ⟨k', h1', h2', h3', h4'⟩ | ⟨h2', m, h3', h4', h5'⟩
      · rw [k2] at h2'; simp at h2'
      · rw [hb] at h3' h4'
        exact hn m h3' h4' h5'
    refine bhead_Whole_c (hs := hs) (by omega) (by omega) hx.init.init.init.init.init (fun bb m e1 hw => ?_) (fun hw => ?_)
    · have e2 : bb = b := by omega
      subst e2
      (repeat (first | with_reducible refine T_tick ?_ | with_reducible refine T_brT ?_ | ((with_reducible apply T_ldI); (focus rfl); (focus exact hasA); (focus rfl))))
      refine geom_First_c (by omega) ?_
      (repeat' (first | with_reducible refine T_chk0 ?_ | ((with_reducible apply T_ldI); (focus rfl); (focus exact hasA); (focus rfl)) | ((with_reducible apply T_st); (focus rfl); (focus exact updA); (focus simp); simp only [List.set, Nat.zero_add, Nat.reduceAdd]) | ((with_reducible apply T_chk); (focus rfl); (focus exact hasA); (focus rfl)) | with_reducible refine T_brE (fun _ => ?_) (fun _ => ?_)))
      · rename_i hf
        refine ohead_Blocks_c ?_
        (repeat (first | with_reducible refine T_chk0 ?_ | ((with_reducible apply T_ldI); (focus rfl); (focus exact hasA); (focus rfl)) | ((with_reducible apply T_st); (focus rfl); (focus exact updA); (focus simp); simp only [List.set, Nat.zero_add, Nat.reduceAdd]) | ((with_reducible apply T_chk); (focus rfl); (focus exact hasA); (focus rfl))))
        refine T_bring (X := LDx d n c) (by exact frmA) ?_
        repeat refine T_drop1 (.init .last) ?_
        by_cases hq : (m : Int) = oBlocks (o1, o2)
        · rw [← hq]
          simp only [BEq.rfl]
          exact h1 (o1, o2) ⟨hoh, by omega, by omega, .inr ⟨k2, m, by rw [hb]; exact hw, by rw [hb]; exact hf, hq⟩⟩
        · have : ((m : Int) == oBlocks (o1, o2)) = false := by simpa using hq
          rw [this]
          exact h0 (hno fun m' h1' h2' h3' => hq (by have := hw.uniq h1'; subst this; exact h3')) _
      · rename_i hf
        refine T_bring (X := LDx d n c) (by exact frmA) ?_
        repeat refine T_drop1 (.init .last) ?_
        exact h0 (hno fun m' h1' h2' h3' => hf h2') _
    · (repeat (first | with_reducible refine T_tick ?_ | with_reducible refine T_brF ?_ | ((with_reducible apply T_ldI); (focus rfl); (focus exact hasA); (focus rfl)) | ((with_reducible apply T_st); (focus rfl); (focus exact updA); (focus simp); simp only [List.set, Nat.zero_add, Nat.reduceAdd])))
      refine T_bring (X := LDx d n c) (by exact frmA) ?_
      repeat refine T_drop1 (.init .last) ?_
      exact h0 (hno fun m' h1' h2' h3' => hw b m' rfl h1') _
theorem Place_c {a d g : Nat} {s : St} {at_ : Int} (inv : Inv g s.hs s.U s.L) {kk : Ob × Bool → K}
    (h1 : ∀ o, PlOk s.c (64 * g) s.hs g at_ o → T B (R * Al a d g s) (kk (o, true))) (h0 : (∀ o, ¬ PlOk s.c (64 * g) s.hs g at_ o) → ∀ o, T B (R * Al a d g s) (kk (o, false))) :
    T B (R * Al a d g s) (c_alloc_Allocator_Place (da a) at_ kk) := by
  refine T_of (alloc_Allocator_Place_ok _ at_ kk) ?_
  have hg := inv.big
  have hl := inv.len
  refine Al_open fun m u f => ?_
  unfold da
  (repeat (first | with_reducible refine T_nn ?_ | with_reducible refine T_tick ?_ | ((with_reducible apply T_ldI); (focus rfl); (focus exact hasA); (focus rfl)) | ((with_reducible apply T_ldP); (focus rfl); (focus exact hasA); (focus rfl)) | (with_reducible refine T_al ?_; intro _)))
  rename_i b0
  refine T_bring (X := Mg m d g s.hs s.F) (by exact frmA) ?_
  refine Mg_open fun tt x tie => ?_
  unfold da
  (repeat (((with_reducible apply T_ldP); (focus rfl); (focus exact hasA); (focus rfl))))
  refine T_bring (X := Tab tt d g s.hs) (by exact frmA) ?_
  refine blocks_All_c (by omega) fun sl => ?_
  (repeat (first | with_reducible refine T_chk0 ?_ | ((with_reducible apply T_chk); (focus rfl); (focus exact hasA); (focus rfl))))
  refine T_bring (X := LDx d (64 * g) s.c) (by exact frmA) ?_
  have cl : ∀ (o : Ob) (b : Bool), T B (R * Al a d g s) (kk (o, b)) → T B (R * Bm u (512 * g) s.U * Fl f s.L * pt a (.cells [.pointer (some ⟨m, 0, none⟩), .pointer (some ⟨d, 0, none⟩), .int .i64 g, .pointer (some ⟨u, 0, none⟩), .pointer (some ⟨f, 0, none⟩)].toArray 47) * pt b0 (.cells [.int .i64 o.1, .int .i64 o.2].toArray 68) * Idx x g s.F * pt m (.cells [.pointer (some ⟨tt, 0, none⟩), .pointer (some ⟨x, 0, none⟩), .int .i64 g].toArray 51) * Tab tt d g s.hs * vec 143 3 sl (hds s.hs) * LDx d (64 * g) s.c) (kk (o, b)) := by
    intro o b h
    have h2 := Al_close (m := m) (u := u) (f := f) h
    have h3 : T B (R * LDx d (64 * g) s.c * Bm u (512 * g) s.U * Fl f s.L * pt a (.cells [.pointer (da m), .pointer (da d), .int .i64 g, .pointer (da u), .pointer (da f)].toArray 47) * Mg m d g s.hs s.F) (kk (o, b)) := T.perm (by ac_rfl) h2
    have h4 := Mg_close (a := tt) (x := x) tie h3
    refine T_drop1 (.init .last) ?_
    refine T_drop1 (by exact frmA : Frm _ (pt b0 (.cells [.int .i64 o.1, .int .i64 o.2].toArray 68)) _) ?_
    exact T.perm (by unfold da; ac_rfl) h4
  refine Placed_c (by omega) (by omega) (by omega) (Rd.vec (E := 143) (s := sl) .last) (fun o ho => ?_) (fun hno o => ?_)
  · (repeat (first | ((with_reducible apply T_ldI); (focus rfl); (focus exact hasA); (focus rfl)) | ((with_reducible apply T_st); (focus rfl); (focus exact updA); (focus simp); simp only [List.set, Nat.zero_add, Nat.reduceAdd])))
    exact T.perm (by ac_rfl) (cl o true (h1 o ho))
  · (repeat (first | ((with_reducible apply T_ldI); (focus rfl); (focus exact hasA); (focus rfl)) | ((with_reducible apply T_st); (focus rfl); (focus exact updA); (focus simp); simp only [List.set, Nat.zero_add, Nat.reduceAdd])))
    exact T.perm (by ac_rfl) (cl o false (h0 hno o))
end
end
section
set_option maxHeartbeats 1000000
theorem Inv.freeS {g : Nat} {hs : List Hd} {U : Nat → Bool} {L L' : Nat → List Int} (h : Inv g hs U L) {k x : Nat} (hk : k < 32) (hc : SmCell g hs k x) (hu : U x = true) (hp : (accL L' k 4).Perm ((x : Int) :: accL L k 4)) (ho : ∀ j, j < 32 → j ≠ k → (accL L' j 4).Perm (accL L j 4)) :
    Inv g hs (uDrop U x) L' := by
  refine ⟨h.len, h.two, h.big, h.right, h.zero, h.whole, h.cont, fun z hz => ?_, ⟨fun j hj => ?_, fun j hj y => ?_⟩⟩
  · unfold uDrop at hz
    simp only [Bool.and_eq_true] at hz
    exact h.used z hz.2
  · by_cases e : j = k
    · subst e
      rw [hp.nodup_iff, List.nodup_cons]
      refine ⟨fun hm => ?_, h.free.nd j hj⟩
      obtain ⟨x', e1, _, h2⟩ := (h.free.mem j hj _).1 hm
      have : x = x' := by omega
      subst this
      rw [hu] at h2; cases h2
    · exact (ho j hj e).nodup_iff.2 (h.free.nd j hj)
  · by_cases e : j = k
    · subst e
      rw [hp.mem_iff, List.mem_cons, h.free.mem j hj]
      constructor
      · rintro (rfl | ⟨x', rfl, h1, h2⟩)
        · exact ⟨x, rfl, hc, by unfold uDrop; simp⟩
        · exact ⟨x', rfl, h1, by unfold uDrop; simp [h2]⟩
      · rintro ⟨x', rfl, h1, h2⟩
        by_cases e : x' = x
        · subst e; exact .inl rfl
        · right
          refine ⟨x', rfl, h1, ?_⟩
          unfold uDrop at h2
          simpa [e] using h2
    · rw [(ho j hj e).mem_iff, h.free.mem j hj]
      constructor
      · rintro ⟨x', rfl, h1, h2⟩
        exact ⟨x', rfl, h1, by unfold uDrop; simp [h2]⟩
      · rintro ⟨x', rfl, h1, h2⟩
        refine ⟨x', rfl, h1, ?_⟩
        have hne : x' ≠ x := fun e2 => e (SmCell.k hj hk h1 (e2 ▸ hc))
        unfold uDrop at h2
        simpa [hne] using h2
theorem Inv.freeL {g : Nat} {hs : List Hd} {U : Nat → Bool} {L : Nat → List Int} (h : Inv g hs U L) {b n : Nat} (hb : 1 ≤ b) (hw : WholeP hs b n) : Inv g (splice hs b (List.replicate n (0, 0, 0))) (uDrop U (b * 512)) L := by
  have hl := h.len
  have hfit : b + (List.replicate n ((0, 0, 0) : Hd)).length ≤ hs.length := by simp; exact hw.2.1
  have hhd : ∀ i, hd (splice hs b (List.replicate n (0, 0, 0))) i = if b ≤ i ∧ i < b + n then (0, 0, 0) else hd hs i := by
    intro i
    unfold hd
    rw [splice_getD hfit, List.length_replicate]
    by_cases e : b ≤ i ∧ i < b + n
    · rw [if_pos e, if_pos e, List.getD_eq_getElem?_getD, List.getElem?_replicate]; split <;> rfl
    · rw [if_neg e, if_neg e]
  have hw' : ∀ {b0 n0}, WholeP hs b0 n0 → b0 ≠ b → WholeP (splice hs b (List.replicate n (0, 0, 0))) b0 n0 := by
    intro b0 n0 hw0 hne
    refine hw0.keep (splice_length hfit) fun i h1 h2 => ?_
    rw [hhd, if_neg]
    intro e
    rcases hw0.kind h1 h2 with ⟨h3, h4⟩ | ⟨h3, h4⟩ <;> rcases hw.kind e.1 e.2 with ⟨h5, h6⟩ | ⟨h5, h6⟩
    · omega
    · omega
    · omega
    · have e1 := hw0.2.2.2.2 (i - b0) (by omega) (by omega)
      have e2 := hw.2.2.2.2 (i - b) (by omega) (by omega)
      rw [show b0 + (i - b0) = i by omega] at e1
      rw [show b + (i - b) = i by omega] at e2
      rw [e1] at e2
      simp only [Prod.mk.injEq] at e2
      omega
  have hsm : ∀ j x, SmCell g (splice hs b (List.replicate n (0, 0, 0))) j x ↔ SmCell g hs j x := by
    intro j x
    constructor
    · rintro ⟨b', i, h1, h2, h3, h4, rfl⟩
      rw [hhd] at h3
      by_cases e : b ≤ b' ∧ b' < b + n
      · rw [if_pos e] at h3; simp at h3
      · rw [if_neg e] at h3; exact ⟨b', i, h1, h2, h3, h4, rfl⟩
    · rintro ⟨b', i, h1, h2, h3, h4, rfl⟩
      refine ⟨b', i, h1, h2, ?_, h4, rfl⟩
      rw [hhd, if_neg]
      · exact h3
      · intro e
        rcases hw.kind e.1 e.2 with ⟨_, h6⟩ | ⟨_, h6⟩ <;> (rw [h3] at h6; simp at h6)
  refine ⟨by rw [splice_length hfit]; exact hl, h.two, h.big, fun x hx => ?_, ?_, fun b0 hb0 => ?_, fun b0 hb0 => ?_, fun x hx => ?_, ⟨h.free.nd, fun j hj y => ?_⟩⟩
  · unfold splice at hx
    simp only [List.mem_append] at hx
    rcases hx with (hx | hx) | hx
    · exact h.right x (List.mem_of_mem_take hx)
    · rw [List.eq_of_mem_replicate hx]; exact .inl rfl
    · exact h.right x (List.mem_of_mem_drop hx)
  · rw [hhd, if_neg (by omega)]; exact h.zero
  · rw [hhd] at hb0
    by_cases e : b ≤ b0 ∧ b0 < b + n
    · rw [if_pos e] at hb0; simp at hb0
    · rw [if_neg e] at hb0
      obtain ⟨n', hw0⟩ := h.whole b0 hb0
      exact ⟨n', hw' hw0 (fun e2 => e (by have := hw.1; omega))⟩
  · rw [hhd] at hb0
    by_cases e : b ≤ b0 ∧ b0 < b + n
    · rw [if_pos e] at hb0; simp at hb0
    · rw [if_neg e] at hb0
      obtain ⟨b1, n', hw0, h1, h2⟩ := h.cont b0 hb0
      refine ⟨b1, n', hw' hw0 (fun e2 => ?_), h1, h2⟩
      subst e2
      have := hw.uniq hw0
      omega
  · unfold uDrop at hx
    simp only [Bool.and_eq_true, bne_iff_ne, ne_eq] at hx
    rcases h.used x hx.2 with ⟨j, hj, hc⟩ | ⟨b0, n0, h1, hw0, h2⟩
    · exact .inl ⟨j, hj, (hsm j x).2 hc⟩
    · exact .inr ⟨b0, n0, h1, hw' hw0 (fun e => hx.1 (by omega)), h2⟩
  · rw [h.free.mem j hj]
    constructor
    · rintro ⟨x, rfl, h1, h2⟩
      exact ⟨x, rfl, (hsm j x).2 h1, by unfold uDrop; simp [h2]⟩
    · rintro ⟨x, rfl, h1, h2⟩
      have h1 := (hsm j x).1 h1
      refine ⟨x, rfl, h1, ?_⟩
      have hne : x ≠ b * 512 := by
        intro e
        obtain ⟨b', i, g1, g2, g3, g4, g5⟩ := h1
        have e3 := cellN_blk (b := b') hj g4
        have : b' = b := by omega
        subst this
        have := hw.2.2.1
        unfold hd at g3
        rw [g3] at this; simp at this
      unfold uDrop at h2
      simpa [hne] using h2
/-- what a giving back turns -/
structure FreeR (g : Nat) (s s' : St) (x : Nat) : Prop where
  inv : Inv g s'.hs s'.U s'.L
  was : s.U x = true
  u : s'.U = uDrop s.U x
  from_ : (∃ k : Nat, k < 32 ∧ SmCell g s.hs k x ∧ s'.hs = s.hs ∧ s'.F = s.F ∧ s'.c = s.c ∧ (accL s'.L k 4).Perm ((x : Int) :: accL s.L k 4) ∧ ∀ j, j < 32 → j ≠ k → (accL s'.L j 4).Perm (accL s.L j 4)) ∨
    (∃ b n : Nat, x = b * 512 ∧ 1 ≤ b ∧ WholeP s.hs b n ∧ s'.hs = splice s.hs b (List.replicate n (0, 0, 0)) ∧ s'.c = wrH s.c b (List.replicate n (0, 0, 0)) ∧ s'.L = s.L)
theorem blockOf_nat {g a : Int} (h : 1 ≤ blockOf g a) : ∃ x : Nat, a = x ∧ blockOf g a = ((x / 512 : Nat) : Int) ∧ a < g * 512 ∧ 512 ≤ x := by
  unfold blockOf at h ⊢
  split at h
  · omega
  · rename_i hh
    obtain ⟨x, rfl⟩ := Int.eq_ofNat_of_zero_le (show 0 ≤ a by omega)
    refine ⟨x, rfl, by rw [if_neg hh]; omega, by omega, by omega⟩
theorem cellOf_sm {g : Nat} {hs : List Hd} {k : Nat} {a : Int} (hk : k < 32) (hb : 1 ≤ blockOf g a) (hc : (cellOf g k a).2 = true) (hh : hd hs (blockOf g a).toNat = (1, (k : Int), 0)) : ∃ x : Nat, a = x ∧ SmCell g hs k x := by
  obtain ⟨x, rfl, h1, h2, h3⟩ := blockOf_nat hb
  obtain ⟨t1, t2, t3, t4, t5, t6, t7, t8⟩ := cls_tab k hk
  refine ⟨x, rfl, ?_⟩
  unfold cellOf at hc
  rw [if_neg (by omega)] at hc
  simp only [decide_eq_true_eq] at hc
  rw [h1] at hc hh
  rw [Int.toNat_natCast] at hh
  unfold cellAt at hc
  split at hc
  · omega
  · rename_i hn
    simp only [t1, t2] at hc hn
    have e : (x : Int) % 512 / (cw k : Int) = ((x % 512 / cw k : Nat) : Int) := by simp
    rw [e] at hc hn
    refine ⟨x / 512, x % 512 / cw k, by omega, by omega, hh, by omega, ?_⟩
    unfold cellN
    have : ((x / 512 : Nat) : Int) * 512 + ((x % 512 / cw k : Nat) : Int) * (cw k : Int) = ((x / 512 * 512 + x % 512 / cw k * cw k : Nat) : Int) := by simp
    rw [this] at hc
    omega
section
variable {B : World} {P R : SL} {t : K}
theorem Free_c {a d g : Nat} {s : St} (inv : Inv g s.hs s.U s.L) {m x : Int} {kk : Int → K}
    (hM : ((∀ o, ¬ PlOk s.c (64 * g) s.hs g x o) ∨ has s.U x = false) → T B (R * Al a d g s) (kk 42))
    (h1 : ∀ (n : Nat) s' o, x = n → PlOk s.c (64 * g) s.hs g x o → FreeR g s s' n → T B (R * Al a d g s') (kk 0)) :
    T B (R * Al a d g s) (c_alloc_Allocator_Free (da a) m x kk) := by
  refine T_of (alloc_Allocator_Free_ok _ m x kk) ?_
  have hg := inv.big
  have hl := inv.len
  refine Place_c inv (fun o ho => ?_) (fun hno o => ?_)
  · (repeat (first | (with_reducible refine T_al ?_; intro _) | ((with_reducible apply T_st); (focus rfl); (focus exact updA); (focus simp); simp only [List.set, Nat.zero_add, Nat.reduceAdd])))
    rename_i b0
    (dsimp only [alloc_Allocator_Free, Zfe0, Zfe1, Zfe2, Zfe3, Zfe4, Zfe5, Zfe6, Zfe7, Zfe8, Zfe9, Zfe10, Zfe11, Zfe12, Zfe13, Zfe14, Zfe15, Zfe16, Zfe17, Zfe18, Zfe19])
    simp only [Bool.not_true]
    (repeat (with_reducible refine T_brF ?_))
    refine T_bring (X := Al a d g s) (.init .last) ?_
    refine Al_open fun mm u f => ?_
    unfold da
    (repeat (first | with_reducible refine T_nn ?_ | ((with_reducible apply T_ldP); (focus rfl); (focus exact hasA); (focus rfl))))
    refine T_bring (X := Bm u (512 * g) s.U) (.init (.init .last)) ?_
    refine bitmap_Has_c ?_
    have cl : ∀ t, T B (R * Al a d g s) t → T B (R * pt b0 (.cells [.int .i64 o.1, .int .i64 o.2].toArray 68) * LDx d (64 * g) s.c * Mg mm d g s.hs s.F * Fl f s.L * pt a (.cells [.pointer (some ⟨mm, 0, none⟩), .pointer (some ⟨d, 0, none⟩), .int .i64 g, .pointer (some ⟨u, 0, none⟩), .pointer (some ⟨f, 0, none⟩)].toArray 47) * Bm u (512 * g) s.U) t := by
      intro t h
      refine T_drop1 (by exact frmA : Frm _ (pt b0 (.cells [.int .i64 o.1, .int .i64 o.2].toArray 68)) _) ?_
      exact T.perm (by unfold da; ac_rfl) (Al_close (m := mm) (u := u) (f := f) h)
    cases hu : has s.U x
    · simp only [Bool.not_false]
      (repeat (with_reducible refine T_brT ?_))
      exact cl _ (hM (.inr hu))
    simp only [Bool.not_true]
    (repeat (first | with_reducible refine T_brF ?_ | ((with_reducible apply T_ldI); (focus rfl); (focus exact hasA); (focus rfl))))
    refine ohead_Small_c ?_
    rw [show ((o.1, o.2) : Ob) = o from rfl]
    obtain ⟨g1, g2, g3, g4⟩ := ho
    have hhu := hu
    unfold has at hu
    simp only [Bool.and_eq_true, decide_eq_true_eq] at hu
    rcases g4 with ⟨k, k1, k2, k3, k4⟩ | ⟨k2, n, k3, k4, k5⟩
    · obtain ⟨n, rfl, hc⟩ := cellOf_sm k1 g2 k3 k4
      rw [Int.toNat_natCast] at hu
      rw [k2]
      (dsimp only [alloc_Allocator_Free, Zfe0, Zfe1, Zfe2, Zfe3, Zfe4, Zfe5, Zfe6, Zfe7, Zfe8, Zfe9, Zfe10, Zfe11, Zfe12, Zfe13, Zfe14, Zfe15, Zfe16, Zfe17, Zfe18, Zfe19])
      simp only [Bool.not_true]
      (repeat (first | with_reducible refine T_nn ?_ | with_reducible refine T_brF ?_ | ((with_reducible apply T_ldP); (focus rfl); (focus exact hasA); (focus rfl))))
      have hL : ∀ i, i < 160 → (s.L i).length ≤ 2 ^ 30 := fun i hi => by have := inv.free.lens hg i hi; omega
      have hnf : ¬ FHas s.L k ((n : Nat) : Int) := by
        intro hf
        obtain ⟨x', e1, _, h2⟩ := (inv.free.mem k k1 _).1 (mem_accL.2 hf)
        have : n = x' := by omega
        subst this
        rw [hu.2] at h2; cases h2
      refine bitmap_Drop_c (fun h => by rw [hhu] at h; cases h) (fun _ _ => ?_)
      rw [Int.toNat_natCast]
      have fin : ∀ L', (accL L' k 4).Perm ((n : Int) :: accL s.L k 4) → (∀ j, j < 32 → j ≠ k → (accL L' j 4).Perm (accL s.L j 4)) →
          T B (R * pt b0 (.cells [.int .i64 o.1, .int .i64 o.2].toArray 68) * LDx d (64 * g) s.c * Mg mm d g s.hs s.F * pt a (.cells [.pointer (some ⟨mm, 0, none⟩), .pointer (some ⟨d, 0, none⟩), .int .i64 g, .pointer (some ⟨u, 0, none⟩), .pointer (some ⟨f, 0, none⟩)].toArray 47) * Bm u (512 * g) (uDrop s.U n) * Fl f L') (kk 0) := by
        intro L' hp ho
        have h2 := h1 n { s with U := uDrop s.U n, L := L' } o rfl ⟨g1, g2, g3, .inl ⟨k, k1, k2, k3, k4⟩⟩ ⟨inv.freeS k1 hc hu.2 hp ho, hu.2, rfl, .inl ⟨k, k1, hc, rfl, rfl, rfl, hp, ho⟩⟩
        refine T_drop1 (by exact frmA : Frm _ (pt b0 (.cells [.int .i64 o.1, .int .i64 o.2].toArray 68)) _) ?_
        exact T.perm (by unfold da; ac_rfl) (Al_close (m := mm) (u := u) (f := f) h2)
      have push : T B (R * pt b0 (.cells [.int .i64 o.1, .int .i64 o.2].toArray 68) * LDx d (64 * g) s.c * Mg mm d g s.hs s.F * pt a (.cells [.pointer (some ⟨mm, 0, none⟩), .pointer (some ⟨d, 0, none⟩), .int .i64 g, .pointer (some ⟨u, 0, none⟩), .pointer (some ⟨f, 0, none⟩)].toArray 47) * Bm u (512 * g) (uDrop s.U n) * Fl f s.L) (c_free_Lists_Push (da f) k n fun x74 => kk x74) := by
        refine free_Push_c hL k1 (fun h => absurd h hnf) fun _ => ?_
        obtain ⟨p1, p2⟩ := accL_turn (L := s.L) (L' := setN s.L k (s.L k ++ [(n : Int)])) (m := 0) (by omega) k1 (fun i h1 _ => setN_ne _ _ h1) (l := [(n : Int)]) (l' := []) (by
          rw [setN_same, setN_ne _ _ (show ix 0 k ≠ k by unfold ix; omega), List.append_nil, List.append_assoc, List.append_assoc]
          exact List.Perm.append_left _ List.perm_append_comm)
        rw [List.append_nil] at p1
        exact fin _ (p1.symm.trans (List.perm_append_singleton _ _)) (fun j hj hjk => by rw [p2 j hj hjk])
      (repeat' (first | with_reducible refine T_nn ?_ | with_reducible refine T_brT ?_ | ((with_reducible apply T_ldP); (focus rfl); (focus exact hasA); (focus rfl)) | with_reducible refine T_brD (fun _ => ?_) (fun _ => ?_)))
      · refine T.perm (by ac_rfl) push
      · refine T.perm (by ac_rfl) push
      · rename_i hm1 hm2
        obtain ⟨m0, rfl⟩ := Int.eq_ofNat_of_zero_le (show 0 ≤ m by omega)
        refine T_bring (X := Fl f s.L) (by exact frmA) ?_
        refine free_Put_c hL (by omega) k1 (fun h => absurd h hnf) fun _ L' ht hp => ?_
        obtain ⟨p1, p2⟩ := accL_turn (L := s.L) (L' := L') (by omega) k1 ht (l := [(n : Int)]) (l' := []) (by
          rw [List.append_nil]
          exact (List.perm_append_singleton _ _).trans hp.symm)
        rw [List.append_nil] at p1
        exact T.perm (by ac_rfl) (fin _ (p1.symm.trans (List.perm_append_singleton _ _)) (fun j hj hjk => by rw [p2 j hj hjk]))
    · obtain ⟨y, rfl, hb1, hb2, hb3⟩ := blockOf_nat g2
      rw [Int.toNat_natCast] at hu
      rw [hb1, Int.toNat_natCast] at k3
      have hyb : y = y / 512 * 512 := by
        rw [hb1] at k4
        unfold first at k4
        split at k4 <;> omega
      have hyb1 : 1 ≤ y / 512 := by omega
      rw [k2]
      (dsimp only [alloc_Allocator_Free, Zfe0, Zfe1, Zfe2, Zfe3, Zfe4, Zfe5, Zfe6, Zfe7, Zfe8, Zfe9, Zfe10, Zfe11, Zfe12, Zfe13, Zfe14, Zfe15, Zfe16, Zfe17, Zfe18, Zfe19])
      simp only [Bool.not_false]
      (repeat (first | with_reducible refine T_nn ?_ | with_reducible refine T_tick ?_ | with_reducible refine T_brT ?_ | ((with_reducible apply T_ldI); (focus rfl); (focus exact hasA); (focus rfl)) | ((with_reducible apply T_ldP); (focus rfl); (focus exact hasA); (focus rfl))))
      refine geom_BlockOf_c (by omega) (by omega) ?_
      rw [hb1]
      (repeat (first | with_reducible refine T_chk0 ?_ | ((with_reducible apply T_chk); (focus rfl); (focus exact hasA); (focus rfl))))
      refine T_bring (X := LDx d (64 * g) s.c) (by exact frmA) ?_
      refine T_bring (X := Mg mm d g s.hs s.F) (by exact frmA) ?_
      refine bman_Release_c (nn := n) rfl hyb1 (.inr k3) fun F' tie' => ?_
      (repeat' (first | with_reducible refine T_nn ?_ | ((with_reducible apply T_ldP); (focus rfl); (focus exact hasA); (focus rfl)) | with_reducible refine T_brNE (fun _ => ?_) (fun _ => ?_)))
      · rename_i h; exact absurd rfl h
      refine T_bring (X := Bm u (512 * g) s.U) (by exact frmA) ?_
      refine bitmap_Drop_c (fun h => by rw [hhu] at h; cases h) (fun _ _ => ?_)
      rw [Int.toNat_natCast]
      have hinv := inv.freeL hyb1 k3
      rw [← hyb] at hinv
      have h2 := h1 y { s with hs := splice s.hs (y / 512) (List.replicate n (0, 0, 0)), F := F', c := wrH s.c (y / 512) (List.replicate n (0, 0, 0)), U := uDrop s.U y } o rfl ⟨g1, g2, g3, .inr ⟨k2, n, by rw [hb1, Int.toNat_natCast]; exact k3, k4, k5⟩⟩ ⟨hinv, hu.2, rfl, .inr ⟨y / 512, n, hyb, hyb1, k3, rfl, rfl, rfl⟩⟩
      refine T_drop1 (by exact frmA : Frm _ (pt b0 (.cells [.int .i64 o.1, .int .i64 o.2].toArray 68)) _) ?_
      exact T.perm (by unfold da; ac_rfl) (Al_close (m := mm) (u := u) (f := f) h2)
  · (repeat (first | (with_reducible refine T_al ?_; intro _) | ((with_reducible apply T_st); (focus rfl); (focus exact updA); (focus simp); simp only [List.set, Nat.zero_add, Nat.reduceAdd])))
    (dsimp only [alloc_Allocator_Free, Zfe0, Zfe1, Zfe2, Zfe3, Zfe4, Zfe5, Zfe6, Zfe7, Zfe8, Zfe9, Zfe10, Zfe11, Zfe12, Zfe13, Zfe14, Zfe15, Zfe16, Zfe17, Zfe18, Zfe19])
    simp only [Bool.not_false]
    (repeat (with_reducible refine T_brT ?_))
    refine T_drop1 .last ?_
    exact hM (.inl hno)
end
end
def Nxt (U : Nat → Bool) (lim : Nat) (a : Int) (r : Int × Bool) : Prop :=
  (r = (0, false) ∧ ∀ x : Nat, a ≤ x → U x = false) ∨ (∃ x : Nat, r = ((x : Int), true) ∧ a ≤ x ∧ x < lim ∧ U x = true ∧ ∀ y : Nat, a ≤ y → y < x → U y = false)
/-- the addresses of a set below one -/
def uBel (U : Nat → Bool) (n : Nat) : List Int := ((List.range n).filter fun x => U x).map fun (x : Nat) => (x : Int)
theorem uBel_skip {U : Nat → Bool} {a : Nat} : ∀ {n : Nat}, a ≤ n → (∀ y, a ≤ y → y < n → U y = false) → uBel U n = uBel U a := by
  intro n
  induction n with
  | zero => intro h _; have : a = 0 := by omega
            subst this; rfl
  | succ n ih =>
    intro h hy
    by_cases e : a = n + 1
    · rw [e]
    · rw [← ih (by omega) fun y h1 h2 => hy y h1 (by omega)]
      unfold uBel
      rw [List.range_succ, List.filter_append]
      simp [hy n (by omega) (by omega)]
theorem uBel_len {U : Nat → Bool} {n : Nat} : (uBel U n).length ≤ n := by
  unfold uBel
  rw [List.length_map]
  exact Nat.le_trans (List.length_filter_le _ _) (by simp)
theorem uBel_hit {U : Nat → Bool} {x : Nat} (h : U x = true) : uBel U (x + 1) = uBel U x ++ [(x : Int)] := by
  unfold uBel
  rw [List.range_succ, List.filter_append]
  simp [h]
section
variable {B : World} {P R : SL} {t : K}
theorem Bm_ok {s lim : Nat} {U : Nat → Bool} (h : lim ≤ 2 ^ 40 → (∀ x, lim ≤ x → U x = false) → T B (R * Bm s lim U) t) : T B (R * Bm s lim U) t :=
  Bm_open fun q ws m ok => Bm_close ok (h ok.big ok.off)
theorem Next_N {s lim : Nat} {U : Nat → Bool} {a : Int} {k : Int × Bool → K} (h : ∀ r, Nxt U lim a r → T B (R * Bm s lim U) (k r)) : T B (R * Bm s lim U) (c_bitmap_Set_Next (da s) a k) :=
  bitmap_Next_c (fun hz => h _ (.inl ⟨rfl, hz⟩)) (fun x h1 h2 h3 h4 => h _ (.inr ⟨x, rfl, h1, h3, h2, h4⟩))
def okU (U : Nat → Bool) (lim : Nat) (pre : List Int) (x : Int) : Prop := ∃ n : Nat, x = n ∧ n < lim ∧ pre = uBel U n
theorem bitmap_All_1_c {l s lim bx : Nat} {U : Nat → Bool} {ty : TypeId} {I Z : List Int → SL} {J : SL} (hI : ∀ pre, I pre = Z pre * Bm s lim U) (hb : ∀ pre, Has (I pre) bx (.cells [.pointer (da s)].toArray ty))
    (hy : Yld B Tryz.prog l (fun x : Int => #[.int .i64 x]) (okU U lim) I J) {kk : Unit → K} (h1 : T B (I (uBel U lim)) (kk ())) (h0 : T B J (kk ())) : T B (I []) (c_bitmap_Set_All_1 ⟨.yield l, #[], #[]⟩ ⟨bx, 0, none⟩ kk) := by
  refine T_of (bitmap_Set_All_1_ok _ _ kk) ?_
  have hnext : ∀ (pre : List Int) (a : Int) (k : Int × Bool → K), (∀ r, lim ≤ 2 ^ 40 → Nxt U lim a r → T B (I pre) (k r)) → T B (I pre) (ldP ⟨bx, 0, none⟩ fun x => c_bitmap_Set_Next x a k) := by
    intro pre a k h
    refine T_ldP (n := da s) rfl (hb pre) rfl ?_
    rw [hI]
    refine Bm_ok fun hlim _ => Next_N fun r hr => ?_
    have := h r hlim hr
    rw [hI] at this
    exact this
  refine hnext [] 0 _ fun r hlim hr => ?_
  refine T_lpX (fun m _ => I (uBel U (lim - m))) (fun m (z : Int × Bool × Unit) => m ≤ lim ∧ Nxt U lim ((lim - m : Nat) : Int) (z.1, z.2.1)) lim (by rw [Nat.sub_self]; rfl) ⟨Nat.le_refl _, by rw [Nat.sub_self]; exact hr⟩ ?_
  rintro m ⟨z1, z2, u⟩ c ⟨hm, hz⟩ hc
  rcases hz with ⟨e, hz⟩ | ⟨x, e, g1, g2, g3, g4⟩
  · obtain ⟨rfl, rfl⟩ := Prod.mk.inj e
    refine T_brF ?_
    rw [← uBel_skip (a := lim - m) (n := lim) (by omega) fun y h1 h2 => hz y (by omega)]
    exact h1
  · obtain ⟨rfl, rfl⟩ := Prod.mk.inj e
    refine T_brT ?_
    rw [← uBel_skip (a := lim - m) (n := x) (by omega) fun y h1 h2 => g4 y (by omega) (by omega)]
    refine T_yield (x := (x : Int)) hy ⟨x, rfl, g2, rfl⟩ ?_ ?_
    · refine T_brF ?_
      (dsimp only [bitmap_Set_All_1, Zei0, Zei1, Zei2, Zei3, Zei4, Zei5])
      rw [w64 (n := (x : Int) + 1) (by omega) (by omega), ← uBel_hit g3]
      refine hnext _ _ _ fun r _ hr => ?_
      have e1 : lim - (lim - (x + 1)) = x + 1 := by omega
      have := hc (lim - (x + 1)) (r.1, r.2, ()) (by omega) ⟨by omega, by rw [e1]; exact hr⟩
      rw [e1] at this
      exact this
    · exact T_brT h0
theorem bitmap_All_c {s : Nat} {k : Fv → K} (hk : ∀ bx, T B (R * pt bx (.cells [.pointer (da s)].toArray 44)) (k ⟨.func 188, #[], #[.pointer (some ⟨bx, 0, none⟩)]⟩)) : T B R (c_bitmap_Set_All (da s) k) := by
  refine T_of (bitmap_Set_All_ok _ k) ?_
  (repeat ((with_reducible refine T_al ?_; intro _)))
  exact hk _
end
section
set_option maxRecDepth 100000
abbrev bitmap_Set_List_b (ao : Addr) (x : Int) (kN : K) (kR : K) : K :=
  ldS ao fun x8 =>
  alK (.cells #[.int .i64 x] 3) fun b =>
  semT Tryz.prog (Builtin.append_ #[27, 27] 27 #[x8.v, .slice (some ⟨b, 0, none⟩) 1 1]) (.one (.sc (.slice))) fun x11 =>
  stK (ao.add 0) (x11.v) <|
  kN
theorem bitmap_Set_List_b_ok (ao : Addr) (x : Int) (kN : K) (kR : K) : RefK Tryz.prog 13 (rfBody Tryz.f67) [(4, .int .i64 x), (3, .pointer (some ao))] (bitmap_Set_List_b ao x kN kR) (rfQ kN kR) :=
  Qb Qz
abbrev Zfs0 (ar : Addr) (ak : Addr) (kN : K) (x14 : Addr) : K :=
  tick fun _ =>
  ldP ar fun x65 =>
  ldI .i64 (x14.add 0) fun x66_0 =>
  ldI .i64 (x14.add 1) fun x66_1 =>
  ldI .i64 ak fun x67 =>
  c_class_Words x67 fun x68 =>
  chk [.cell (x14.add 0) (.int .i64 x66_0), .cell (x14.add 1) (.int .i64 x66_1), .cell ar (.pointer x65)] fun _ =>
  c_check_Report_add x65 (x66_0, x66_1) x68 fun x69 =>
  kN
abbrev Zfs1 (r0 : Addr) (r1 : Addr) (x : Int) (kR : K) : K :=
  stK (r0.add 0) (.int .i64 x) <|
  stK (r1.add 0) (.int .i64 22) <|
  kR
abbrev Zfs2 (ar : Addr) (ak : Addr) (r0 : Addr) (r1 : Addr) (x : Int) (kN : K) (kR : K) (x14 : Addr) (x63 : Bool) : K :=
  brK x63
  (Zfs1 r0 r1 x kR)
  (Zfs0 ar ak kN x14)
abbrev Zfs3 (ar : Addr) (ak : Addr) (r0 : Addr) (r1 : Addr) (x : Int) (kN : K) (kR : K) (x14 : Addr) (x15 : Bool) : K :=
  Zfs2 ar ak r0 r1 x kN kR x14 (!x15)
abbrev Zfs4 (ar : Addr) (aa : Addr) (ak : Addr) (r0 : Addr) (r1 : Addr) (x : Int) (kN : K) (kR : K) : K :=
  ldP aa fun x57 =>
  c_alloc_Allocator_Place x57 x fun x59 =>
  alK (.cells #[.int .i64 0, .int .i64 0] 68) fun b =>
  stK (Addr.add ⟨b, 0, none⟩ 0) (.int .i64 x59.1.1) <|
  stK (Addr.add ⟨b, 0, none⟩ 1) (.int .i64 x59.1.2) <|
  Zfs3 ar ak r0 r1 x kN kR ⟨b, 0, none⟩ x59.2
abbrev Zfs5 (ar : Addr) (kN : K) : K :=
  ldP ar fun x49 =>
  nn x49 fun x50 =>
  ldI .i64 (x50.add 5) fun x52 =>
  nn x49 fun x54 =>
  stK (Addr.add (x54.add 5) 0) (.int .i64 (IntKind.wrap .i64 (x52 + 1))) <|
  kN
abbrev Zfs6 (ar : Addr) (aa : Addr) (ak : Addr) (r0 : Addr) (r1 : Addr) (x : Int) (kN : K) (kR : K) (x46 : Bool) : K :=
  brK x46
  (Zfs5 ar kN)
  (Zfs4 ar aa ak r0 r1 x kN kR)
abbrev Zfs7 (r0 : Addr) (r1 : Addr) (x : Int) (kR : K) : K :=
  stK (r0.add 0) (.int .i64 x) <|
  stK (r1.add 0) (.int .i64 42) <|
  kR
abbrev Zfs8 (ar : Addr) (aa : Addr) (ak : Addr) (r0 : Addr) (r1 : Addr) (x : Int) (kN : K) (kR : K) (x13 : Bool) (x36 : Bool) : K :=
  brK x36
  (Zfs7 r0 r1 x kR)
  (Zfs6 ar aa ak r0 r1 x kN kR (!x13))
abbrev Zfs9 (r0 : Addr) (r1 : Addr) (x : Int) (kR : K) : K :=
  stK (r0.add 0) (.int .i64 x) <|
  stK (r1.add 0) (.int .i64 41) <|
  kR
abbrev Zfs10 (ar : Addr) (aa : Addr) (am : Addr) (ak : Addr) (r0 : Addr) (r1 : Addr) (x : Int) (kN : K) (kR : K) (x13 : Bool) : K :=
  brK (!x13)
  (ldM am fun x40 =>
  lkE Tryz.prog 3 (.bool false) (.sc (.bool)) x40 (.int .i64 x) fun r ob x42 ok =>
  Zfs8 ar aa ak r0 r1 x kN kR x13 (!x42))
  (Zfs8 ar aa ak r0 r1 x kN kR x13 false)
abbrev Zfs11 (ar : Addr) (aa : Addr) (am : Addr) (ak : Addr) (r0 : Addr) (r1 : Addr) (x : Int) (kN : K) (kR : K) (x13 : Bool) (x28 : Bool) : K :=
  brK x28
  (Zfs9 r0 r1 x kR)
  (Zfs10 ar aa am ak r0 r1 x kN kR x13)
abbrev Zfs12 (ar : Addr) (aa : Addr) (am : Addr) (ak : Addr) (r0 : Addr) (r1 : Addr) (x : Int) (kN : K) (kR : K) (x13 : Bool) : K :=
  brK x13
  (ldM am fun x31 =>
  lkE Tryz.prog 3 (.bool false) (.sc (.bool)) x31 (.int .i64 x) fun r_1 ob_1 x33 ok_1 =>
  Zfs11 ar aa am ak r0 r1 x kN kR x13 x33)
  (Zfs11 ar aa am ak r0 r1 x kN kR x13 false)
abbrev check_Report_block_b (ar : Addr) (aa : Addr) (am : Addr) (ak : Addr) (r0 : Addr) (r1 : Addr) (x : Int) (kN : K) (kR : K) : K :=
  ldP aa fun x25 =>
  c_alloc_Allocator_Used x25 x fun x27 =>
  Zfs12 ar aa am ak r0 r1 x kN kR x27
theorem check_Report_block_b_ok (ar : Addr) (aa : Addr) (am : Addr) (ak : Addr) (r0 : Addr) (r1 : Addr) (x : Int) (kN : K) (kR : K) : RefK Tryz.prog 86 (rfBody Tryz.f168) [(12, .int .i64 x), (5, .pointer (some ar)), (6, .pointer (some aa)), (7, .pointer (some am)), (9, .pointer (some ak)), (10, .pointer (some r0)), (11, .pointer (some r1))] (check_Report_block_b ar aa am ak r0 r1 x kN kR) (rfQ kN kR) :=
  Qb (Qs [(13, .bool)] [5, 6, 7, 9, 10, 11, 12] (fun z_ => Zfs12 ar aa am ak r0 r1 x kN kR z_.1)
  Qz
  (fun ⟨x13, _⟩ => Qs [] [5, 6, 9, 10, 11, 12] (fun z_ => Zfs4 ar aa ak r0 r1 x kN kR)
  (Qb (Qs [(28, .bool)] [5, 6, 7, 9, 10, 11, 12, 13] (fun z_ => Zfs11 ar aa am ak r0 r1 x kN kR x13 z_.1)
  (Qp [1])
  (fun ⟨x28, _⟩ => Qc (x28) (Zfs9 r0 r1 x kR) (Zfs10 ar aa am ak r0 r1 x kN kR x13) (Qs [] [] (fun z_ => kR)
  Qz
  (fun _ => Qr)) (Qs [(36, .bool)] [5, 6, 9, 10, 11, 12, 13] (fun z_ => Zfs8 ar aa ak r0 r1 x kN kR x13 z_.1)
  (Qp [2])
  (fun ⟨x36, _⟩ => Qc (x36) (Zfs7 r0 r1 x kR) (Zfs6 ar aa ak r0 r1 x kN kR (!x13)) (Qs [] [] (fun z_ => kR)
  Qz
  (fun _ => Qr)) (Qs [(46, .bool)] [5, 6, 9, 10, 11, 12] (fun z_ => Zfs6 ar aa ak r0 r1 x kN kR z_.1)
  Qz
  (fun ⟨x46, _⟩ => Qc (x46) (Zfs5 ar kN) (Zfs4 ar aa ak r0 r1 x kN kR) (Qs [] [] (fun z_ => kN)
  Qz
  (fun _ => Qx)) Qk)))))))
  (fun _ => Qs [(14, .addr), (15, .bool)] [5, 9, 10, 11, 12] (fun z_ => Zfs3 ar ak r0 r1 x kN kR z_.1 z_.2.1)
  Qz
  (fun ⟨x14, x15, _⟩ => Qs [] [5, 9, 14] (fun z_ => Zfs0 ar ak kN x14)
  (Qs [(63, .bool)] [5, 9, 10, 11, 12, 14] (fun z_ => Zfs2 ar ak r0 r1 x kN kR x14 z_.1)
  Qz
  (fun ⟨x63, _⟩ => Qc (x63) (Zfs1 r0 r1 x kR) (Zfs0 ar ak kN x14) (Qs [] [] (fun z_ => kR)
  Qz
  (fun _ => Qr)) Qk))
  (fun _ => RefK.draw [] [0, 0, 0, 4, 15] [0, 1, 2, 3, 4] [0, 1, 2, 3, 4] (by kernel_rfl) (by kernel_rfl))))))
end
section
set_option maxRecDepth 100000
set_option maxHeartbeats 2000000
theorem agree0 {n : Nat} {args : Array Value} (h : args.size ≤ n) : Agree [] n (argE 0 args.toList) { tmps := args ++ Array.replicate (n - args.size) undef, defers := [] } := by
  refine ⟨rfl, by simp; omega, fun t v hg => ?_⟩
  obtain ⟨h1, h2⟩ := argE_get hg
  simp only [Nat.sub_zero, Array.getElem?_toList] at h2
  have hlt : t < args.size := (Array.getElem?_eq_some_iff.1 h2).1
  have h3 := (Array.getElem?_eq_some_iff.1 h2).2
  simp [Array.getElem?_append, hlt, h3]
section
variable {B : World} {P R : SL} {t : K}
theorem bitmap_List_c {s lim : Nat} {U : Nat → Bool} {k : Sl → K} (hk : ∀ out, T B (R * Bm s lim U * vec 3 1 out (ints (uBel U lim))) (k out)) : T B (R * Bm s lim U) (c_bitmap_Set_List (da s) k) := by
  refine Bm_ok fun hlim hoff => ?_
  intro w hw
  refine (callsIn_wide (n := 9)).1 (callsIn_of_wp_marks Tryz.func67 rfl trivial ?_ rfl)
  refine rk_seq [] [0] (t := fun w => Sat B (R * Bm s lim U) w) (fun _ w => Sat B (R * Bm s lim U) w) (RefK.plain [] (by kernel_rfl)) (agree0 (n := 13) (args := #[.pointer (da s)]) (by simp)) hw (by kernel_rfl) fun _ a1 w1 ha1 hw1 => ?_
  refine rk_seq [(3, .addr)] [0] (t := alK (.cells #[.slice none 0 0] 27) fun b w => (∃ bo, (⟨b, 0, none⟩ : Addr) = ⟨bo, 0, none⟩ ∧ Sat B (R * Bm s lim U * pt bo (.cells [nilS.v].toArray 27)) w)) (fun z w => ∃ bo, z.1 = ⟨bo, 0, none⟩ ∧ Sat B (R * Bm s lim U * pt bo (.cells [nilS.v].toArray 27)) w) (RefK.plain [] (by kernel_rfl)) ha1
    (T_al (fun b w hw => ⟨b, rfl, hw⟩) w1 hw1) (by kernel_rfl) ?_
  rintro ⟨z, u⟩ a2 w2 ha2 ⟨bo, rfl, hw2⟩
  refine wpIn_seq ?_
  refine rk_seq [(6, .func)] [3] (t := c_bitmap_Set_All (da s) fun f w => (∃ bx, f = ⟨.func 188, #[], #[.pointer (some ⟨bx, 0, none⟩)]⟩ ∧ Sat B (R * Bm s lim U * pt bo (.cells [nilS.v].toArray 27) * pt bx (.cells [.pointer (da s)].toArray 44)) w))
    (fun z w => ∃ bx, z.1 = ⟨.func 188, #[], #[.pointer (some ⟨bx, 0, none⟩)]⟩ ∧ Sat B (R * Bm s lim U * pt bo (.cells [nilS.v].toArray 27) * pt bx (.cells [.pointer (da s)].toArray 44)) w) (RefK.plain [] (by kernel_rfl)) ha2
    (bitmap_All_c (fun bx w hw => ⟨bx, rfl, hw⟩) w2 hw2) (by kernel_rfl) ?_
  rintro ⟨z, u⟩ a3 w3 ha3 ⟨bx, rfl, hw3⟩
  refine wpIn_block ?_
  have eg : ∀ args w, (callFunc 188 args).run Tryz.prog w = .ok (.enter 188 args) w := fun args w => callable_run (by kernel_rfl) args w
  refine wp_rangeF (B := B) (n := 9) (β := Int) (by omega) (ha3.rho (x := .tmp 6) (by kernel_rfl)) eg (fun x => #[.int .i64 x]) (fun _ => rfl) (okU U lim)
    (fun pre => (ex fun out : Sl => R * pt bx (.cells [.pointer (da s)].toArray 44) * pt bo (.cells [out.v].toArray 27) * vec 3 1 out (ints pre)) * Bm s lim U) (pu False) (uBel U lim) ?start
    (fun x a => Agree [] 13 [(4, .int .i64 x), (3, .pointer (some ⟨bo, 0, none⟩))] a) ?seq ?assign ?body ?done ?ret
  case start =>
    rw [ex_sep]
    refine ex_sat nilS ?_
    exact (vec_none (s := nilS) (E := 3) (sz := 1) rfl rfl hw3).perm (by ac_rfl)
  case seq =>
    intro l X X' hy W hW
    have hT := bitmap_All_1_c (kk := fun _ w' => Sat B (((ex fun out : Sl => R * pt bx (.cells [.pointer (da s)].toArray 44) * pt bo (.cells [out.v].toArray 27) * vec 3 1 out (ints (uBel U lim))) * Bm s lim U) * X) w' ∨ Sat B (pu False * X') w')
      (Z := fun pre => (ex fun out : Sl => R * pt bx (.cells [.pointer (da s)].toArray 44) * pt bo (.cells [out.v].toArray 27) * vec 3 1 out (ints pre)) * X) (bx := bx) (ty := 44) (fun pre => by ac_rfl) (fun pre => ?_) hy (fun w h => .inl h) (fun w h => .inr h) W hW
    · refine callsIn_wide.2 (Calls.mono hT ?_)
      rintro e W' ⟨x, rfl, h⟩
      exact ⟨⟨_, rfl⟩, h⟩
    · intro h hh
      rw [ex_sep, ex_sep] at hh
      obtain ⟨out, hh⟩ := hh
      exact (show Has _ bx _ by exact hasA) h hh
  case assign =>
    intro m l x W K hK
    exact rk_assign (p := 7) (v := .int .i64 x) [(4, .int .i64)] [3] (x, ()) ha3 (by decide) (RefK.plain [] (by kernel_rfl)) (by kernel_rfl) (fun a' ha' => hK a' ha') (by simp)
  case body =>
    intro m l pre x W X a' ha' hx hs
    rw [ex_sep, ex_sep] at hs
    obtain ⟨out, hs⟩ := sat_ex hs
    have hlen : pre.length + 1 ≤ 2 ^ 40 := by
      obtain ⟨n, _, h1, rfl⟩ := hx
      have := @uBel_len U n
      omega
    have hT : T B (R * pt bx (.cells [.pointer (da s)].toArray 44) * pt bo (.cells [out.v].toArray 27) * Bm s lim U * X * vec 3 1 out (ints pre))
        (bitmap_Set_List_b ⟨bo, 0, none⟩ x (fun w => Sat B (((ex fun out : Sl => R * pt bx (.cells [.pointer (da s)].toArray 44) * pt bo (.cells [out.v].toArray 27) * vec 3 1 out (ints (pre ++ [x]))) * Bm s lim U) * X) w) kF) := by
      (repeat (first | ((with_reducible apply T_ldS); (focus rfl); (focus exact hasA); (focus rfl)) | (with_reducible refine T_al ?_; intro _)))
      refine T_app1b (new := [Value.int .i64 x]) kd_int rfl rfl (by rw [ints_len]; omega) fun s' => ?_
      (repeat (((with_reducible apply T_st); (focus rfl); (focus exact updA); (focus simp); simp only [List.set, Nat.zero_add, Nat.reduceAdd])))
      intro w hw
      rw [ex_sep, ex_sep]
      refine ex_sat s' (hw.perm ?_)
      rw [show ints pre ++ [Value.int .i64 x] = ints (pre ++ [x]) by simp [ints]]
      ac_rfl
    exact bitmap_Set_List_b_ok ⟨bo, 0, none⟩ x _ _ (some l) m [] _ a' W (ha'.sub fun t v h => h) (hT W (hs.perm (by ac_rfl))) fun e E' a'' w' _ _ h => by
      cases e <;> first | exact .inl ⟨rfl, h⟩ | exact h.elim
  case done =>
    intro D W hs
    rw [ex_sep, ex_sep] at hs
    obtain ⟨out, hs⟩ := sat_ex hs
    have haD : Agree [{ target := .collected D, args := #[] }] 13 [(3, .pointer (some ⟨bo, 0, none⟩))] { a3 with defers := { target := .collected D, args := #[] } :: a3.defers } := ⟨by rw [ha3.1], ha3.2.1, fun t v h => ha3.2.2 t v (by
      simp only [Env.get] at h
      cases hb : Nat.beq 3 t with
      | true => rw [hb] at h; obtain rfl := beqS hb; exact h
      | false => rw [hb] at h; cases h)⟩
    have hT : T B (R * pt bx (.cells [.pointer (da s)].toArray 44) * pt bo (.cells [out.v].toArray 27) * Bm s lim U * vec 3 1 out (ints (uBel U lim)) * pt D (.deferred (some [])))
        (ldS ⟨bo, 0, none⟩ fun z w => z = out ∧ Sat B (R * Bm s lim U * vec 3 1 out (ints (uBel U lim)) * (pt bx (.cells [.pointer (da s)].toArray 44) * pt bo (.cells [out.v].toArray 27)) * pt D (.deferred (some []))) w) := by
      (repeat (((with_reducible apply T_ldS); (focus rfl); (focus exact hasA); (focus rfl))))
      intro w hw
      exact ⟨rfl, hw.perm (by ac_rfl)⟩
    refine rk_seq [(2, .slice)] [] (t := ldS ⟨bo, 0, none⟩ fun z w => z = out ∧ Sat B (R * Bm s lim U * vec 3 1 out (ints (uBel U lim)) * (pt bx (.cells [.pointer (da s)].toArray 44) * pt bo (.cells [out.v].toArray 27)) * pt D (.deferred (some []))) w)
      (fun z w => z.1 = out ∧ Sat B (R * Bm s lim U * vec 3 1 out (ints (uBel U lim)) * (pt bx (.cells [.pointer (da s)].toArray 44) * pt bo (.cells [out.v].toArray 27)) * pt D (.deferred (some []))) w) (RefK.plain [] (by kernel_rfl)) haD (hT W (hs.perm (by ac_rfl))) (by kernel_rfl) ?_
    rintro ⟨z, u⟩ a4 w4 ha4 ⟨rfl, hw4⟩
    refine wpIn_ret ?_
    refine leave_T (r := .one (.sc .slice)) ha4 hw4 ?_
    exact (show T B _ (k z) from (hk z).weak)
  case ret =>
    intro D W hs
    obtain ⟨⟨g, ⟨p, q, hp, _⟩, _⟩, _⟩ := hs
    exact hp.1.elim
end
end
section
set_option maxHeartbeats 1000000
def hs0 (g : Nat) : List Hd := List.replicate g (0, 0, 0)
theorem hd_hs0 (g b : Nat) : hd (hs0 g) b = (0, 0, 0) := by
  unfold hd hs0
  rw [List.getD_eq_getElem?_getD, List.getElem?_replicate]; split <;> rfl
theorem Inv.begun {g : Nat} (h1 : 2 ≤ g) (h2 : g ≤ 2 ^ 20) : Inv g (hs0 g) (fun _ => false) (fun _ => []) := by
  have hno : ∀ k x, ¬ SmCell g (hs0 g) k x := by
    rintro k x ⟨b, i, _, _, h3, _⟩
    rw [hd_hs0] at h3; simp at h3
  refine ⟨by simp [hs0], h1, h2, fun x hx => ?_, hd_hs0 g 0, fun b hb => ?_, fun b hb => ?_, fun x hx => (by cases hx), ⟨fun k _ => ?_, fun k _ y => ?_⟩⟩
  · rw [List.eq_of_mem_replicate hx]; exact .inl rfl
  · rw [hd_hs0] at hb; simp at hb
  · rw [hd_hs0] at hb; simp at hb
  · simp [accL]
  · simp only [accL, List.append_nil, List.not_mem_nil, false_iff]
    rintro ⟨x, _, h3, _⟩
    exact hno k x h3
section
variable {B : World} {P R : SL} {t : K}
theorem alloc_New_c {d m g : Nat} {c : List Int} {F : RF} (h1 : 2 ≤ g) (h2 : g ≤ 2 ^ 20) {kk : Option Addr × Int → K}
    (hk : ∀ a, T B (R * Al a d g ⟨hs0 g, F, c, fun _ => false, fun _ => []⟩) (kk (da a, 0))) : T B (R * LDx d (64 * g) c * Mg m d g (hs0 g) F) (c_alloc_New (da d) (da m) ⟨none, 0, 0⟩ kk) := by
  refine T_of (alloc_New_ok _ _ _ kk) ?_
  refine bman_Geometry_c ?_
  refine T_bring (X := LDx d (64 * g) c) (.init .last) ?_
  refine LDx_open fun la hla => ?_
  refine LLen_c fun hl hn => ?_
  refine LDx_close hla ?_
  have e1 : ((8 * (64 * g) : Nat) : Int) = ((512 * g : Nat) : Int) := by omega
  rw [e1]
  refine bitmap_New_c (by omega) fun u => ?_
  refine free_New_c fun f => ?_
  (repeat ((with_reducible refine T_al ?_; intro _)))
  rename_i a
  (dsimp only [alloc_New, Zfp0, Zfp1, Zfp2, Zfp3, Zfp4, Zfp5, Zfp6, Zfp7, Zfp8, Zfp9, Zfp10, Zfp11, Zfp12, Zfp13, Zfp14, Zfp15, Zfp16, Zfp17, Zfp18, Zfp19, Zfp20])
  have cl : ∀ t, T B (R * Al a d g ⟨hs0 g, F, c, fun _ => false, fun _ => []⟩) t → T B (R * Mg m d g (hs0 g) F * LDx d (64 * g) c * Bm u (512 * g) (fun _ => false) * Fl f (fun _ => []) * pt a (.cells [.pointer (da m), .pointer (da d), .int .i64 g, .pointer (da u), .pointer (da f)].toArray 47)) t :=
    fun t h => T.perm (by ac_rfl) (Al_close (a := a) (m := m) (u := u) (f := f) (d := d) (g := g) (R := R) (s := ⟨hs0 g, F, c, fun _ => false, fun _ => []⟩) h)
  have hk := cl _ (hk a)
  clear cl
  generalize hX : R * Mg m d g (hs0 g) F * LDx d (64 * g) c * Bm u (512 * g) (fun _ => false) * Fl f (fun _ => []) * pt a (.cells [.pointer (da m), .pointer (da d), .int .i64 g, .pointer (da u), .pointer (da f)].toArray 47) = X at *
  refine T_lpX (fun _ _ => X) (fun n (z : Int × Unit) => z.1 = 0 ∧ n = 0) 0 rfl ⟨rfl, rfl⟩ ?_
  rintro n ⟨z, uu⟩ cc ⟨e, rfl⟩ hc
  simp only at e
  subst e
  clear hc
  (repeat' (with_reducible refine T_brD (fun _ => ?_) (fun _ => ?_)))
  · rename_i h; simp at h
  refine T_lpX (fun _ _ => X) (fun n (z : Int × Unit) => ∃ i : Nat, z.1 = i ∧ 1 ≤ i ∧ n = g - i) (g - 1) rfl ⟨1, rfl, by omega, rfl⟩ ?_
  rintro n ⟨z, uu⟩ cc ⟨i, e1, e2, e3⟩ hc
  simp only at e1
  subst e1 e3
  have hnx := hc (g - (i + 1)) (IntKind.wrap .i64 ((i : Int) + 1), ())
  clear hc
  subst hX
  refine T_bring (X := Mg m d g (hs0 g) F) (by exact frmA) ?_
  refine Mg_open fun tt x tie => ?_
  unfold da
  (repeat (first | with_reducible refine T_nn ?_ | ((with_reducible apply T_ldP); (focus rfl); (focus exact hasA); (focus rfl))))
  refine T_bring (X := Tab tt d g (hs0 g)) (by exact frmA) ?_
  refine blocks_Len_c ?_
  have hlen : (hs0 g).length = g := by simp [hs0]
  rw [hlen]
  (repeat' (first | with_reducible refine T_nn ?_ | ((with_reducible apply T_ldP); (focus rfl); (focus exact hasA); (focus rfl)) | with_reducible refine T_brD (fun _ => ?_) (fun _ => ?_)))
  · rename_i hlt
    refine blocks_Get_c ?_
    rw [if_neg (by omega), Int.toNat_natCast, show (hs0 g).getD i (0, 0, 0) = (0, 0, 0) from hd_hs0 g i]
    (repeat' (first | ((with_reducible apply T_ldI); (focus rfl); (focus exact hasA); (focus rfl)) | (with_reducible refine T_al ?_; intro _) | ((with_reducible apply T_st); (focus rfl); (focus exact updA); (focus simp); simp only [List.set, Nat.zero_add, Nat.reduceAdd]) | with_reducible refine T_brE (fun _ => ?_) (fun _ => ?_)))
    · rename_i h; exact absurd h (by decide)
    rename_i b hne
    by_cases hb : i < g
    · have := hnx (by omega) ⟨i + 1, w64 (by omega) (by omega), by omega, rfl⟩
      refine T_drop1 .last ?_
      have h2 : T B (R * LDx d (64 * g) c * Bm u (512 * g) (fun _ => false) * Fl f (fun _ => []) * pt a (.cells [.pointer (da m), .pointer (da d), .int .i64 g, .pointer (da u), .pointer (da f)].toArray 47) * Mg m d g (hs0 g) F) (cc (IntKind.wrap .i64 ((i : Int) + 1), ())) := T.perm (by ac_rfl) this
      have h3 := Mg_close (a := tt) (x := x) tie h2
      exact T.perm (by unfold da; ac_rfl) h3
    · exfalso; omega
  · have h2 : T B (R * LDx d (64 * g) c * Bm u (512 * g) (fun _ => false) * Fl f (fun _ => []) * pt a (.cells [.pointer (da m), .pointer (da d), .int .i64 g, .pointer (da u), .pointer (da f)].toArray 47) * Mg m d g (hs0 g) F) (kk (da a, 0)) := T.perm (by ac_rfl) hk
    have h3 := Mg_close (a := tt) (x := x) tie h2
    exact T.perm (by unfold da; ac_rfl) h3
theorem Objects_c {a d g : Nat} {s : St} {kk : Sl → K} (hk : ∀ sl, T B (R * Al a d g s * vec 3 1 sl (ints (uBel s.U (512 * g)))) (kk sl)) : T B (R * Al a d g s) (c_alloc_Allocator_Objects (da a) kk) := by
  refine T_of (alloc_Allocator_Objects_ok _ kk) ?_
  refine Al_open fun m u f => ?_
  unfold da
  (repeat (first | with_reducible refine T_nn ?_ | ((with_reducible apply T_ldP); (focus rfl); (focus exact hasA); (focus rfl))))
  refine T_bring (X := Bm u (512 * g) s.U) (by exact frmA) ?_
  refine bitmap_List_c fun sl => ?_
  have h2 : T B (R * vec 3 1 sl (ints (uBel s.U (512 * g))) * Al a d g s) (kk sl) := T.perm (by ac_rfl) (hk sl)
  exact T.perm (by unfold da; ac_rfl) (Al_close (m := m) (u := u) (f := f) h2)
theorem FreeCells_c {a d g k : Nat} {s : St} (inv : Inv g s.hs s.U s.L) (hk2 : k < 32) {kk : Sl → K} (hk : ∀ sl, T B (R * Al a d g s * vec 3 1 sl (ints (sortI (accL s.L k 4)))) (kk sl)) : T B (R * Al a d g s) (c_alloc_Allocator_FreeCells (da a) k kk) := by
  refine T_of (alloc_Allocator_FreeCells_ok _ k kk) ?_
  refine Al_open fun m u f => ?_
  unfold da
  (repeat (first | with_reducible refine T_nn ?_ | ((with_reducible apply T_ldP); (focus rfl); (focus exact hasA); (focus rfl))))
  refine T_bring (X := Fl f s.L) (by exact frmA) ?_
  refine free_List_c (fun i hi => by have := inv.free.lens inv.big i hi; omega) hk2 fun sl => ?_
  have h2 : T B (R * vec 3 1 sl (ints (sortI (accL s.L k 4))) * Al a d g s) (kk sl) := T.perm (by ac_rfl) (hk sl)
  exact T.perm (by unfold da; ac_rfl) (Al_close (m := m) (u := u) (f := f) h2)
theorem bman_Runs_c {m d g : Nat} {hs : List Hd} {F : RF} {k : Sl → K} (hk : ∀ s l, Cov F l → l.Pairwise (fun p q => p.1 ≤ q.1) → T B (R * Mg m d g hs F * vec 152 2 s (prs l)) (k s)) : T B (R * Mg m d g hs F) (c_bman_Manager_Runs (da m) k) := by
  refine T_of (bman_Manager_Runs_ok _ k) ?_
  refine Mg_open fun a x ok => ?_
  unfold da
  (repeat (first | with_reducible refine T_nn ?_ | ((with_reducible apply T_ldP); (focus rfl); (focus exact hasA); (focus rfl))))
  refine T_bring (X := Idx x g F) (.init .last) ?_
  refine runs_List_c ok.ok fun sl l hc hso => ?_
  have h2 : T B (R * vec 152 2 sl (prs l) * Mg m d g hs F) (k sl) := T.perm (by ac_rfl) (hk sl l hc hso)
  exact T.perm (by unfold da; ac_rfl) (Mg_close (a := a) (x := x) ok h2)
end
end
section
set_option maxHeartbeats 1000000
def sumD (b : Int) : List (Int × Int) → Int | [] => 0 | p :: l => p.2 / b + sumD b l
theorem sumI_perm {l l' : List (Int × Int)} (h : l.Perm l') : sumI l = sumI l' := by
  induction h with
  | nil => rfl
  | cons x _ ih => simp only [sumI, ih]
  | swap x y l => simp only [sumI]; omega
  | trans _ _ h1 h2 => exact h1.trans h2
theorem sumD_perm {b : Int} {l l' : List (Int × Int)} (h : l.Perm l') : sumD b l = sumD b l' := by
  induction h with
  | nil => rfl
  | cons x _ ih => simp only [sumD, ih]
  | swap x y l => simp only [sumD]; omega
  | trans _ _ h1 h2 => exact h1.trans h2
theorem Cov.nodup {F : RF} {l : List (Int × Int)} (h : Cov F l) : l.Nodup :=
  List.Pairwise.of_map (·.1) (fun a b h e => h (by rw [e])) h.1
theorem Cov.perm {F : RF} {l l' : List (Int × Int)} (h : Cov F l) (h' : Cov F l') : l.Perm l' :=
  (List.perm_ext_iff_of_nodup h.nodup h'.nodup).2 fun p => by
    obtain ⟨a, b⟩ := p
    rw [← h.2, ← h'.2]
theorem Cov.pick {F : RF} {l : List (Int × Int)} (h : Cov F l) {b q : Int} (hb : F b = some q) : ∃ r, l.Perm ((b, q) :: r) ∧ Cov (delF F b) r := by
  have hm := (h.2 b q).1 hb
  refine ⟨l.erase (b, q), List.perm_cons_erase hm, ?_, fun key v => ?_⟩
  · have hn := h.1
    rw [((List.perm_cons_erase hm).map (·.1)).nodup_iff] at hn
    simp only [List.map_cons, List.nodup_cons] at hn
    exact hn.2
  · unfold delF
    rw [List.Nodup.mem_erase_iff h.nodup, ← h.2]
    have hn := h.1
    rw [((List.perm_cons_erase hm).map (·.1)).nodup_iff] at hn
    simp only [List.map_cons, List.nodup_cons] at hn
    by_cases e : key = b
    · rw [if_pos e]
      constructor
      · intro h; cases h
      · rintro ⟨h1, h2⟩
        rw [e, hb] at h2
        simp only [Option.some.injEq] at h2
        exact absurd (by rw [e, h2]) h1
    · rw [if_neg e]
      constructor
      · intro hk; exact ⟨fun he => e (by simp only [Prod.mk.injEq] at he; exact he.1), hk⟩
      · exact fun h => h.2
/-- the runs behind a taking -/
theorem Cov.take {lim : Int} {F : RF} (ok : RunsOk lim F) {l l' : List (Int × Int)} {b n q : Int} (h : Cov F l) (hb : F b = some q) (hn : 1 ≤ n) (hq : n ≤ q) (h' : Cov (takeF F b n q) l') :
    sumI l' = sumI l - n ∧ sumD n l' = sumD n l - 1 := by
  obtain ⟨r, hp, hr⟩ := h.pick hb
  have hrng := ok.rng _ _ hb
  by_cases hlt : n < q
  · have hcov : Cov (takeF F b n q) ((b + n, q - n) :: r) := by
      have hnot : (b + n) ∉ r.map (·.1) := by
        intro hm
        obtain ⟨p, hp2, he⟩ := List.mem_map.1 hm
        have h2 := (hr.2 p.1 p.2).2 hp2
        obtain ⟨_, h3⟩ := delF_some h2
        rw [he] at h3
        have := ok.sep _ _ _ _ hb h3 (by omega)
        omega
      refine ⟨by rw [List.map_cons, List.nodup_cons]; exact ⟨hnot, hr.1⟩, fun key v => ?_⟩
      unfold takeF
      rw [if_pos hlt]
      unfold updF
      rw [List.mem_cons]
      by_cases e : key = b + n
      · rw [if_pos e]
        constructor
        · intro h; left; simp only [Option.some.injEq] at h; rw [e, h]
        · rintro (h | h)
          · simp only [Prod.mk.injEq] at h; rw [h.2]
          · exact absurd (List.mem_map.2 ⟨_, h, e⟩) hnot
      · rw [if_neg e, hr.2]
        constructor
        · exact .inr
        · rintro (h | h)
          · simp only [Prod.mk.injEq] at h; exact absurd h.1 e
          · exact h
    have hp2 := h'.perm hcov
    rw [sumI_perm hp2, sumD_perm hp2, sumI_perm hp, sumD_perm hp]
    simp only [sumI, sumD]
    refine ⟨by omega, ?_⟩
    have : (q - n) / n = q / n - 1 := by
      rw [show q - n = q + (-1) * n by omega, Int.add_mul_ediv_right _ _ (by omega)]; omega
    omega
  · have hqn : q = n := by omega
    have hcov : Cov (takeF F b n q) r := by unfold takeF; rw [if_neg hlt]; exact hr
    have hp2 := h'.perm hcov
    rw [sumI_perm hp2, sumD_perm hp2, sumI_perm hp, sumD_perm hp]
    simp only [sumI, sumD, hqn]
    refine ⟨by omega, ?_⟩
    rw [Int.ediv_self (by omega)]; omega
/-- numbers of blocks -/
theorem countP_or {α : Type} {p q : α → Bool} : ∀ {l : List α}, (∀ x ∈ l, ¬ (p x = true ∧ q x = true)) → l.countP (fun x => p x || q x) = l.countP p + l.countP q := by
  intro l
  induction l with
  | nil => intro _; rfl
  | cons x l ih =>
    intro h
    have h1 := h x (by simp)
    have ih := ih fun y hy => h y (by simp [hy])
    rw [List.countP_cons, List.countP_cons, List.countP_cons, ih]
    cases hp : p x <;> cases hq : q x <;> simp_all <;> omega
theorem countP_rng {g s n : Nat} (h : s + n ≤ g) : (List.range g).countP (fun x => decide (s ≤ x ∧ x < s + n)) = n := by
  have key : ∀ g, (List.range g).countP (fun x => decide (s ≤ x ∧ x < s + n)) = min g (s + n) - min g s := by
    intro g
    induction g with
    | zero => simp
    | succ g ih =>
      rw [List.range_succ, List.countP_append, ih, List.countP_cons, List.countP_nil]
      by_cases h1 : s ≤ g ∧ g < s + n
      · rw [decide_eq_true h1]; simp; omega
      · rw [decide_eq_false h1]; simp; omega
  rw [key]; omega
theorem sumI_count {lim : Nat} {F : RF} (ok : RunsOk lim F) : ∀ {l : List (Int × Int)}, Sub F l → sumI l = ((List.range lim).countP (fun (x : Nat) => l.any fun p => decide (p.1 ≤ (x : Int) ∧ (x : Int) < p.1 + p.2)) : Nat) := by
  intro l
  induction l with
  | nil =>
    intro _
    simp [sumI, List.countP_eq_zero]
  | cons p l ih =>
    intro h
    have hn := h.nd
    rw [List.map_cons, List.nodup_cons] at hn
    have ih := ih ⟨hn.2, fun q hq => h.mem q (by simp [hq])⟩
    have hp := h.mem p (by simp)
    have hr := ok.rng _ _ hp
    simp only [List.any_cons]
    rw [countP_or]
    · simp only [sumI]
      obtain ⟨a, ha⟩ := Int.eq_ofNat_of_zero_le (show 0 ≤ p.1 by omega)
      obtain ⟨b, hb⟩ := Int.eq_ofNat_of_zero_le (show 0 ≤ p.2 by omega)
      have e1 : (List.range lim).countP (fun (x : Nat) => decide (p.1 ≤ (x : Int) ∧ (x : Int) < p.1 + p.2)) = b := by
        rw [← countP_rng (g := lim) (s := a) (n := b) (by omega)]
        congr 1; funext x
        rw [decide_eq_decide]; omega
      rw [e1, ih]; omega
    · rintro x _ ⟨h1, h2⟩
      simp only [decide_eq_true_eq, List.any_eq_true] at h1 h2
      obtain ⟨q, hq, h3, h4⟩ := h2
      have hq2 := h.mem q (by simp [hq])
      have hne : p.1 ≠ q.1 := fun e => hn.1 (List.mem_map.2 ⟨q, hq, e.symm⟩)
      rcases Int.lt_or_gt_of_ne hne with hh | hh
      · have := ok.sep _ _ _ _ hp hq2 hh; omega
      · have := ok.sep _ _ _ _ hq2 hp hh; omega
theorem Cov.sub {F : RF} {l : List (Int × Int)} (h : Cov F l) : Sub F l := ⟨h.1, fun p hp => (h.2 p.1 p.2).2 hp⟩
/-- free blocks, told by the headers -/
def nFree (hs : List Hd) (g : Nat) : Nat := (List.range g).countP fun x => decide (1 ≤ x ∧ (hd hs x).1 = 0)
theorem sumI_free {g : Nat} {hs : List Hd} {F : RF} (tie : Tie g hs F) {l : List (Int × Int)} (h : Cov F l) : sumI l = nFree hs g := by
  rw [sumI_count tie.ok h.sub]
  unfold nFree
  congr 1
  refine List.countP_congr fun x hx => ?_
  have hx := List.mem_range.1 hx
  have := tie.fr (x : Int)
  simp only [List.any_eq_true, decide_eq_true_eq, Int.toNat_natCast] at this ⊢
  constructor
  · rintro ⟨p, hp, h1, h2⟩
    have := this.1 ⟨p.1, p.2, (h.2 p.1 p.2).2 hp, h1, h2⟩
    exact ⟨by omega, this.2.2⟩
  · rintro ⟨h1, h2⟩
    obtain ⟨s, q, h3, h4, h5⟩ := this.2 ⟨by omega, by omega, h2⟩
    exact ⟨(s, q), (h.2 s q).1 h3, h4, h5⟩
end
section
set_option maxRecDepth 100000
abbrev Zft0 (k : (((Int × (Int × (Int × (Int × (Int × (Int × Int)))))) × (Int × Int)) → K)) (x2 : Addr) (x3 : Int) (x4 : Int) : K :=
  ldI .i64 (x2.add 0) fun x2_0 =>
  ldI .i64 (x2.add 1) fun x2_1 =>
  ldI .i64 (x2.add 2) fun x2_2 =>
  ldI .i64 (x2.add 3) fun x2_3 =>
  ldI .i64 (x2.add 4) fun x2_4 =>
  ldI .i64 (x2.add 5) fun x2_5 =>
  ldI .i64 (x2.add 6) fun x2_6 =>
  k ((x2_0, (x2_1, (x2_2, (x2_3, (x2_4, (x2_5, x2_6)))))), (x3, x4))
abbrev Zft1 (k : (((Int × (Int × (Int × (Int × (Int × (Int × Int)))))) × (Int × Int)) → K)) (x2 : Addr) (x10 : Addr) : K :=
  ldI .i64 (x10.add 0) fun x113_0 =>
  ldI .i64 (x10.add 1) fun x113_1 =>
  ldI .i64 (x10.add 2) fun x113_2 =>
  ldI .i64 (x10.add 3) fun x113_3 =>
  ldI .i64 (x10.add 4) fun x113_4 =>
  ldI .i64 (x10.add 5) fun x113_5 =>
  ldI .i64 (x10.add 6) fun x113_6 =>
  stK (x2.add 0) (.int .i64 x113_0) <|
  stK (x2.add 1) (.int .i64 x113_1) <|
  stK (x2.add 2) (.int .i64 x113_2) <|
  stK (x2.add 3) (.int .i64 x113_3) <|
  stK (x2.add 4) (.int .i64 x113_4) <|
  stK (x2.add 5) (.int .i64 x113_5) <|
  stK (x2.add 6) (.int .i64 x113_6) <|
  Zft0 k x2 0 0
abbrev Zft2 (k : (((Int × (Int × (Int × (Int × (Int × (Int × Int)))))) × (Int × Int)) → K)) (x2 : Addr) (x3_1 : Int) (x4_1 : Int) : K :=
  ldI .i64 (x2.add 0) fun x2_0_1 =>
  ldI .i64 (x2.add 1) fun x2_1_1 =>
  ldI .i64 (x2.add 2) fun x2_2_1 =>
  ldI .i64 (x2.add 3) fun x2_3_1 =>
  ldI .i64 (x2.add 4) fun x2_4_1 =>
  ldI .i64 (x2.add 5) fun x2_5_1 =>
  ldI .i64 (x2.add 6) fun x2_6_1 =>
  k ((x2_0_1, (x2_1_1, (x2_2_1, (x2_3_1, (x2_4_1, (x2_5_1, x2_6_1)))))), (x3_1, x4_1))
abbrev Zft3 (k : (((Int × (Int × (Int × (Int × (Int × (Int × Int)))))) × (Int × Int)) → K)) (x2 : Addr) : K :=
  stK (x2.add 0) (.int .i64 0) <|
  stK (x2.add 1) (.int .i64 0) <|
  stK (x2.add 2) (.int .i64 0) <|
  stK (x2.add 3) (.int .i64 0) <|
  stK (x2.add 4) (.int .i64 0) <|
  stK (x2.add 5) (.int .i64 0) <|
  stK (x2.add 6) (.int .i64 0) <|
  Zft2 k x2 0 40
abbrev Zft4 (k : (((Int × (Int × (Int × (Int × (Int × (Int × Int)))))) × (Int × Int)) → K)) (x2 : Addr) (x10 : Addr) (x111 : Bool) : K :=
  brK x111
  (Zft3 k x2)
  (Zft1 k x2 x10)
abbrev Zft5 (k : (((Int × (Int × (Int × (Int × (Int × (Int × Int)))))) × (Int × Int)) → K)) (x2 : Addr) (x10 : Addr) (x14_1 : Int) : K :=
  ldI .i64 (x10.add 0) fun x110 =>
  Zft4 k x2 x10 (x14_1 != x110)
abbrev Zft6 (x79_1 : Int) (c : ((Int × Int × Unit) → K)) (x14_3 : Int) : K :=
  c (x14_3, (IntKind.wrap .i64 (x79_1 + 1)), ())
abbrev Zft7 (k : (((Int × (Int × (Int × (Int × (Int × (Int × Int)))))) × (Int × Int)) → K)) (x2 : Addr) (x3_2 : Int) (x4_2 : Int) : K :=
  ldI .i64 (x2.add 0) fun x2_0_2 =>
  ldI .i64 (x2.add 1) fun x2_1_2 =>
  ldI .i64 (x2.add 2) fun x2_2_2 =>
  ldI .i64 (x2.add 3) fun x2_3_2 =>
  ldI .i64 (x2.add 4) fun x2_4_2 =>
  ldI .i64 (x2.add 5) fun x2_5_2 =>
  ldI .i64 (x2.add 6) fun x2_6_2 =>
  k ((x2_0_2, (x2_1_2, (x2_2_2, (x2_3_2, (x2_4_2, (x2_5_2, x2_6_2)))))), (x3_2, x4_2))
abbrev Zft8 (k : (((Int × (Int × (Int × (Int × (Int × (Int × Int)))))) × (Int × Int)) → K)) (x2 : Addr) (x16 : Addr) (x17 : Int) : K :=
  tick fun _ =>
  ldI .i64 (x16.add 0) fun x103 =>
  stK (x2.add 0) (.int .i64 0) <|
  stK (x2.add 1) (.int .i64 0) <|
  stK (x2.add 2) (.int .i64 0) <|
  stK (x2.add 3) (.int .i64 0) <|
  stK (x2.add 4) (.int .i64 0) <|
  stK (x2.add 5) (.int .i64 0) <|
  stK (x2.add 6) (.int .i64 0) <|
  chk [.cell (x16.add 0) (.int .i64 x103)] fun _ =>
  Zft7 k x2 (IntKind.wrap .i64 (x103 + x17)) 40
abbrev Zft9 (k : (((Int × (Int × (Int × (Int × (Int × (Int × Int)))))) × (Int × Int)) → K)) (x2 : Addr) (x16 : Addr) (x89_1 : Int) (c_1 : ((Int × Unit) → K)) (x17 : Int) (x100 : Bool) : K :=
  brK x100
  (Zft8 k x2 x16 x17)
  (c_1 ((IntKind.wrap .i64 (x89_1 + 1)), ()))
abbrev Zft10 (k : (((Int × (Int × (Int × (Int × (Int × (Int × Int)))))) × (Int × Int)) → K)) (x2 : Addr) (x6 : Sl) (x16 : Addr) (x89_1 : Int) (c_1 : ((Int × Unit) → K)) (x17 : Int) : K :=
  ldI .i64 (x16.add 0) fun x94 =>
  ixS x6.p x6.n (IntKind.wrap .i64 (x94 + x17)) 3 fun x97 =>
  ldI .i64 (x97.add 0) fun x99 =>
  Zft9 k x2 x16 x89_1 c_1 x17 (x99 != 0)
abbrev Zft11 (k : (((Int × (Int × (Int × (Int × (Int × (Int × Int)))))) × (Int × Int)) → K)) (x2 : Addr) (x6 : Sl) (x79_1 : Int) (c : ((Int × Int × Unit) → K)) (x16 : Addr) (x14_4 : Int) (x89_1 : Int) (c_1 : ((Int × Unit) → K)) (x90 : Bool) : K :=
  brK x90
  (Zft10 k x2 x6 x16 x89_1 c_1 x89_1)
  (Zft6 x79_1 c x14_4)
abbrev Zft12 (k : (((Int × (Int × (Int × (Int × (Int × (Int × Int)))))) × (Int × Int)) → K)) (x2 : Addr) (x6 : Sl) (x79_1 : Int) (c : ((Int × Int × Unit) → K)) (x16 : Addr) (x14_4 : Int) (x88 : Int) (x89_1 : Int) (c_1 : ((Int × Unit) → K)) : K :=
  Zft11 k x2 x6 x79_1 c x16 x14_4 x89_1 c_1 (decide (x89_1 < x88))
abbrev Zft13 (k : (((Int × (Int × (Int × (Int × (Int × (Int × Int)))))) × (Int × Int)) → K)) (x2 : Addr) (x6 : Sl) (x79_1 : Int) (c : ((Int × Int × Unit) → K)) (x16 : Addr) (x14_4 : Int) (x88 : Int) (x89 : Int) : K :=
  lp (fun (z_ : (Int × Unit)) c_ => Zft12 k x2 x6 x79_1 c x16 x14_4 x88 z_.1 c_) (x89, ())
abbrev Zft14 (k : (((Int × (Int × (Int × (Int × (Int × (Int × Int)))))) × (Int × Int)) → K)) (x2 : Addr) (x6 : Sl) (x79_1 : Int) (c : ((Int × Int × Unit) → K)) (x16 : Addr) (x14_4 : Int) : K :=
  ldI .i64 (x16.add 1) fun x88_1 =>
  Zft13 k x2 x6 x79_1 c x16 x14_4 x88_1 0
abbrev Zft15 (k : (((Int × (Int × (Int × (Int × (Int × (Int × Int)))))) × (Int × Int)) → K)) (x2 : Addr) (x6 : Sl) (x14_2 : Int) (x79_1 : Int) (c : ((Int × Int × Unit) → K)) (x16 : Addr) : K :=
  ldI .i64 (x16.add 1) fun x85 =>
  Zft14 k x2 x6 x79_1 c x16 (IntKind.wrap .i64 (x14_2 + x85))
abbrev Zft16 (k : (((Int × (Int × (Int × (Int × (Int × (Int × Int)))))) × (Int × Int)) → K)) (x2 : Addr) (x6 : Sl) (x77 : Sl) (x14_2 : Int) (x79_1 : Int) (c : ((Int × Int × Unit) → K)) : K :=
  ixS x77.p x77.n x79_1 2 fun x81 =>
  ldI .i64 (x81.add 0) fun x82_0 =>
  ldI .i64 (x81.add 1) fun x82_1 =>
  alK (.cells #[.int .i64 0, .int .i64 0] 152) fun b =>
  stK (Addr.add ⟨b, 0, none⟩ 0) (.int .i64 x82_0) <|
  stK (Addr.add ⟨b, 0, none⟩ 1) (.int .i64 x82_1) <|
  Zft15 k x2 x6 x14_2 x79_1 c ⟨b, 0, none⟩
abbrev Zft17 (k : (((Int × (Int × (Int × (Int × (Int × (Int × Int)))))) × (Int × Int)) → K)) (x2 : Addr) (x6 : Sl) (x10 : Addr) (x77 : Sl) (x14_2 : Int) (x79_1 : Int) (c : ((Int × Int × Unit) → K)) (x80 : Bool) : K :=
  brK x80
  (Zft16 k x2 x6 x77 x14_2 x79_1 c)
  (Zft5 k x2 x10 x14_2)
abbrev Zft18 (k : (((Int × (Int × (Int × (Int × (Int × (Int × Int)))))) × (Int × Int)) → K)) (x2 : Addr) (x6 : Sl) (x10 : Addr) (x77 : Sl) (x78 : Int) (x14_2 : Int) (x79_1 : Int) (c : ((Int × Int × Unit) → K)) : K :=
  Zft17 k x2 x6 x10 x77 x14_2 x79_1 c (decide (x79_1 < x78))
abbrev Zft19 (k : (((Int × (Int × (Int × (Int × (Int × (Int × Int)))))) × (Int × Int)) → K)) (x2 : Addr) (x6 : Sl) (x10 : Addr) (x14 : Int) (x77 : Sl) (x78 : Int) (x79 : Int) : K :=
  lp (fun (z_ : (Int × Int × Unit)) c_ => Zft18 k x2 x6 x10 x77 x78 z_.1 z_.2.1 c_) (x14, x79, ())
abbrev Zft20 (x0 : OA) (k : (((Int × (Int × (Int × (Int × (Int × (Int × Int)))))) × (Int × Int)) → K)) (x2 : Addr) (x6 : Sl) (x10 : Addr) (x14 : Int) : K :=
  nn x0 fun x74 =>
  ldP (x74.add 0) fun x76 =>
  c_bman_Manager_Runs x76 fun x77_1 =>
  Zft19 k x2 x6 x10 x14 x77_1 ((x77_1.n : Nat) : Int) 0
abbrev Zft21 (k : (((Int × (Int × (Int × (Int × (Int × (Int × Int)))))) × (Int × Int)) → K)) (x2 : Addr) (x3_3 : Int) (x4_3 : Int) : K :=
  ldI .i64 (x2.add 0) fun x2_0_3 =>
  ldI .i64 (x2.add 1) fun x2_1_3 =>
  ldI .i64 (x2.add 2) fun x2_2_3 =>
  ldI .i64 (x2.add 3) fun x2_3_3 =>
  ldI .i64 (x2.add 4) fun x2_4_3 =>
  ldI .i64 (x2.add 5) fun x2_5_3 =>
  ldI .i64 (x2.add 6) fun x2_6_3 =>
  k ((x2_0_3, (x2_1_3, (x2_2_3, (x2_3_3, (x2_4_3, (x2_5_3, x2_6_3)))))), (x3_3, x4_3))
abbrev Zft22 (k : (((Int × (Int × (Int × (Int × (Int × (Int × Int)))))) × (Int × Int)) → K)) (x2 : Addr) : K :=
  stK (x2.add 0) (.int .i64 0) <|
  stK (x2.add 1) (.int .i64 0) <|
  stK (x2.add 2) (.int .i64 0) <|
  stK (x2.add 3) (.int .i64 0) <|
  stK (x2.add 4) (.int .i64 0) <|
  stK (x2.add 5) (.int .i64 0) <|
  stK (x2.add 6) (.int .i64 0) <|
  Zft21 k x2 0 22
abbrev Zft23 (x0 : OA) (k : (((Int × (Int × (Int × (Int × (Int × (Int × Int)))))) × (Int × Int)) → K)) (x2 : Addr) (x6 : Sl) (x10 : Addr) (x71 : Bool) : K :=
  brK x71
  (Zft22 k x2)
  (Zft20 x0 k x2 x6 x10 0)
abbrev Zft24 (x0 : OA) (k : (((Int × (Int × (Int × (Int × (Int × (Int × Int)))))) × (Int × Int)) → K)) (x2 : Addr) (x6 : Sl) (x10 : Addr) : K :=
  tick fun _ =>
  ldI .i64 (x10.add 3) fun x67 =>
  c_alloc_Allocator_Objects x0 fun x69 =>
  chk [.cell (x10.add 3) (.int .i64 x67)] fun _ =>
  Zft23 x0 k x2 x6 x10 (x67 != ((x69.n : Nat) : Int))
abbrev Zft25 (k : (((Int × (Int × (Int × (Int × (Int × (Int × Int)))))) × (Int × Int)) → K)) (x2 : Addr) (x3_4 : Int) (x4_4 : Int) : K :=
  ldI .i64 (x2.add 0) fun x2_0_4 =>
  ldI .i64 (x2.add 1) fun x2_1_4 =>
  ldI .i64 (x2.add 2) fun x2_2_4 =>
  ldI .i64 (x2.add 3) fun x2_3_4 =>
  ldI .i64 (x2.add 4) fun x2_4_4 =>
  ldI .i64 (x2.add 5) fun x2_5_4 =>
  ldI .i64 (x2.add 6) fun x2_6_4 =>
  k ((x2_0_4, (x2_1_4, (x2_2_4, (x2_3_4, (x2_4_4, (x2_5_4, x2_6_4)))))), (x3_4, x4_4))
abbrev Zft26 (k : (((Int × (Int × (Int × (Int × (Int × (Int × Int)))))) × (Int × Int)) → K)) (x2 : Addr) (x12 : Int) (x13 : Int) : K :=
  stK (x2.add 0) (.int .i64 0) <|
  stK (x2.add 1) (.int .i64 0) <|
  stK (x2.add 2) (.int .i64 0) <|
  stK (x2.add 3) (.int .i64 0) <|
  stK (x2.add 4) (.int .i64 0) <|
  stK (x2.add 5) (.int .i64 0) <|
  stK (x2.add 6) (.int .i64 0) <|
  Zft25 k x2 x12 x13
abbrev Zft27 (k : (((Int × (Int × (Int × (Int × (Int × (Int × Int)))))) × (Int × Int)) → K)) (x2 : Addr) (x11_1 : Int) (c_2 : ((Int × Unit) → K)) (x12 : Int) (x13 : Int) (x62 : Bool) : K :=
  brK x62
  (Zft26 k x2 x12 x13)
  (c_2 ((IntKind.wrap .i64 (x11_1 + 1)), ()))
abbrev Zft28 (k : (((Int × (Int × (Int × (Int × (Int × (Int × Int)))))) × (Int × Int)) → K)) (x2 : Addr) (x11_1 : Int) (c_2 : ((Int × Unit) → K)) (x12 : Int) (x13 : Int) : K :=
  Zft27 k x2 x11_1 c_2 x12 x13 (x13 != 0)
abbrev Zft29 (x0 : OA) (k : (((Int × (Int × (Int × (Int × (Int × (Int × Int)))))) × (Int × Int)) → K)) (x2 : Addr) (x6 : Sl) (x9 : (Option Nat)) (x10 : Addr) (x11_1 : Int) (c_2 : ((Int × Unit) → K)) : K :=
  c_check_Report_one (some x10) x0 x9 x6 x11_1 fun x58 =>
  Zft28 k x2 x11_1 c_2 x58.1 x58.2
abbrev Zft30 (x0 : OA) (k : (((Int × (Int × (Int × (Int × (Int × (Int × Int)))))) × (Int × Int)) → K)) (x2 : Addr) (x6 : Sl) (x9 : (Option Nat)) (x10 : Addr) (x11_1 : Int) (c_2 : ((Int × Unit) → K)) (x50 : Bool) : K :=
  brK x50
  (Zft29 x0 k x2 x6 x9 x10 x11_1 c_2)
  (Zft24 x0 k x2 x6 x10)
abbrev Zft31 (x0 : OA) (k : (((Int × (Int × (Int × (Int × (Int × (Int × Int)))))) × (Int × Int)) → K)) (x2 : Addr) (x6 : Sl) (x9 : (Option Nat)) (x10 : Addr) (x11_1 : Int) (c_2 : ((Int × Unit) → K)) : K :=
  Zft30 x0 k x2 x6 x9 x10 x11_1 c_2 (decide (x11_1 < ((x6.n : Nat) : Int)))
abbrev Zft32 (x0 : OA) (k : (((Int × (Int × (Int × (Int × (Int × (Int × Int)))))) × (Int × Int)) → K)) (x2 : Addr) (x6 : Sl) (x9 : (Option Nat)) (x10 : Addr) (x11 : Int) : K :=
  lp (fun (z_ : (Int × Unit)) c_ => Zft31 x0 k x2 x6 x9 x10 z_.1 c_) (x11, ())
abbrev Zft33 (x0 : OA) (k : (((Int × (Int × (Int × (Int × (Int × (Int × Int)))))) × (Int × Int)) → K)) (x2 : Addr) (x6 : Sl) (x9 : (Option Nat)) (x10 : Addr) : K :=
  Zft32 x0 k x2 x6 x9 x10 1
abbrev Zft34 (x0 : OA) (k : (((Int × (Int × (Int × (Int × (Int × (Int × Int)))))) × (Int × Int)) → K)) (x2 : Addr) (x6 : Sl) (x9 : (Option Nat)) : K :=
  alK (.cells #[.int .i64 0, .int .i64 0, .int .i64 0, .int .i64 0, .int .i64 0, .int .i64 0, .int .i64 0] 93) fun b_1 =>
  Zft33 x0 k x2 x6 x9 ⟨b_1, 0, none⟩
abbrev Zft35 (k : (((Int × (Int × (Int × (Int × (Int × (Int × Int)))))) × (Int × Int)) → K)) (x2 : Addr) (x3_5 : Int) (x4_5 : Int) : K :=
  ldI .i64 (x2.add 0) fun x2_0_5 =>
  ldI .i64 (x2.add 1) fun x2_1_5 =>
  ldI .i64 (x2.add 2) fun x2_2_5 =>
  ldI .i64 (x2.add 3) fun x2_3_5 =>
  ldI .i64 (x2.add 4) fun x2_4_5 =>
  ldI .i64 (x2.add 5) fun x2_5_5 =>
  ldI .i64 (x2.add 6) fun x2_6_5 =>
  k ((x2_0_5, (x2_1_5, (x2_2_5, (x2_3_5, (x2_4_5, (x2_5_5, x2_6_5)))))), (x3_5, x4_5))
abbrev Zft36 (k : (((Int × (Int × (Int × (Int × (Int × (Int × Int)))))) × (Int × Int)) → K)) (x2 : Addr) (x7_1 : Int) (x8_1 : Int) : K :=
  stK (x2.add 0) (.int .i64 0) <|
  stK (x2.add 1) (.int .i64 0) <|
  stK (x2.add 2) (.int .i64 0) <|
  stK (x2.add 3) (.int .i64 0) <|
  stK (x2.add 4) (.int .i64 0) <|
  stK (x2.add 5) (.int .i64 0) <|
  stK (x2.add 6) (.int .i64 0) <|
  Zft35 k x2 x7_1 x8_1
abbrev Zft37 (x0 : OA) (k : (((Int × (Int × (Int × (Int × (Int × (Int × Int)))))) × (Int × Int)) → K)) (x2 : Addr) (x6 : Sl) (x7_1 : Int) (x8_1 : Int) (x9 : (Option Nat)) (x43 : Bool) : K :=
  brK x43
  (Zft36 k x2 x7_1 x8_1)
  (Zft34 x0 k x2 x6 x9)
abbrev Zft38 (x0 : OA) (k : (((Int × (Int × (Int × (Int × (Int × (Int × Int)))))) × (Int × Int)) → K)) (x2 : Addr) (x6 : Sl) (x7_1 : Int) (x8_1 : Int) (x9 : (Option Nat)) : K :=
  Zft37 x0 k x2 x6 x7_1 x8_1 x9 (x8_1 != 0)
abbrev Zft39 (x0 : OA) (k : (((Int × (Int × (Int × (Int × (Int × (Int × Int)))))) × (Int × Int)) → K)) (x2 : Addr) (x6 : Sl) : K :=
  c_check_free x0 fun x38 =>
  Zft38 x0 k x2 x6 x38.2.1 x38.2.2 x38.1
abbrev Zft40 (k : (((Int × (Int × (Int × (Int × (Int × (Int × Int)))))) × (Int × Int)) → K)) (x2 : Addr) (x3_6 : Int) (x4_6 : Int) : K :=
  ldI .i64 (x2.add 0) fun x2_0_6 =>
  ldI .i64 (x2.add 1) fun x2_1_6 =>
  ldI .i64 (x2.add 2) fun x2_2_6 =>
  ldI .i64 (x2.add 3) fun x2_3_6 =>
  ldI .i64 (x2.add 4) fun x2_4_6 =>
  ldI .i64 (x2.add 5) fun x2_5_6 =>
  ldI .i64 (x2.add 6) fun x2_6_6 =>
  k ((x2_0_6, (x2_1_6, (x2_2_6, (x2_3_6, (x2_4_6, (x2_5_6, x2_6_6)))))), (x3_6, x4_6))
abbrev Zft41 (k : (((Int × (Int × (Int × (Int × (Int × (Int × Int)))))) × (Int × Int)) → K)) (x2 : Addr) (x7 : Int) (x8 : Int) : K :=
  stK (x2.add 0) (.int .i64 0) <|
  stK (x2.add 1) (.int .i64 0) <|
  stK (x2.add 2) (.int .i64 0) <|
  stK (x2.add 3) (.int .i64 0) <|
  stK (x2.add 4) (.int .i64 0) <|
  stK (x2.add 5) (.int .i64 0) <|
  stK (x2.add 6) (.int .i64 0) <|
  Zft40 k x2 x7 x8
abbrev Zft42 (x0 : OA) (k : (((Int × (Int × (Int × (Int × (Int × (Int × Int)))))) × (Int × Int)) → K)) (x2 : Addr) (x6 : Sl) (x7 : Int) (x8 : Int) (x32 : Bool) : K :=
  brK x32
  (Zft41 k x2 x7 x8)
  (Zft39 x0 k x2 x6)
abbrev Zft43 (x0 : OA) (k : (((Int × (Int × (Int × (Int × (Int × (Int × Int)))))) × (Int × Int)) → K)) (x2 : Addr) (x6 : Sl) (x7 : Int) (x8 : Int) : K :=
  Zft42 x0 k x2 x6 x7 x8 (x8 != 0)
abbrev Zft44 (x0 : OA) (k : (((Int × (Int × (Int × (Int × (Int × (Int × Int)))))) × (Int × Int)) → K)) (x2 : Addr) (x5 : Addr) : K :=
  tick fun _ =>
  ldI .i64 (x5.add 0) fun x26_0 =>
  c_alloc_Allocator_Device x0 fun x25 =>
  chk [.cell (x5.add 0) (.int .i64 x26_0)] fun _ =>
  c_check_Headers x25 x26_0 fun x27 =>
  Zft43 x0 k x2 x27.1 x27.2.1 x27.2.2
abbrev Zft45 (x0 : OA) (k : (((Int × (Int × (Int × (Int × (Int × (Int × Int)))))) × (Int × Int)) → K)) (x2 : Addr) : K :=
  nn x0 fun x19 =>
  ldP (x19.add 0) fun x21 =>
  c_bman_Manager_Geometry x21 fun x22 =>
  alK (.cells #[.int .i64 0] 43) fun b_2 =>
  stK (Addr.add ⟨b_2, 0, none⟩ 0) (.int .i64 x22) <|
  Zft44 x0 k x2 ⟨b_2, 0, none⟩
abbrev check_Whole (x0 : OA) : M ((Int × (Int × (Int × (Int × (Int × (Int × Int)))))) × (Int × Int)) := fun k =>
  alK (.cells #[.int .i64 0, .int .i64 0, .int .i64 0, .int .i64 0, .int .i64 0, .int .i64 0, .int .i64 0] 93) fun b_3 =>
  Zft45 x0 k ⟨b_3, 0, none⟩
theorem check_Whole_ok (x0 : OA) (k : ((Int × (Int × (Int × (Int × (Int × (Int × Int)))))) × (Int × Int)) → K) (w : World) (hyp_ : check_Whole x0 k w) : c_check_Whole x0 k w :=
  cl_of (P := Tryz.prog) Tryz.func47 rfl (by kernel_rfl)
  (Qs [(2, .addr)] [0] (fun z_ => Zft45 x0 k z_.1)
  Qz
  (fun ⟨x2, _⟩ => Qs [(5, .addr)] [0, 2] (fun z_ => Zft44 x0 k x2 z_.1)
  Qz
  (fun ⟨x5, _⟩ => Qs [(6, .slice), (7, .int .i64), (8, .int .i64)] [0, 2] (fun z_ => Zft43 x0 k x2 z_.1 z_.2.1 z_.2.2.1)
  (RefK.draw [] [0, 1, 0, 7, 15, 31, 31, 31, 63, 383, 1023] [0, 2, 1, 3, 4, 5, 6, 7, 8, 9, 10] [0, 1, 2, 3, 4, 5, 8, 6, 9, 7, 10] (by kernel_rfl) (by kernel_rfl))
  (fun ⟨x6, x7, x8, _⟩ => Qs [] [0, 2, 6] (fun z_ => Zft39 x0 k x2 x6)
  (Qs [(32, .bool)] [0, 2, 6, 7, 8] (fun z_ => Zft42 x0 k x2 x6 x7 x8 z_.1)
  Qz
  (fun ⟨x32, _⟩ => Qc (x32) (Zft41 k x2 x7 x8) (Zft39 x0 k x2 x6) (Qs [(3, .int .i64), (4, .int .i64)] [2] (fun z_ => Zft40 k x2 z_.1 z_.2.1)
  Qz
  (fun ⟨x3_6, x4_6, _⟩ => Qr)) Qk))
  (fun _ => Qs [(7, .int .i64), (8, .int .i64), (9, .map)] [0, 2, 6] (fun z_ => Zft38 x0 k x2 x6 z_.1 z_.2.1 z_.2.2.1)
  Qz
  (fun ⟨x7_1, x8_1, x9, _⟩ => Qs [] [0, 2, 6, 9] (fun z_ => Zft34 x0 k x2 x6 x9)
  (Qs [(43, .bool)] [0, 2, 6, 7, 8, 9] (fun z_ => Zft37 x0 k x2 x6 x7_1 x8_1 x9 z_.1)
  Qz
  (fun ⟨x43, _⟩ => Qc (x43) (Zft36 k x2 x7_1 x8_1) (Zft34 x0 k x2 x6 x9) (Qs [(3, .int .i64), (4, .int .i64)] [2] (fun z_ => Zft35 k x2 z_.1 z_.2.1)
  Qz
  (fun ⟨x3_5, x4_5, _⟩ => Qr)) Qk))
  (fun _ => Qs [(10, .addr)] [0, 2, 6, 9] (fun z_ => Zft33 x0 k x2 x6 x9 z_.1)
  Qz
  (fun ⟨x10, _⟩ => Qs [] [0, 2, 6, 10] (fun z_ => Zft24 x0 k x2 x6 x10)
  (Qs [(11, .int .i64)] [0, 2, 6, 9, 10] (fun z_ => Zft32 x0 k x2 x6 x9 x10 z_.1)
  Qz
  (fun ⟨x11, _⟩ => Qb (Ql [(11, .int .i64)] [0, 2, 6, 9, 10] (fun (z_ : (Int × Unit)) c_ => Zft31 x0 k x2 x6 x9 x10 z_.1 c_) (x11, ())
  (fun ⟨x11_1, _⟩ c_2 => Qs [] [0, 2, 6, 9, 10, 11] (fun z_ => Zft29 x0 k x2 x6 x9 x10 x11_1 c_2)
  (Qs [(50, .bool)] [0, 2, 6, 9, 10, 11] (fun z_ => Zft30 x0 k x2 x6 x9 x10 x11_1 c_2 z_.1)
  Qz
  (fun ⟨x50, _⟩ => Qc (x50) (Zft29 x0 k x2 x6 x9 x10 x11_1 c_2) (Zft24 x0 k x2 x6 x10) Qk Qx))
  (fun _ => Qs [] [0, 2, 6, 9, 10, 11] (fun z_ => c_2 ((IntKind.wrap .i64 (x11_1 + 1)), ()))
  (Qb (Qs [(12, .int .i64), (13, .int .i64)] [0, 2, 6, 9, 10, 11] (fun z_ => Zft28 k x2 x11_1 c_2 z_.1 z_.2.1)
  Qz
  (fun ⟨x12, x13, _⟩ => Qs [(62, .bool)] [0, 2, 6, 9, 10, 11, 12, 13] (fun z_ => Zft27 k x2 x11_1 c_2 x12 x13 z_.1)
  Qz
  (fun ⟨x62, _⟩ => Qc (x62) (Zft26 k x2 x12 x13) (c_2 ((IntKind.wrap .i64 (x11_1 + 1)), ())) (Qs [(3, .int .i64), (4, .int .i64)] [2] (fun z_ => Zft25 k x2 z_.1 z_.2.1)
  Qz
  (fun ⟨x3_4, x4_4, _⟩ => Qr)) Qk))))
  (fun _ => Qz))))))
  (fun _ => Qs [] [0, 2, 6, 10] (fun z_ => Zft20 x0 k x2 x6 x10 0)
  (Qs [(71, .bool)] [0, 2, 6, 10] (fun z_ => Zft23 x0 k x2 x6 x10 z_.1)
  (RefK.draw [] [0, 1, 0, 4, 12, 31] [0, 1, 2, 3, 4, 5] [0, 1, 2, 3, 4, 5] (by kernel_rfl) (by kernel_rfl))
  (fun ⟨x71, _⟩ => Qc (x71) (Zft22 k x2) (Zft20 x0 k x2 x6 x10 0) (Qs [(3, .int .i64), (4, .int .i64)] [2] (fun z_ => Zft21 k x2 z_.1 z_.2.1)
  Qz
  (fun ⟨x3_3, x4_3, _⟩ => Qr)) Qk))
  (fun _ => Qs [(14, .int .i64)] [0, 2, 6, 10] (fun z_ => Zft20 x0 k x2 x6 x10 z_.1)
  Qz
  (fun ⟨x14, _⟩ => Qs [(14, .int .i64)] [2, 10] (fun z_ => Zft5 k x2 x10 z_.1)
  (Qs [(77, .slice), (78, .int .i64), (79, .int .i64)] [2, 6, 10, 14] (fun z_ => Zft19 k x2 x6 x10 x14 z_.1 z_.2.1 z_.2.2.1)
  Qz
  (fun ⟨x77, x78, x79, _⟩ => Qb (Ql [(14, .int .i64), (79, .int .i64)] [2, 6, 10, 77, 78] (fun (z_ : (Int × Int × Unit)) c_ => Zft18 k x2 x6 x10 x77 x78 z_.1 z_.2.1 c_) (x14, x79, ())
  (fun ⟨x14_2, x79_1, _⟩ c => Qs [(80, .bool)] [2, 6, 10, 14, 77, 78, 79] (fun z_ => Zft17 k x2 x6 x10 x77 x14_2 x79_1 c z_.1)
  Qz
  (fun ⟨x80, _⟩ => Qs [] [2, 6, 10, 14, 77, 78, 79] (fun z_ => Zft16 k x2 x6 x77 x14_2 x79_1 c)
  (Qc (x80) (Zft16 k x2 x6 x77 x14_2 x79_1 c) (Zft5 k x2 x10 x14_2) Qk Qx)
  (fun _ => Qs [(14, .int .i64)] [2, 6, 10, 77, 78, 79] (fun z_ => Zft6 x79_1 c z_.1)
  (Qb (Qs [(16, .addr)] [2, 6, 10, 14, 77, 78, 79] (fun z_ => Zft15 k x2 x6 x14_2 x79_1 c z_.1)
  Qz
  (fun ⟨x16, _⟩ => Qs [(14, .int .i64)] [2, 6, 10, 16, 77, 78, 79] (fun z_ => Zft14 k x2 x6 x79_1 c x16 z_.1)
  Qz
  (fun ⟨x14_4, _⟩ => Qs [(88, .int .i64), (89, .int .i64)] [2, 6, 10, 14, 16, 77, 78, 79] (fun z_ => Zft13 k x2 x6 x79_1 c x16 x14_4 z_.1 z_.2.1)
  Qz
  (fun ⟨x88, x89, _⟩ => Qb (Ql [(89, .int .i64)] [2, 6, 10, 14, 16, 77, 78, 79, 88] (fun (z_ : (Int × Unit)) c_ => Zft12 k x2 x6 x79_1 c x16 x14_4 x88 z_.1 c_) (x89, ())
  (fun ⟨x89_1, _⟩ c_1 => Qs [(90, .bool)] [2, 6, 10, 14, 16, 77, 78, 79, 88, 89] (fun z_ => Zft11 k x2 x6 x79_1 c x16 x14_4 x89_1 c_1 z_.1)
  Qz
  (fun ⟨x90, _⟩ => Qs [] [2, 6, 10, 14, 16, 77, 78, 79, 88, 89] (fun z_ => Zft10 k x2 x6 x16 x89_1 c_1 x89_1)
  (Qc (x90) (Zft10 k x2 x6 x16 x89_1 c_1 x89_1) (Zft6 x79_1 c x14_4) Qk Qx)
  (fun _ => Qs [] [2, 6, 10, 14, 16, 77, 78, 79, 88, 89] (fun z_ => c_1 ((IntKind.wrap .i64 (x89_1 + 1)), ()))
  (Qb (Qs [(17, .int .i64)] [2, 6, 10, 14, 16, 77, 78, 79, 88, 89] (fun z_ => Zft10 k x2 x6 x16 x89_1 c_1 z_.1)
  Qz
  (fun ⟨x17, _⟩ => Qs [(100, .bool)] [2, 6, 10, 14, 16, 17, 77, 78, 79, 88, 89] (fun z_ => Zft9 k x2 x16 x89_1 c_1 x17 z_.1)
  Qz
  (fun ⟨x100, _⟩ => Qc (x100) (Zft8 k x2 x16 x17) (c_1 ((IntKind.wrap .i64 (x89_1 + 1)), ())) (Qs [(3, .int .i64), (4, .int .i64)] [2] (fun z_ => Zft7 k x2 z_.1 z_.2.1)
  (RefK.draw [] [0, 0, 2, 0, 14, 1, 63, 127] [0, 1, 2, 3, 4, 5, 6, 7] [0, 5, 1, 2, 3, 4, 6, 7] (by kernel_rfl) (by kernel_rfl))
  (fun ⟨x3_2, x4_2, _⟩ => Qr)) Qk))))
  (fun _ => Qz))))))))))
  (fun ⟨x14_3, _⟩ => Qz)))))))
  (fun ⟨x14_1, _⟩ => Qs [] [2, 10] (fun z_ => Zft1 k x2 x10)
  (Qs [(111, .bool)] [2, 10] (fun z_ => Zft4 k x2 x10 z_.1)
  Qz
  (fun ⟨x111, _⟩ => Qc (x111) (Zft3 k x2) (Zft1 k x2 x10) (Qs [(3, .int .i64), (4, .int .i64)] [2] (fun z_ => Zft2 k x2 z_.1 z_.2.1)
  Qz
  (fun ⟨x3_1, x4_1, _⟩ => Qr)) Qk))
  (fun _ => Qs [(3, .int .i64), (4, .int .i64)] [2] (fun z_ => Zft0 k x2 z_.1 z_.2.1)
  Qz
  (fun ⟨x3, x4, _⟩ => Qr)))))))))))))) hyp_
abbrev Zfu0 (k : ((Sl × (Int × Int)) → K)) (x4 : Sl) (x5 : Int) (x6 : Int) : K :=
  k (x4, (x5, x6))
abbrev Zfu1 (k : ((Sl × (Int × Int)) → K)) (x4_1 : Sl) (x5_1 : Int) (x6_1 : Int) : K :=
  k (x4_1, (x5_1, x6_1))
abbrev Zfu2 (k : ((Sl × (Int × Int)) → K)) (list : Sl) (b : Int) (x58 : Bool) : K :=
  brK x58
  (Zfu1 k ⟨none, 0, 0⟩ b 40)
  (Zfu0 k list 0 0)
abbrev Zfu3 (k : ((Sl × (Int × Int)) → K)) (list : Sl) (b : Int) (ok : Bool) : K :=
  Zfu2 k list b (!ok)
abbrev Zfu4 (k : ((Sl × (Int × Int)) → K)) (list : Sl) : K :=
  c_bman_Sound list fun x54 =>
  Zfu3 k list x54.1 x54.2
abbrev Zfu5 (list : Sl) (b_2 : Int) (c : ((Int × Unit) → K)) (h : Addr) : K :=
  ldI .i64 (h.add 0) fun x50_0 =>
  ldI .i64 (h.add 1) fun x50_1 =>
  ldI .i64 (h.add 2) fun x50_2 =>
  ixS list.p list.n b_2 3 fun x51 =>
  stK (x51.add 0) (.int .i64 x50_0) <|
  stK (x51.add 1) (.int .i64 x50_1) <|
  stK (x51.add 2) (.int .i64 x50_2) <|
  c ((IntKind.wrap .i64 (b_2 + 1)), ())
abbrev Zfu6 (k : ((Sl × (Int × Int)) → K)) (x4_2 : Sl) (x5_2 : Int) (x6_2 : Int) : K :=
  k (x4_2, (x5_2, x6_2))
abbrev Zfu7 (k : ((Sl × (Int × Int)) → K)) (list : Sl) (b_2 : Int) (c : ((Int × Unit) → K)) (h : Addr) (x46 : Bool) : K :=
  brK x46
  (Zfu6 k ⟨none, 0, 0⟩ b_2 21)
  (Zfu5 list b_2 c h)
abbrev Zfu8 (d : OA) (k : ((Sl × (Int × Int)) → K)) (g_1 : Addr) (list : Sl) (b_2 : Int) (c : ((Int × Unit) → K)) (h : Addr) (e : Int) : K :=
  tick fun _ =>
  brK (e != 0)
  (Zfu7 k list b_2 c h true)
  (ldI .i64 (g_1.add 0) fun x36_0 =>
  ldI .i64 (g_1.add 0) fun x41_0 =>
  c_geom_Geometry_Header x36_0 b_2 fun x38 =>
  chk [.cell (g_1.add 0) (.int .i64 x41_0)] fun _ =>
  c_nvm_Device_Lasting d x38 fun x39 =>
  chk [.cell (g_1.add 0) (.int .i64 x41_0)] fun _ =>
  c_geom_Geometry_Header x41_0 b_2 fun x43 =>
  c_nvm_Device_Get d x43 fun x44 =>
  Zfu7 k list b_2 c h (x39 != x44))
abbrev Zfu9 (d : OA) (k : ((Sl × (Int × Int)) → K)) (g_1 : Addr) (list : Sl) (b_2 : Int) (c : ((Int × Unit) → K)) : K :=
  ldI .i64 (g_1.add 0) fun x25_0 =>
  c_geom_Geometry_Header x25_0 b_2 fun x27 =>
  c_nvm_Device_Get d x27 fun x28 =>
  c_bhead_Decode b_2 x28 fun x29 =>
  alK (.cells #[.int .i64 0, .int .i64 0, .int .i64 0] 143) fun b_3 =>
  stK (Addr.add ⟨b_3, 0, none⟩ 0) (.int .i64 x29.1.1) <|
  stK (Addr.add ⟨b_3, 0, none⟩ 1) (.int .i64 x29.1.2.1) <|
  stK (Addr.add ⟨b_3, 0, none⟩ 2) (.int .i64 x29.1.2.2) <|
  Zfu8 d k g_1 list b_2 c ⟨b_3, 0, none⟩ x29.2
abbrev Zfu10 (d : OA) (k : ((Sl × (Int × Int)) → K)) (g_1 : Addr) (list : Sl) (b_2 : Int) (c : ((Int × Unit) → K)) (x19 : Bool) : K :=
  brK x19
  (Zfu9 d k g_1 list b_2 c)
  (Zfu4 k list)
abbrev Zfu11 (d : OA) (k : ((Sl × (Int × Int)) → K)) (g_1 : Addr) (list : Sl) (b_2 : Int) (c : ((Int × Unit) → K)) : K :=
  ldI .i64 (g_1.add 0) fun x18 =>
  Zfu10 d k g_1 list b_2 c (decide (b_2 < x18))
abbrev Zfu12 (d : OA) (k : ((Sl × (Int × Int)) → K)) (g_1 : Addr) (list : Sl) (b_1 : Int) : K :=
  lp (fun (z_ : (Int × Unit)) c_ => Zfu11 d k g_1 list z_.1 c_) (b_1, ())
abbrev Zfu13 (d : OA) (k : ((Sl × (Int × Int)) → K)) (g_1 : Addr) (list : Sl) : K :=
  Zfu12 d k g_1 list 1
abbrev Zfu14 (d : OA) (k : ((Sl × (Int × Int)) → K)) (g_1 : Addr) : K :=
  ldI .i64 (g_1.add 0) fun x14 =>
  mkS Tryz.prog 143 x14 x14 fun b_4 =>
  Zfu13 d k g_1 ⟨(some ⟨b_4, 0, none⟩), (Int.toNat x14), (Int.toNat x14)⟩
abbrev check_Headers (d : OA) (g : Int) : M (Sl × (Int × Int)) := fun k =>
  alK (.cells #[.int .i64 g] 43) fun b_5 =>
  Zfu14 d k ⟨b_5, 0, none⟩
theorem check_Headers_ok (d : OA) (g : Int) (k : (Sl × (Int × Int)) → K) (w : World) (hyp_ : check_Headers d g k w) : c_check_Headers d g k w :=
  cl_of (P := Tryz.prog) Tryz.func105 rfl (by kernel_rfl)
  (Qs [(3, .addr)] [0] (fun z_ => Zfu14 d k z_.1)
  Qz
  (fun ⟨g_1, _⟩ => Qs [(7, .slice)] [0, 3] (fun z_ => Zfu13 d k g_1 z_.1)
  Qz
  (fun ⟨list, _⟩ => Qs [] [7] (fun z_ => Zfu4 k list)
  (Qs [(8, .int .i64)] [0, 3, 7] (fun z_ => Zfu12 d k g_1 list z_.1)
  Qz
  (fun ⟨b_1, _⟩ => Qb (Ql [(8, .int .i64)] [0, 3, 7] (fun (z_ : (Int × Unit)) c_ => Zfu11 d k g_1 list z_.1 c_) (b_1, ())
  (fun ⟨b_2, _⟩ c => Qs [] [0, 3, 7, 8] (fun z_ => Zfu9 d k g_1 list b_2 c)
  (Qs [(19, .bool)] [0, 3, 7, 8] (fun z_ => Zfu10 d k g_1 list b_2 c z_.1)
  Qz
  (fun ⟨x19, _⟩ => Qc (x19) (Zfu9 d k g_1 list b_2 c) (Zfu4 k list) Qk Qx))
  (fun _ => Qs [] [0, 3, 7, 8] (fun z_ => c ((IntKind.wrap .i64 (b_2 + 1)), ()))
  (Qb (Qs [(9, .addr), (10, .int .i64)] [0, 3, 7, 8] (fun z_ => Zfu8 d k g_1 list b_2 c z_.1 z_.2.1)
  Qz
  (fun ⟨h, e, _⟩ => Qs [] [0, 3, 7, 8, 9] (fun z_ => Zfu5 list b_2 c h)
  (Qs [(46, .bool)] [0, 3, 7, 8, 9] (fun z_ => Zfu7 k list b_2 c h z_.1)
  (RefK.draw [2] [0, 1, 3, 7, 7, 7, 55, 127, 7, 7, 7, 1791, 4095, 8191, 16383] [0, 1, 2, 3, 4, 5, 8, 9, 10, 6, 7, 11, 12, 13, 14] [0, 1, 2, 3, 4, 5, 6, 7, 8, 9, 10, 11, 12, 13, 14] (by kernel_rfl) (by kernel_rfl))
  (fun ⟨x46, _⟩ => Qc (x46) (Zfu6 k ⟨none, 0, 0⟩ b_2 21) (Zfu5 list b_2 c h) (Qs [(4, .slice), (5, .int .i64), (6, .int .i64)] [] (fun z_ => Zfu6 k z_.1 z_.2.1 z_.2.2.1)
  Qz
  (fun ⟨x4_2, x5_2, x6_2, _⟩ => Qr)) Qk))
  (fun _ => Qz))))
  (fun _ => Qz))))))
  (fun _ => Qs [] [7] (fun z_ => Zfu0 k list 0 0)
  (Qs [(11, .int .i64), (12, .bool)] [7] (fun z_ => Zfu3 k list z_.1 z_.2.1)
  Qz
  (fun ⟨b, ok, _⟩ => Qs [(58, .bool)] [7, 11] (fun z_ => Zfu2 k list b z_.1)
  Qz
  (fun ⟨x58, _⟩ => Qc (x58) (Zfu1 k ⟨none, 0, 0⟩ b 40) (Zfu0 k list 0 0) (Qs [(4, .slice), (5, .int .i64), (6, .int .i64)] [] (fun z_ => Zfu1 k z_.1 z_.2.1 z_.2.2.1)
  Qz
  (fun ⟨x4_1, x5_1, x6_1, _⟩ => Qr)) Qk)))
  (fun _ => Qs [(4, .slice), (5, .int .i64), (6, .int .i64)] [] (fun z_ => Zfu0 k z_.1 z_.2.1 z_.2.2.1)
  Qz
  (fun ⟨x4, x5, x6, _⟩ => Qr)))))) hyp_
abbrev Zfv0 (k : (((Option Nat) × (Int × Int)) → K)) (x2 : (Option Nat)) (x3 : Int) (x4 : Int) : K :=
  k (x2, (x3, x4))
abbrev Zfv1 (out : (Option Nat)) (x19_1 : Int) (c_1 : ((Int × Unit) → K)) (at_1 : Int) : K :=
  semU Tryz.prog (Instr.mapUpdate 156 (.map out) (.int .i64 at_1) (.bool true)) <|
  c_1 ((IntKind.wrap .i64 (x19_1 + 1)), ())
abbrev Zfv2 (k : (((Option Nat) × (Int × Int)) → K)) (x2_1 : (Option Nat)) (x3_1 : Int) (x4_1 : Int) : K :=
  k (x2_1, (x3_1, x4_1))
abbrev Zfv3 (k : (((Option Nat) × (Int × Int)) → K)) (x2_2 : (Option Nat)) (x3_2 : Int) (x4_2 : Int) : K :=
  k (x2_2, (x3_2, x4_2))
abbrev Zfv4 (k : (((Option Nat) × (Int × Int)) → K)) (out : (Option Nat)) (x19_1 : Int) (c_1 : ((Int × Unit) → K)) (at_1 : Int) (x53 : Bool) : K :=
  brK x53
  (Zfv3 k none at_1 41)
  (Zfv1 out x19_1 c_1 at_1)
abbrev Zfv5 (k : (((Option Nat) × (Int × Int)) → K)) (out : (Option Nat)) (x19_1 : Int) (c_1 : ((Int × Unit) → K)) (at_1 : Int) : K :=
  lkE Tryz.prog 3 (.bool false) (.sc (.bool)) out (.int .i64 at_1) fun r ob x56 ok_1 =>
  Zfv4 k out x19_1 c_1 at_1 x56
abbrev Zfv6 (k : (((Option Nat) × (Int × Int)) → K)) (out : (Option Nat)) (x19_1 : Int) (c_1 : ((Int × Unit) → K)) (at_1 : Int) (x34 : Bool) : K :=
  brK x34
  (Zfv2 k none at_1 22)
  (Zfv5 k out x19_1 c_1 at_1)
abbrev Zfv7 (a : OA) (k : (((Option Nat) × (Int × Int)) → K)) (out : (Option Nat)) (k_1 : Int) (x19_1 : Int) (c_1 : ((Int × Unit) → K)) (at_1 : Int) (c_2 : Addr) (ok : Bool) : K :=
  tick fun _ =>
  brK (!ok)
  (Zfv6 k out x19_1 c_1 at_1 true)
  (nn a fun x39 =>
  ldP (x39.add 0) fun x41 =>
  nn x41 fun x42 =>
  ldP (x42.add 0) fun x44 =>
  ldI .i64 (c_2.add 0) fun x46 =>
  c_blocks_Table_Get x44 x46 fun x47 =>
  Zfv6 k out x19_1 c_1 at_1 (!((x47.1 == 1) && ((x47.2.1 == k_1) && ((x47.2.2 == 0) && true)))))
abbrev Zfv8 (a : OA) (k : (((Option Nat) × (Int × Int)) → K)) (out : (Option Nat)) (k_1 : Int) (x19_1 : Int) (c_1 : ((Int × Unit) → K)) (at_1 : Int) : K :=
  nn a fun x25 =>
  ldP (x25.add 0) fun x27 =>
  c_bman_Manager_Geometry x27 fun x28 =>
  c_cells_At x28 k_1 at_1 fun x31 =>
  alK (.cells #[.int .i64 0, .int .i64 0] 168) fun b =>
  stK (Addr.add ⟨b, 0, none⟩ 0) (.int .i64 x31.1.1) <|
  stK (Addr.add ⟨b, 0, none⟩ 1) (.int .i64 x31.1.2) <|
  Zfv7 a k out k_1 x19_1 c_1 at_1 ⟨b, 0, none⟩ x31.2
abbrev Zfv9 (a : OA) (k : (((Option Nat) × (Int × Int)) → K)) (out : (Option Nat)) (k_1 : Int) (x17 : Sl) (x19_1 : Int) (c_1 : ((Int × Unit) → K)) : K :=
  ixS x17.p x17.n x19_1 1 fun x21 =>
  ldI .i64 x21 fun x22 =>
  Zfv8 a k out k_1 x19_1 c_1 x22
abbrev Zfv10 (a : OA) (k : (((Option Nat) × (Int × Int)) → K)) (out : (Option Nat)) (x12_1 : Int) (c : ((Int × Unit) → K)) (k_1 : Int) (x17 : Sl) (x19_1 : Int) (c_1 : ((Int × Unit) → K)) (x20 : Bool) : K :=
  brK x20
  (Zfv9 a k out k_1 x17 x19_1 c_1)
  (c ((IntKind.wrap .i64 (x12_1 + 1)), ()))
abbrev Zfv11 (a : OA) (k : (((Option Nat) × (Int × Int)) → K)) (out : (Option Nat)) (x12_1 : Int) (c : ((Int × Unit) → K)) (k_1 : Int) (x17 : Sl) (x18 : Int) (x19_1 : Int) (c_1 : ((Int × Unit) → K)) : K :=
  Zfv10 a k out x12_1 c k_1 x17 x19_1 c_1 (decide (x19_1 < x18))
abbrev Zfv12 (a : OA) (k : (((Option Nat) × (Int × Int)) → K)) (out : (Option Nat)) (x12_1 : Int) (c : ((Int × Unit) → K)) (k_1 : Int) (x17 : Sl) (x18 : Int) (x19 : Int) : K :=
  lp (fun (z_ : (Int × Unit)) c_ => Zfv11 a k out x12_1 c k_1 x17 x18 z_.1 c_) (x19, ())
abbrev Zfv13 (a : OA) (k : (((Option Nat) × (Int × Int)) → K)) (out : (Option Nat)) (x12_1 : Int) (c : ((Int × Unit) → K)) (k_1 : Int) : K :=
  c_alloc_Allocator_FreeCells a k_1 fun x17_1 =>
  Zfv12 a k out x12_1 c k_1 x17_1 ((x17_1.n : Nat) : Int) 0
abbrev Zfv14 (a : OA) (k : (((Option Nat) × (Int × Int)) → K)) (out : (Option Nat)) (x12_1 : Int) (c : ((Int × Unit) → K)) (x13 : Bool) : K :=
  brK x13
  (Zfv13 a k out x12_1 c x12_1)
  (Zfv0 k out 0 0)
abbrev Zfv15 (a : OA) (k : (((Option Nat) × (Int × Int)) → K)) (out : (Option Nat)) (x12_1 : Int) (c : ((Int × Unit) → K)) : K :=
  Zfv14 a k out x12_1 c (decide (x12_1 < 32))
abbrev Zfv16 (a : OA) (k : (((Option Nat) × (Int × Int)) → K)) (out : (Option Nat)) (x12 : Int) : K :=
  lp (fun (z_ : (Int × Unit)) c_ => Zfv15 a k out z_.1 c_) (x12, ())
abbrev Zfv17 (a : OA) (k : (((Option Nat) × (Int × Int)) → K)) (out : (Option Nat)) : K :=
  Zfv16 a k out 0
abbrev Zfv18 (a : OA) (k : (((Option Nat) × (Int × Int)) → K)) : K :=
  alK (.map #[] 0) fun b_1 =>
  Zfv17 a k (some b_1)
abbrev check_free (a : OA) : M ((Option Nat) × (Int × Int)) := fun k =>
  Zfv18 a k
theorem check_free_ok (a : OA) (k : ((Option Nat) × (Int × Int)) → K) (w : World) (hyp_ : check_free a k w) : c_check_free a k w :=
  cl_of (P := Tryz.prog) Tryz.func107 rfl (by kernel_rfl)
  (Qs [] [0] (fun z_ => Zfv18 a k)
  Qz
  (fun _ => Qs [(5, .map)] [0] (fun z_ => Zfv17 a k z_.1)
  Qz
  (fun ⟨out, _⟩ => Qs [] [5] (fun z_ => Zfv0 k out 0 0)
  (Qs [(12, .int .i64)] [0, 5] (fun z_ => Zfv16 a k out z_.1)
  Qz
  (fun ⟨x12, _⟩ => Qb (Ql [(12, .int .i64)] [0, 5] (fun (z_ : (Int × Unit)) c_ => Zfv15 a k out z_.1 c_) (x12, ())
  (fun ⟨x12_1, _⟩ c => Qs [(13, .bool)] [0, 5, 12] (fun z_ => Zfv14 a k out x12_1 c z_.1)
  Qz
  (fun ⟨x13, _⟩ => Qs [] [0, 5, 12] (fun z_ => Zfv13 a k out x12_1 c x12_1)
  (Qc (x13) (Zfv13 a k out x12_1 c x12_1) (Zfv0 k out 0 0) Qk Qx)
  (fun _ => Qs [] [0, 5, 12] (fun z_ => c ((IntKind.wrap .i64 (x12_1 + 1)), ()))
  (Qb (Qs [(6, .int .i64)] [0, 5, 12] (fun z_ => Zfv13 a k out x12_1 c z_.1)
  Qz
  (fun ⟨k_1, _⟩ => Qs [(17, .slice), (18, .int .i64), (19, .int .i64)] [0, 5, 6, 12] (fun z_ => Zfv12 a k out x12_1 c k_1 z_.1 z_.2.1 z_.2.2.1)
  Qz
  (fun ⟨x17, x18, x19, _⟩ => Qb (Ql [(19, .int .i64)] [0, 5, 6, 12, 17, 18] (fun (z_ : (Int × Unit)) c_ => Zfv11 a k out x12_1 c k_1 x17 x18 z_.1 c_) (x19, ())
  (fun ⟨x19_1, _⟩ c_1 => Qs [(20, .bool)] [0, 5, 6, 12, 17, 18, 19] (fun z_ => Zfv10 a k out x12_1 c k_1 x17 x19_1 c_1 z_.1)
  Qz
  (fun ⟨x20, _⟩ => Qs [] [0, 5, 6, 12, 17, 18, 19] (fun z_ => Zfv9 a k out k_1 x17 x19_1 c_1)
  (Qc (x20) (Zfv9 a k out k_1 x17 x19_1 c_1) (c ((IntKind.wrap .i64 (x12_1 + 1)), ())) Qk Qx)
  (fun _ => Qs [] [0, 5, 6, 12, 17, 18, 19] (fun z_ => c_1 ((IntKind.wrap .i64 (x19_1 + 1)), ()))
  (Qb (Qs [(8, .int .i64)] [0, 5, 6, 12, 17, 18, 19] (fun z_ => Zfv8 a k out k_1 x19_1 c_1 z_.1)
  Qz
  (fun ⟨at_1, _⟩ => Qs [(9, .addr), (10, .bool)] [0, 5, 6, 8, 12, 17, 18, 19] (fun z_ => Zfv7 a k out k_1 x19_1 c_1 at_1 z_.1 z_.2.1)
  Qz
  (fun ⟨c_2, ok, _⟩ => Qs [] [0, 5, 6, 8, 12, 17, 18, 19] (fun z_ => Zfv1 out x19_1 c_1 at_1)
  (Qb (Qs [(34, .bool)] [0, 5, 6, 8, 12, 17, 18, 19] (fun z_ => Zfv6 k out x19_1 c_1 at_1 z_.1)
  (RefK.draw [2] [0, 1, 3, 7, 15, 31, 63, 127, 255, 511, 7, 1031, 4095, 7, 8199, 32767, 65535, 131071] [0, 1, 2, 3, 4, 5, 6, 7, 8, 9, 10, 11, 13, 14, 12, 15, 16, 17] [0, 1, 2, 3, 4, 5, 6, 7, 8, 9, 10, 11, 12, 13, 14, 15, 16, 17] (by kernel_rfl) (by kernel_rfl))
  (fun ⟨x34, _⟩ => Qc (x34) (Zfv2 k none at_1 22) (Zfv5 k out x19_1 c_1 at_1) (Qs [(2, .map), (3, .int .i64), (4, .int .i64)] [] (fun z_ => Zfv2 k z_.1 z_.2.1 z_.2.2.1)
  Qz
  (fun ⟨x2_1, x3_1, x4_1, _⟩ => Qr)) (Qs [(53, .bool)] [0, 5, 6, 8, 12, 17, 18, 19] (fun z_ => Zfv4 k out x19_1 c_1 at_1 z_.1)
  Qz
  (fun ⟨x53, _⟩ => Qc (x53) (Zfv3 k none at_1 41) (Zfv1 out x19_1 c_1 at_1) (Qs [(2, .map), (3, .int .i64), (4, .int .i64)] [] (fun z_ => Zfv3 k z_.1 z_.2.1 z_.2.2.1)
  Qz
  (fun ⟨x2_2, x3_2, x4_2, _⟩ => Qr)) Qk)))))
  (fun _ => Qz)))))
  (fun _ => Qz)))))))))
  (fun _ => Qz)))))))
  (fun _ => Qs [(2, .map), (3, .int .i64), (4, .int .i64)] [] (fun z_ => Zfv0 k z_.1 z_.2.1 z_.2.2.1)
  Qz
  (fun ⟨x2, x3, x4, _⟩ => Qr))))) hyp_
abbrev Zfw0 (k : ((Int × Int) → K)) (x10 : Int) (x11 : Int) : K :=
  k (x10, x11)
abbrev Zfw1 (k : ((Int × Int) → K)) (x10_1 : Int) (x11_1 : Int) : K :=
  k (x10_1, x11_1)
abbrev Zfw2 (x0 : OA) (k : ((Int × Int) → K)) : K :=
  nn x0 fun x73 =>
  ldI .i64 (x73.add 2) fun x75 =>
  nn x0 fun x77 =>
  stK (Addr.add (x77.add 2) 0) (.int .i64 (IntKind.wrap .i64 (x75 + 1))) <|
  Zfw0 k 0 0
abbrev Zfw3 (x0 : OA) (k : ((Int × Int) → K)) (x12 : Addr) (x14 : Addr) : K :=
  ldI .i64 (x14.add 0) fun x67_0 =>
  ldI .i64 (x14.add 1) fun x67_1 =>
  ldI .i64 (x12.add 2) fun x69 =>
  c_check_Report_add x0 (x67_0, x67_1) (IntKind.wrap .i64 (x69 * 512)) fun x71 =>
  Zfw2 x0 k
abbrev Zfw4 (k : ((Int × Int) → K)) (x10_2 : Int) (x11_2 : Int) : K :=
  k (x10_2, x11_2)
abbrev Zfw5 (x0 : OA) (k : ((Int × Int) → K)) (x12 : Addr) (x13 : Int) (x14 : Addr) (x64 : Bool) : K :=
  brK x64
  (Zfw4 k x13 22)
  (Zfw3 x0 k x12 x14)
abbrev Zfw6 (x0 : OA) (x1 : OA) (k : ((Int × Int) → K)) (x12 : Addr) (x13 : Int) (x14 : Addr) (x15 : Bool) : K :=
  brK (!x15)
  (Zfw5 x0 k x12 x13 x14 true)
  (c_alloc_Allocator_Used x1 x13 fun x62 =>
  Zfw5 x0 k x12 x13 x14 (!x62))
abbrev Zfw7 (x0 : OA) (x1 : OA) (k : ((Int × Int) → K)) (x12 : Addr) (x13 : Int) : K :=
  c_alloc_Allocator_Place x1 x13 fun x54 =>
  alK (.cells #[.int .i64 0, .int .i64 0] 68) fun b =>
  stK (Addr.add ⟨b, 0, none⟩ 0) (.int .i64 x54.1.1) <|
  stK (Addr.add ⟨b, 0, none⟩ 1) (.int .i64 x54.1.2) <|
  Zfw6 x0 x1 k x12 x13 ⟨b, 0, none⟩ x54.2
abbrev Zfw8 (x0 : OA) (x1 : OA) (x4 : Int) (k : ((Int × Int) → K)) (x12 : Addr) : K :=
  nn x1 fun x45 =>
  ldP (x45.add 0) fun x47 =>
  c_bman_Manager_Geometry x47 fun x48 =>
  c_geom_Geometry_First x48 x4 fun x50 =>
  Zfw7 x0 x1 k x12 x50
abbrev Zfw9 (x0 : OA) (x1 : OA) (x4 : Int) (k : ((Int × Int) → K)) (x12 : Addr) (x42 : Bool) : K :=
  brK x42
  (Zfw8 x0 x1 x4 k x12)
  (Zfw0 k 0 0)
abbrev Zfw10 (x0 : OA) (x1 : OA) (x2 : (Option Nat)) (x4 : Int) (k : ((Int × Int) → K)) (x12 : Addr) : K :=
  ldI .i64 (x12.add 1) fun x38 =>
  c_check_Report_block x0 x1 x2 x4 x38 fun x39 =>
  Zfw1 k x39.1 x39.2
abbrev Zfw11 (x0 : OA) (x1 : OA) (x2 : (Option Nat)) (x4 : Int) (k : ((Int × Int) → K)) (x12 : Addr) (x21 : Int) (x31 : Bool) : K :=
  brK x31
  (Zfw10 x0 x1 x2 x4 k x12)
  (Zfw9 x0 x1 x4 k x12 (x21 == 2))
abbrev Zfw12 (x0 : OA) (k : ((Int × Int) → K)) : K :=
  nn x0 fun x25 =>
  ldI .i64 (x25.add 0) fun x27 =>
  nn x0 fun x29 =>
  stK (Addr.add (x29.add 0) 0) (.int .i64 (IntKind.wrap .i64 (x27 + 1))) <|
  Zfw0 k 0 0
abbrev Zfw13 (x0 : OA) (x1 : OA) (x2 : (Option Nat)) (x4 : Int) (k : ((Int × Int) → K)) (x12 : Addr) (x21 : Int) (x22 : Bool) : K :=
  brK x22
  (Zfw12 x0 k)
  (Zfw11 x0 x1 x2 x4 k x12 x21 (x21 == 1))
abbrev Zfw14 (x0 : OA) (x1 : OA) (x2 : (Option Nat)) (x4 : Int) (k : ((Int × Int) → K)) (x12 : Addr) (x21 : Int) : K :=
  Zfw13 x0 x1 x2 x4 k x12 x21 (x21 == 0)
abbrev Zfw15 (x0 : OA) (x1 : OA) (x2 : (Option Nat)) (x4 : Int) (k : ((Int × Int) → K)) (x12 : Addr) : K :=
  ldI .i64 (x12.add 0) fun x21_1 =>
  Zfw14 x0 x1 x2 x4 k x12 x21_1
abbrev Zfw16 (x0 : OA) (x1 : OA) (x2 : (Option Nat)) (x3 : Sl) (x4 : Int) (k : ((Int × Int) → K)) : K :=
  ixS x3.p x3.n x4 3 fun x18 =>
  ldI .i64 (x18.add 0) fun x19_0 =>
  ldI .i64 (x18.add 1) fun x19_1 =>
  ldI .i64 (x18.add 2) fun x19_2 =>
  alK (.cells #[.int .i64 0, .int .i64 0, .int .i64 0] 143) fun b_1 =>
  stK (Addr.add ⟨b_1, 0, none⟩ 0) (.int .i64 x19_0) <|
  stK (Addr.add ⟨b_1, 0, none⟩ 1) (.int .i64 x19_1) <|
  stK (Addr.add ⟨b_1, 0, none⟩ 2) (.int .i64 x19_2) <|
  Zfw15 x0 x1 x2 x4 k ⟨b_1, 0, none⟩
abbrev check_Report_one (x0 : OA) (x1 : OA) (x2 : (Option Nat)) (x3 : Sl) (x4 : Int) : M (Int × Int) := fun k =>
  Zfw16 x0 x1 x2 x3 x4 k
theorem check_Report_one_ok (x0 : OA) (x1 : OA) (x2 : (Option Nat)) (x3 : Sl) (x4 : Int) (k : (Int × Int) → K) (w : World) (hyp_ : check_Report_one x0 x1 x2 x3 x4 k w) : c_check_Report_one x0 x1 x2 x3 x4 k w :=
  cl_of (P := Tryz.prog) Tryz.func108 rfl (by kernel_rfl)
  (Qs [] [0, 1, 2, 3, 4] (fun z_ => Zfw16 x0 x1 x2 x3 x4 k)
  Qz
  (fun _ => Qs [] [] (fun z_ => Zfw0 k 0 0)
  (Qs [(12, .addr)] [0, 1, 2, 4] (fun z_ => Zfw15 x0 x1 x2 x4 k z_.1)
  Qz
  (fun ⟨x12, _⟩ => Qs [(21, .int .i64)] [0, 1, 2, 4, 12] (fun z_ => Zfw14 x0 x1 x2 x4 k x12 z_.1)
  Qz
  (fun ⟨x21, _⟩ => Qb (Qs [(22, .bool)] [0, 1, 2, 4, 12, 21] (fun z_ => Zfw13 x0 x1 x2 x4 k x12 x21 z_.1)
  Qz
  (fun ⟨x22, _⟩ => Qc (x22) (Zfw12 x0 k) (Zfw11 x0 x1 x2 x4 k x12 x21 (x21 == 1)) Qz (Qs [(31, .bool)] [0, 1, 2, 4, 12, 21] (fun z_ => Zfw11 x0 x1 x2 x4 k x12 x21 z_.1)
  Qz
  (fun ⟨x31, _⟩ => Qc (x31) (Zfw10 x0 x1 x2 x4 k x12) (Zfw9 x0 x1 x4 k x12 (x21 == 2)) (Qs [(10, .int .i64), (11, .int .i64)] [] (fun z_ => Zfw1 k z_.1 z_.2.1)
  Qz
  (fun ⟨x10_1, x11_1, _⟩ => Qr)) (Qs [(42, .bool)] [0, 1, 4, 12] (fun z_ => Zfw9 x0 x1 x4 k x12 z_.1)
  Qz
  (fun ⟨x42, _⟩ => Qc (x42) (Zfw8 x0 x1 x4 k x12) (Zfw0 k 0 0) (Qs [(13, .int .i64)] [0, 1, 12] (fun z_ => Zfw7 x0 x1 k x12 z_.1)
  Qz
  (fun ⟨x13, _⟩ => Qs [(14, .addr), (15, .bool)] [0, 1, 12, 13] (fun z_ => Zfw6 x0 x1 k x12 x13 z_.1 z_.2.1)
  Qz
  (fun ⟨x14, x15, _⟩ => Qs [] [0, 12, 14] (fun z_ => Zfw3 x0 k x12 x14)
  (Qs [(64, .bool)] [0, 12, 13, 14] (fun z_ => Zfw5 x0 k x12 x13 x14 z_.1)
  (Qp [2])
  (fun ⟨x64, _⟩ => Qc (x64) (Zfw4 k x13 22) (Zfw3 x0 k x12 x14) (Qs [(10, .int .i64), (11, .int .i64)] [] (fun z_ => Zfw4 k z_.1 z_.2.1)
  Qz
  (fun ⟨x10_2, x11_2, _⟩ => Qr)) Qk))
  (fun _ => Qs [] [0] (fun z_ => Zfw2 x0 k)
  Qz
  (fun _ => Qz))))) Qk)))))))))
  (fun _ => Qs [(10, .int .i64), (11, .int .i64)] [] (fun z_ => Zfw0 k z_.1 z_.2.1)
  Qz
  (fun ⟨x10, x11, _⟩ => Qr)))) hyp_
abbrev Zfx0 (r : OA) (room : Int) (k : (Unit → K)) (o_1 : Addr) : K :=
  tick fun _ =>
  nn r fun x23 =>
  ldI .i64 (x23.add 6) fun x25 =>
  ldI .i64 (o_1.add 0) fun x27_0 =>
  ldI .i64 (o_1.add 1) fun x27_1 =>
  c_ohead_Object_Size (x27_0, x27_1) fun x28 =>
  chk [.cell (x23.add 6) (.int .i64 x25)] fun _ =>
  nn r fun x31 =>
  stK (Addr.add (x31.add 6) 0) (.int .i64 (IntKind.wrap .i64 (x25 + (IntKind.wrap .i64 (room - x28))))) <|
  k ()
abbrev Zfx1 (r : OA) (room : Int) (k : (Unit → K)) (o_1 : Addr) : K :=
  tick fun _ =>
  nn r fun x14 =>
  ldI .i64 (x14.add 4) fun x16 =>
  ldI .i64 (o_1.add 0) fun x17_0 =>
  ldI .i64 (o_1.add 1) fun x17_1 =>
  c_ohead_Object_Size (x17_0, x17_1) fun x18 =>
  chk [.cell (x14.add 4) (.int .i64 x16)] fun _ =>
  nn r fun x20 =>
  stK (Addr.add (x20.add 4) 0) (.int .i64 (IntKind.wrap .i64 (x16 + x18))) <|
  Zfx0 r room k o_1
abbrev Zfx2 (r : OA) (room : Int) (k : (Unit → K)) (o_1 : Addr) : K :=
  nn r fun x7 =>
  ldI .i64 (x7.add 3) fun x9 =>
  nn r fun x11 =>
  stK (Addr.add (x11.add 3) 0) (.int .i64 (IntKind.wrap .i64 (x9 + 1))) <|
  Zfx1 r room k o_1
abbrev check_Report_add (r : OA) (o : (Int × Int)) (room : Int) : M Unit := fun k =>
  alK (.cells #[.int .i64 o.1, .int .i64 o.2] 68) fun b =>
  Zfx2 r room k ⟨b, 0, none⟩
theorem check_Report_add_ok (r : OA) (o : (Int × Int)) (room : Int) (k : Unit → K) (w : World) (hyp_ : check_Report_add r o room k w) : c_check_Report_add r o room k w :=
  cl_of (P := Tryz.prog) Tryz.func169 rfl (by kernel_rfl)
  (Qs [(4, .addr)] [0, 2] (fun z_ => Zfx2 r room k z_.1)
  Qz
  (fun ⟨o_1, _⟩ => Qs [] [0, 2, 4] (fun z_ => Zfx1 r room k o_1)
  Qz
  (fun _ => Qs [] [0, 2, 4] (fun z_ => Zfx0 r room k o_1)
  (RefK.draw [] [0, 1, 3, 7, 0, 16, 63, 127, 255, 511] [0, 1, 2, 3, 4, 5, 6, 7, 8, 9] [0, 1, 2, 3, 4, 5, 6, 7, 8, 9] (by kernel_rfl) (by kernel_rfl))
  (fun _ => RefK.draw [] [0, 1, 3, 7, 0, 0, 32, 112, 255, 511, 1023, 2047] [0, 1, 2, 3, 4, 5, 6, 7, 8, 9, 10, 11] [0, 1, 2, 3, 4, 5, 6, 7, 8, 9, 10, 11] (by kernel_rfl) (by kernel_rfl))))) hyp_
end
section
set_option maxHeartbeats 1000000
def fits (g : Nat) (o : Ob) : Prop := oSize o ≠ 0 ∧ oSize o ≤ ((g : Int) - 1) * 512
instance (g : Nat) (o : Ob) : Decidable (fits g o) := by unfold fits; infer_instance
def kN (o : Ob) : Nat := (kOf (oSize o)).1.toNat
def valS (L : Nat → List Int) (k : Nat) (sn : List (Int × Int)) : Int := (accL L k 4).length + sumI sn * cn k
def val (g : Nat) (L : Nat → List Int) (o : Ob) (sn : List (Int × Int)) : Int := if fits g o then (if (kOf (oSize o)).2 = true then valS L (kN o) sn else sumD (oBlocks o) sn) else 0
theorem Cov.rng {lim : Int} {F : RF} (ok : RunsOk lim F) {sn : List (Int × Int)} (h : Cov F sn) : ∀ p ∈ sn, 1 ≤ p.2 := fun p hp => (ok.rng _ _ ((h.2 p.1 p.2).2 hp)).2.1
section
variable {B : World} {P R : SL} {t : K}
end
end
section
set_option maxHeartbeats 1000000
def c0 (g : Nat) : List Int := wrH (List.replicate (8 * (64 * g)) 0) 1 (List.replicate (g - 1) (0, 0, 0))
def st0 (g : Nat) (F : RF) : St := ⟨hs0 g, F, c0 g, fun _ => false, fun _ => []⟩
theorem tells0 {g : Nat} (h : 2 ≤ g) (h2 : g ≤ 2 ^ 20) : Tells (c0 g) (hs0 g) := by
  refine ⟨by unfold hs0; rw [List.getElem?_replicate]; rw [if_pos (by omega)], fun b hb h' hh => ?_⟩
  unfold hs0 at hh
  rw [List.getElem?_replicate] at hh
  split at hh
  · rename_i hlt
    simp only [Option.some.injEq] at hh
    subst hh
    have e : getI (c0 g) (256 + b) = benc b (0, 0, 0) := by
      unfold getI
      rw [if_neg (by omega)]
      have e2 : (256 + (b : Int)).toNat = 256 + b := by omega
      rw [e2, List.getD_eq_getElem?_getD]
      unfold c0
      rw [wrH_get, if_neg (by simp; omega), List.getElem?_replicate, if_pos (by omega)]
      simp only [Option.map_some, Option.getD_some]
      congr 1; omega
    rw [e]
    exact bdec_benc (.inl rfl)
  · cases hh
section
variable {B : World} {P R : SL} {t : K}
theorem Begun_c {n : Nat} (h1 : 2 ≤ n) (h2 : n ≤ 2 ^ 20) {kk : ((Option Addr × (Option Addr × Sl)) × Bool) → K} (hk : ∀ a d F, T B (R * Al a d n (st0 n F)) (kk ((da a, (da d, nilS)), true))) : T B R (c_law20_Begun n kk) := by
  refine T_of (law20_Begun_ok _ kk) ?_
  (repeat (first | ((with_reducible apply T_ldI); (focus rfl); (focus exact hasA); (focus rfl)) | (with_reducible refine T_al ?_; intro _) | ((with_reducible apply T_st); (focus rfl); (focus exact updA); (focus simp); simp only [List.set, Nat.zero_add, Nat.reduceAdd])))
  rename_i b1 b2
  refine geom_Words_c (by omega) (by omega) ?_
  refine nvm_New_c (n := 64 * n) (by omega) (by omega) fun d => ?_
  unfold da
  skip
  (dsimp only [law20_Begun, Zfb0, Zfb1, Zfb2, Zfb3, Zfb4, Zfb5, Zfb6, Zfb7, Zfb8, Zfb9, Zfb10, Zfb11, Zfb12, Zfb13])
  simp only [Option.isNone_some]
  (repeat (first | with_reducible refine T_brF ?_ | ((with_reducible apply T_ldI); (focus rfl); (focus exact hasA); (focus rfl))))
  refine blocks_Format_c h1 h2 rfl fun la' hp => ?_
  (repeat' (first | ((with_reducible apply T_ldI); (focus rfl); (focus exact hasA); (focus rfl)) | ((with_reducible apply T_ldP); (focus rfl); (focus exact hasA); (focus rfl)) | ((with_reducible apply T_st); (focus rfl); (focus exact updA); (focus simp); simp only [List.set, Nat.zero_add, Nat.reduceAdd]) | with_reducible refine T_brNE (fun _ => ?_) (fun _ => ?_)))
  · rename_i h; exact absurd rfl h
  have ht := tells0 h1 h2
  have hp' : Pst (64 * n) ((256 + ((1 : Nat) : Int)) / 8).toNat (((256 + ((1 : Nat) : Int)) + (List.replicate (n - 1) ((0, 0, 0) : Hd)).length - 1) / 8 + 1).toNat (wrH (List.replicate (8 * (64 * n)) 0) 1 (List.replicate (n - 1) (0, 0, 0))) (List.replicate (8 * (64 * n)) 0) la' := by
    rw [List.length_replicate, show (((256 + ((1 : Nat) : Int)) + ((n - 1 : Nat) : Int) - 1) / 8 + 1) = ((257 : Int) + (n - 1) - 1) / 8 + 1 by omega]; exact hp
  refine LDx_close (HLs.put rfl (fun _ _ _ => rfl) hp') ?_
  refine bman_Open_c (g := n) h1 h2 ht fun m F => ?_
  (repeat' (first | with_reducible refine T_brT ?_ | ((with_reducible apply T_ldP); (focus rfl); (focus exact hasA); (focus rfl)) | ((with_reducible apply T_st); (focus rfl); (focus exact updA); (focus simp); simp only [List.set, Nat.zero_add, Nat.reduceAdd]) | with_reducible refine T_brNE (fun _ => ?_) (fun _ => ?_)))
  · rename_i h; exact absurd rfl h
  simp only [da, Option.isNone_some]
  (repeat (with_reducible refine T_brF ?_))
  refine alloc_New_c (g := n) (d := d) (m := m) h1 h2 fun a => ?_
  (repeat' (first | with_reducible refine T_tick ?_ | ((with_reducible apply T_ldP); (focus rfl); (focus exact hasA); (focus rfl)) | ((with_reducible apply T_st); (focus rfl); (focus exact updA); (focus simp); simp only [List.set, Nat.zero_add, Nat.reduceAdd]) | with_reducible refine T_brE (fun _ => ?_) (fun _ => ?_) | with_reducible refine T_brN ?_))
  · simp only [da, Option.isNone_some, Bool.not_false]
    (repeat (first | with_reducible refine T_nn ?_ | with_reducible refine T_brF ?_))
    refine T_bring (X := Al a d n (st0 n F)) .last ?_
    refine Al_open fun m2 u f => ?_
    unfold da
    (repeat (first | with_reducible refine T_chk0 ?_ | ((with_reducible apply T_ldP); (focus rfl); (focus exact hasA); (focus rfl)) | ((with_reducible apply T_st); (focus rfl); (focus exact updA); (focus simp); simp only [List.set, Nat.zero_add, Nat.reduceAdd]) | ((with_reducible apply T_chk); (focus rfl); (focus exact hasA); (focus rfl))))
    simp only [Option.isNone_some, Bool.not_false]
    skip
    have h3 := Al_close (m := m2) (u := u) (f := f) (hk a d F)
    refine T_ldS (n := nilS) (by rw [add_mk]) (by exact hasA) rfl ?_
    refine T_drop1 (by exact frmA : Frm _ (pt b1 (.cells [Value.pointer (some ⟨a, 0, none⟩), .pointer (some ⟨d, 0, none⟩), .slice none 0 0].toArray 29)) _) ?_
    refine T_drop1 (by exact frmA : Frm _ (pt b2 (.cells [Value.int .i64 n].toArray 43)) _) ?_
    exact T.perm (by unfold da; ac_rfl) h3
  · rename_i h; exact absurd rfl h
theorem T_ldBase {a : Addr} {kd : IntKind} {n : Int} {k : Int → K} (h : B.cell? a = some (.int kd n)) (ht : T B P (k n)) : T B P (ldI kd a k) := by
  intro w hw
  have hlt : a.block < B.heap.size := by
    unfold World.cell? at h
    cases hh : B.heap[a.block]? with
    | none => rw [hh] at h; cases h
    | some o => exact (Array.getElem?_eq_some_iff.1 hh).1
  exact ⟨n, by rw [hw.2.cell hlt]; exact h, ht w hw⟩
/-- a script of calls in the world of the law's call -/
def Scr (B : World) (x : Sl) : Prop := ∀ i : Nat, i < x.n → ∃ a, x.p = some a ∧ ∃ k m p d : Int, B.cell? ((a.add (i * 4)).add 0) = some (.int .i64 k) ∧ B.cell? ((a.add (i * 4)).add 1) = some (.int .i64 m) ∧ B.cell? ((a.add (i * 4)).add 2) = some (.int .i64 p) ∧ B.cell? ((a.add (i * 4)).add 3) = some (.int .i64 d)
theorem T_ixScr {x : Sl} (h : Scr B x) {i : Int} {k : Addr → K} (h0 : 0 ≤ i) (h1 : i < x.n) (ht : ∀ a kd m p d, B.cell? (a.add 0) = some (.int .i64 kd) → B.cell? (a.add 1) = some (.int .i64 m) → B.cell? (a.add 2) = some (.int .i64 p) → B.cell? (a.add 3) = some (.int .i64 d) → T B P (k a)) :
    T B P (ixS x.p x.n i 4 k) := by
  obtain ⟨a, ha, kd, m, p, d, e0, e1, e2, e3⟩ := h i.toNat (by omega)
  exact T_ixS ha h0 h1 (ht _ kd m p d e0 e1 e2 e3)
end
end
section
set_option maxHeartbeats 1000000
section
variable {B : World} {P R : SL} {t : K}
theorem ref08_Size_c {o : Ob} {kk : Int → K} (hk : T B R (kk (oSize o))) : T B R (c_ref08_Size o kk) := by
  refine T_of (ref08_Size_ok o kk) ?_
  (repeat' (first | with_reducible refine T_brT ?_ | ((with_reducible apply T_ldI); (focus rfl); (focus exact hasA); (focus rfl)) | (with_reducible refine T_al ?_; intro _) | with_reducible refine T_brD (fun _ => ?_) (fun _ => ?_)))
  all_goals (
    refine T_drop1 .last ?_
    first
    | (have e : oSize o = 0 := if_neg (fun h : oRight o => by unfold oRight at h; omega)
       rw [e] at hk; exact hk)
    | (have e : oSize o = 1 + o.1 + o.2 := if_pos (show oRight o by unfold oRight; omega)
       rw [w64 (n := 1 + o.1) (by omega) (by omega), w64 (by omega) (by omega), ← e]
       exact hk))
end
end
end Go.Proofs.YtdgcbapclnnkkaaGreat.X
