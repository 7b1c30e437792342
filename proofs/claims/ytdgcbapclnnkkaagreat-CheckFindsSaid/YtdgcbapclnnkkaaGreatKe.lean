/- Part 5 of the proof that the law holds for every input: the theorems of this part. Conditions: each theorem bears its own; the last has none. -/
import Derived.Test.YtdgcbapclnnkkaaGreatKd
set_option linter.all false
set_option maxRecDepth 4000
namespace Go.Proofs.YtdgcbapclnnkkaaGreat.X
open Go
/-- words of a cell, cells of a block -/
def cw (k : Nat) : Nat := (clsW k).toNat
def cn (k : Nat) : Nat := (cls k).toNat
theorem cls_tab : ∀ k : Nat, k < 32 → clsW k = cw k ∧ cls k = cn k ∧ 2 ≤ cw k ∧ cw k ≤ 256 ∧ cn k = 512 / cw k ∧ 2 ≤ cn k ∧ cn k ≤ 256 ∧ cn k * cw k ≤ 512 := by decide +kernel
def cellN (b k i : Nat) : Nat := b * 512 + i * cw k
theorem cellN_rng {b k i : Nat} (hk : k < 32) (hi : i < cn k) : b * 512 ≤ cellN b k i ∧ cellN b k i + cw k ≤ (b + 1) * 512 := by
  obtain ⟨_, _, h2, _, _, _, _, h8⟩ := cls_tab k hk
  unfold cellN
  have : (i + 1) * cw k ≤ cn k * cw k := Nat.mul_le_mul_right _ hi
  rw [Nat.add_mul, Nat.one_mul] at this
  omega
theorem cellN_inj {b b' k i i' : Nat} (hk : k < 32) (hi : i < cn k) (hi' : i' < cn k) (h : cellN b k i = cellN b' k i') : b = b' ∧ i = i' := by
  have h1 := cellN_rng (b := b) hk hi
  have h2 := cellN_rng (b := b') hk hi'
  obtain ⟨_, _, h3, _⟩ := cls_tab k hk
  have hb : b = b' := by omega
  subst hb
  refine ⟨rfl, ?_⟩
  unfold cellN at h
  exact Nat.eq_of_mul_eq_mul_right (by omega) (by omega : i * cw k = i' * cw k)
theorem cellN_blk {b k i : Nat} (hk : k < 32) (hi : i < cn k) : cellN b k i / 512 = b := by
  have h1 := cellN_rng (b := b) hk hi
  obtain ⟨_, _, h3, _⟩ := cls_tab k hk
  omega
theorem cellAt_eq {g b k i : Nat} (hk : k < 32) (hb : 1 ≤ b) (hb2 : b < g) (hi : i < cn k) : cellAt g k ((b : Int), (i : Int)) = (cellN b k i : Nat) := by
  obtain ⟨h1, h2, _⟩ := cls_tab k hk
  unfold cellAt cellN
  rw [if_neg (by rw [h2]; omega), h1]
  simp only [Int.natCast_add, Int.natCast_mul]; rfl
abbrev hd (hs : List Hd) (b : Nat) : Hd := hs.getD b (0, 0, 0)
/-- a cell of a block of small objects of a class -/
def SmCell (g : Nat) (hs : List Hd) (k x : Nat) : Prop := ∃ b i : Nat, 1 ≤ b ∧ b < g ∧ hd hs b = (1, (k : Int), 0) ∧ i < cn k ∧ x = cellN b k i
theorem SmCell.k {g : Nat} {hs : List Hd} {k k' x : Nat} (hk : k < 32) (hk' : k' < 32) (h : SmCell g hs k x) (h' : SmCell g hs k' x) : k = k' := by
  obtain ⟨b, i, _, _, h1, h2, rfl⟩ := h
  obtain ⟨b', i', _, _, h1', h2', e⟩ := h'
  have : b = b' := by
    have e1 := cellN_blk (b := b) hk h2
    rw [e, cellN_blk hk' h2'] at e1
    exact e1.symm
  subst this
  rw [h1] at h1'
  simp only [Prod.mk.injEq] at h1'
  omega
/-- what the lists of free cells hold -/
structure Frees (g : Nat) (hs : List Hd) (U : Nat → Bool) (L : Nat → List Int) : Prop where
  nd : ∀ k, k < 32 → (accL L k 4).Nodup
  mem : ∀ k, k < 32 → ∀ y : Int, y ∈ accL L k 4 ↔ ∃ x : Nat, y = x ∧ SmCell g hs k x ∧ U x = false
/-- an allocator's blocks, objects and free cells fit one another -/
structure Inv (g : Nat) (hs : List Hd) (U : Nat → Bool) (L : Nat → List Int) : Prop where
  len : hs.length = g
  two : 2 ≤ g
  big : g ≤ 2 ^ 20
  right : ∀ h ∈ hs, hRight h
  zero : hd hs 0 = (0, 0, 0)
  whole : ∀ b, (hd hs b).1 = 2 → ∃ n, WholeP hs b n
  cont : ∀ b, (hd hs b).1 = 3 → ∃ b0 n, WholeP hs b0 n ∧ b0 < b ∧ b < b0 + n
  used : ∀ x, U x = true → (∃ k, k < 32 ∧ SmCell g hs k x) ∨ (∃ b n, 1 ≤ b ∧ WholeP hs b n ∧ x = b * 512)
  free : Frees g hs U L
theorem mem_accL {L : Nat → List Int} {k : Nat} {y : Int} : y ∈ accL L k 4 ↔ FHas L k y := by
  show y ∈ (((L k ++ L (ix 0 k)) ++ L (ix 1 k)) ++ L (ix 2 k)) ++ L (ix 3 k) ↔ _
  unfold FHas
  simp only [List.mem_append]
  constructor
  · rintro ((((h | h) | h) | h) | h)
    · exact .inl h
    · exact .inr ⟨0, by omega, h⟩
    · exact .inr ⟨1, by omega, h⟩
    · exact .inr ⟨2, by omega, h⟩
    · exact .inr ⟨3, by omega, h⟩
  · rintro (h | ⟨m, hm, h⟩)
    · exact .inl (.inl (.inl (.inl h)))
    · have : m = 0 ∨ m = 1 ∨ m = 2 ∨ m = 3 := by omega
      rcases this with rfl | rfl | rfl | rfl
      · exact .inl (.inl (.inl (.inr h)))
      · exact .inl (.inl (.inr h))
      · exact .inl (.inr h)
      · exact .inr h
theorem accL_count (L : Nat → List Int) (k : Nat) (y : Int) : (accL L k 4).count y = (L k).count y + (L (ix 0 k)).count y + (L (ix 1 k)).count y + (L (ix 2 k)).count y + (L (ix 3 k)).count y := by
  show ((((L k ++ L (ix 0 k)) ++ L (ix 1 k)) ++ L (ix 2 k)) ++ L (ix 3 k)).count y = _
  simp only [List.count_append]
/-- one cell turned, out of two lists of a class -/
theorem accL_turn {L L' : Nat → List Int} {m k : Nat} (hm : m < 4) (hk : k < 32) (ht : Turn L L' m k) {l l' : List Int} (hp : (L k ++ L (ix m k) ++ l).Perm (L' k ++ L' (ix m k) ++ l')) :
    (accL L k 4 ++ l).Perm (accL L' k 4 ++ l') ∧ ∀ j, j < 32 → j ≠ k → accL L' j 4 = accL L j 4 := by
  constructor
  · rw [List.perm_iff_count]
    intro y
    have h := hp.count_eq y
    simp only [List.count_append, accL_count] at h ⊢
    have hh : ∀ m', m' < 4 → m' ≠ m → L' (ix m' k) = L (ix m' k) := fun m' h1 h2 => ht _ (by unfold ix; omega) (by unfold ix; omega)
    have : m = 0 ∨ m = 1 ∨ m = 2 ∨ m = 3 := by omega
    rcases this with rfl | rfl | rfl | rfl
    · rw [hh 1 (by omega) (by omega), hh 2 (by omega) (by omega), hh 3 (by omega) (by omega)]; omega
    · rw [hh 0 (by omega) (by omega), hh 2 (by omega) (by omega), hh 3 (by omega) (by omega)]; omega
    · rw [hh 0 (by omega) (by omega), hh 1 (by omega) (by omega), hh 3 (by omega) (by omega)]; omega
    · rw [hh 0 (by omega) (by omega), hh 1 (by omega) (by omega), hh 2 (by omega) (by omega)]; omega
  · intro j hj hjk
    have e : ∀ i, accL L' j i = accL L j i ∨ 4 < i := by
      intro i
      induction i with
      | zero => left; exact ht j hjk (by unfold ix; omega)
      | succ i ih =>
        by_cases h : 4 < i + 1
        · exact .inr h
        · rcases ih with ih | ih
          · left
            show accL L' j i ++ L' (ix i j) = accL L j i ++ L (ix i j)
            rw [ih, ht (ix i j) (by unfold ix; omega) (by unfold ix; omega)]
          · omega
    rcases e 4 with h | h
    · exact h
    · omega
theorem Frees.len {g : Nat} {hs : List Hd} {U : Nat → Bool} {L : Nat → List Int} (hg : g ≤ 2 ^ 20) (h : Frees g hs U L) {k : Nat} (hk : k < 32) : (accL L k 4).length ≤ 2 ^ 29 := by
  have h1 : ((accL L k 4).map Int.toNat).Nodup := by
    refine List.Pairwise.map _ (fun a b hab => ?_) (List.Pairwise.and_mem.1 (h.nd k hk))
    obtain ⟨ha, hb, hab⟩ := hab
    obtain ⟨x, rfl, _⟩ := (h.mem k hk a).1 ha
    obtain ⟨y, rfl, _⟩ := (h.mem k hk b).1 hb
    omega
  have := nodup_lt_len (2 ^ 29) _ h1 (fun x hx => by
    obtain ⟨a, ha, rfl⟩ := List.mem_map.1 hx
    obtain ⟨x, rfl, ⟨b, i, h1, h2, h3, h4, rfl⟩, _⟩ := (h.mem k hk a).1 ha
    have := cellN_rng (b := b) hk h4
    obtain ⟨_, _, h5, _⟩ := cls_tab k hk
    omega)
  simpa using this
theorem Frees.lens {g : Nat} {hs : List Hd} {U : Nat → Bool} {L : Nat → List Int} (hg : g ≤ 2 ^ 20) (h : Frees g hs U L) : ∀ i, i < 160 → (L i).length ≤ 2 ^ 29 := by
  intro i hi
  have sub : ∀ k, k < 32 → (accL L k 4).length = (L k).length + (L (ix 0 k)).length + (L (ix 1 k)).length + (L (ix 2 k)).length + (L (ix 3 k)).length := by
    intro k _
    show ((((L k ++ L (ix 0 k)) ++ L (ix 1 k)) ++ L (ix 2 k)) ++ L (ix 3 k)).length = _
    simp only [List.length_append]
  by_cases h32 : i < 32
  · have := h.len hg h32
    rw [sub i h32] at this; omega
  · obtain ⟨m, k, hm, hk, rfl⟩ : ∃ m k, m < 4 ∧ k < 32 ∧ i = ix m k := ⟨(i - 32) / 32, (i - 32) % 32, by omega, by omega, by unfold ix; omega⟩
    have := h.len hg hk
    rw [sub k hk] at this
    have : m = 0 ∨ m = 1 ∨ m = 2 ∨ m = 3 := by omega
    rcases this with rfl | rfl | rfl | rfl <;> omega
structure St where
  hs : List Hd
  F : RF
  c : List Int
  U : Nat → Bool
  L : Nat → List Int
def AlQ (a d g : Nat) (s : St) (m u f : Nat) : SL := LDx d (64 * g) s.c * Mg m d g s.hs s.F * Bm u (512 * g) s.U * Fl f s.L * pt a (.cells [.pointer (da m), .pointer (da d), .int .i64 g, .pointer (da u), .pointer (da f)].toArray 47)
def Al (a d g : Nat) (s : St) : SL := ex fun q : Nat × Nat × Nat => AlQ a d g s q.1 q.2.1 q.2.2
section
variable {B : World} {P R : SL} {t : K}
theorem Al_open {a d g : Nat} {s : St} (h : ∀ m u f, T B (R * LDx d (64 * g) s.c * Mg m d g s.hs s.F * Bm u (512 * g) s.U * Fl f s.L * pt a (.cells [.pointer (da m), .pointer (da d), .int .i64 g, .pointer (da u), .pointer (da f)].toArray 47)) t) : T B (R * Al a d g s) t := by
  refine T_ex fun q => T.perm ?_ (h q.1 q.2.1 q.2.2)
  unfold AlQ; simp only [sep_assoc]
theorem Al_close {a d g m u f : Nat} {s : St} (h : T B (R * Al a d g s) t) : T B (R * LDx d (64 * g) s.c * Mg m d g s.hs s.F * Bm u (512 * g) s.U * Fl f s.L * pt a (.cells [.pointer (da m), .pointer (da d), .int .i64 g, .pointer (da u), .pointer (da f)].toArray 47)) t := by
  have h2 := T_exI (B := B) (R := R) (t := t) (X := fun q : Nat × Nat × Nat => AlQ a d g s q.1 q.2.1 q.2.2) (m, u, f) h
  refine T.perm ?_ h2
  unfold AlQ; simp only [sep_assoc]
theorem Al_tie {a d g : Nat} {s : St} (h : Tie g s.hs s.F → T B (R * Al a d g s) t) : T B (R * Al a d g s) t := by
  refine Al_open fun m u f => ?_
  refine T_bring (X := Mg m d g s.hs s.F) (.init (.init (.init .last))) ?_
  refine Mg_tie fun tie => ?_
  exact T.perm (by ac_rfl) (Al_close (m := m) (u := u) (f := f) (h tie))
end
/-- a block's cells that are not in use, the last one first; so many of them looked at -/
def cvN (U : Nat → Bool) (b k : Nat) : Nat → List Int
  | 0 => []
  | t + 1 => cvN U b k t ++ (if U (cellN b k (cn k - 1 - t)) then [] else [((cellN b k (cn k - 1 - t) : Nat) : Int)])
theorem cvN_mem {U : Nat → Bool} {b k : Nat} : ∀ {t : Nat}, t ≤ cn k → ∀ {y : Int}, y ∈ cvN U b k t ↔ ∃ i, cn k - t ≤ i ∧ i < cn k ∧ y = (cellN b k i : Nat) ∧ U (cellN b k i) = false := by
  intro t
  induction t with
  | zero => intro _ y; simp only [cvN, List.not_mem_nil, false_iff]; rintro ⟨i, h1, h2, _⟩; omega
  | succ t ih =>
    intro ht y
    have ih := @ih (by omega) y
    simp only [cvN, List.mem_append, ih]
    constructor
    · rintro (⟨i, h1, h2, h3⟩ | h)
      · exact ⟨i, by omega, h2, h3⟩
      · split at h
        · simp at h
        · rename_i hu
          simp only [List.mem_singleton] at h
          exact ⟨cn k - 1 - t, by omega, by omega, h, by simpa using hu⟩
    · rintro ⟨i, h1, h2, h3, h4⟩
      by_cases e : i = cn k - 1 - t
      · right
        rw [← e, if_neg (by simp [h4])]; simp [h3]
      · exact .inl ⟨i, by omega, h2, h3, h4⟩
theorem cvN_nodup {U : Nat → Bool} {b k : Nat} (hk : k < 32) : ∀ {t : Nat}, t ≤ cn k → (cvN U b k t).Nodup := by
  intro t
  induction t with
  | zero => intro _; simp [cvN]
  | succ t ih =>
    intro ht
    simp only [cvN]
    split
    · simp; exact ih (by omega)
    · rw [List.nodup_append]
      refine ⟨ih (by omega), by simp, fun y hy z hz => ?_⟩
      simp only [List.mem_singleton] at hz
      subst hz
      obtain ⟨i, h1, h2, h3, _⟩ := (cvN_mem (by omega)).1 hy
      intro e
      rw [h3] at e
      have := (cellN_inj (b := b) (b' := b) hk h2 (by omega) (by omega : cellN b k i = cellN b k (cn k - 1 - t))).2
      omega
theorem cvN_len {U : Nat → Bool} {b k t : Nat} : (cvN U b k t).length ≤ t := by
  induction t with
  | zero => simp [cvN]
  | succ t ih =>
    simp only [cvN, List.length_append]
    split <;> simp <;> omega
section
variable {B : World} {P R : SL} {t : K}
theorem carve_c {a d g b k : Nat} {s : St} (hg : g ≤ 2 ^ 20) (hb : 1 ≤ b) (hb2 : b < g) (hk : k < 32) (hL : ∀ i, i < 160 → (s.L i).length ≤ 2 ^ 29) (hno : ∀ i, i < cn k → ¬ FHas s.L k ((cellN b k i : Nat) : Int)) {kk : Unit → K}
    (hkk : T B (R * Al a d g { s with L := setN s.L k (s.L k ++ cvN s.U b k (cn k)) }) (kk ())) : T B (R * Al a d g s) (c_alloc_Allocator_carve (da a) b k kk) := by
  refine T_of (alloc_Allocator_carve_ok _ b k kk) ?_
  obtain ⟨t1, t2, t3, t4, t5, t6, t7, t8⟩ := cls_tab k hk
  refine class_Cells_c ?_
  have e0 : IntKind.wrap .i64 (cls k - 1) = (cn k : Int) - 1 := by rw [w64 (by omega) (by omega), t2]
  (dsimp only [alloc_Allocator_carve, Zer0, Zer1, Zer2, Zer3, Zer4, Zer5, Zer6])
  rw [e0]
  refine T_lpX (fun n z => R * Al a d g { s with L := setN s.L k (s.L k ++ cvN s.U b k (cn k - n)) }) (fun n (z : Int × Unit) => n ≤ cn k ∧ z.1 = (n : Int) - 1) (cn k) ?_ ⟨by omega, rfl⟩ ?_
  · rw [Nat.sub_self]
    simp only [cvN, List.append_nil]
    rw [setN_self]
  rintro n ⟨z, u⟩ c ⟨e1, e2⟩ hc
  simp only at e2
  subst e2
  (repeat' (with_reducible refine T_brD (fun _ => ?_) (fun _ => ?_)))
  · rename_i hge
    have hn : 1 ≤ n := by omega
    have ei : (n : Int) - 1 = ((n - 1 : Nat) : Int) := by omega
    have hlt : n - 1 < cn k := by omega
    refine Al_open fun m u f => ?_
    unfold da
    (repeat (first | with_reducible refine T_nn ?_ | ((with_reducible apply T_ldI); (focus rfl); (focus exact hasA); (focus rfl))))
    rw [ei]
    refine cells_Address_c (by omega) ?_
    rw [cellAt_eq hk hb hb2 hlt]
    (repeat (first | with_reducible refine T_nn ?_ | ((with_reducible apply T_ldP); (focus rfl); (focus exact hasA); (focus rfl))))
    refine T_bring (X := Bm u (512 * g) s.U) (.init (.init .last)) ?_
    refine bitmap_Has_c ?_
    have hh : has s.U ((cellN b k (n - 1) : Nat) : Int) = s.U (cellN b k (n - 1)) := by unfold has; rw [decide_eq_true (by omega), Bool.true_and, Int.toNat_natCast]
    rw [hh]
    have hstep : cn k - (n - 1) = (cn k - n) + 1 := by omega
    have hcell : cn k - 1 - (cn k - n) = n - 1 := by omega
    have hnx := hc (n - 1) (IntKind.wrap .i64 (((n - 1 : Nat) : Int) - 1), ()) (by omega) ⟨by omega, by rw [w64 (by omega) (by omega)]⟩
    rw [hstep] at hnx
    simp only [cvN, hcell] at hnx
    cases hu : s.U (cellN b k (n - 1))
    · rw [hu] at hnx
      simp only [Bool.false_eq_true, if_false] at hnx
      simp only [Bool.not_false]
      (repeat (first | with_reducible refine T_nn ?_ | with_reducible refine T_brT ?_ | ((with_reducible apply T_ldP); (focus rfl); (focus exact hasA); (focus rfl))))
      refine T_bring (X := Fl f (setN s.L k (s.L k ++ cvN s.U b k (cn k - n)))) (.init (.init .last)) ?_
      have hlen : ∀ i, i < 160 → (setN s.L k (s.L k ++ cvN s.U b k (cn k - n)) i).length ≤ 2 ^ 30 := by
        intro i hi
        have h1 := hL i hi
        have h2 := @cvN_len s.U b k (cn k - n)
        by_cases e : i = k
        · subst e; rw [setN_same, List.length_append]; omega
        · rw [setN_ne _ _ e]; omega
      refine free_Push_c hlen hk (fun hf => ?_) (fun _ => ?_)
      · exfalso
        rcases hf with h | ⟨m', hm', h⟩
        · rw [setN_same, List.mem_append] at h
          rcases h with h | h
          · exact hno (n - 1) hlt (.inl h)
          · obtain ⟨i, h1, h2, h3, h4⟩ := (cvN_mem (by omega)).1 h
            have := (cellN_inj (b := b) (b' := b) hk hlt h2 (by omega)).2
            omega
        · rw [setN_ne _ _ (by unfold ix; omega)] at h
          exact hno (n - 1) hlt (.inr ⟨m', hm', h⟩)
      · have e3 : setN (setN s.L k (s.L k ++ cvN s.U b k (cn k - n))) k (setN s.L k (s.L k ++ cvN s.U b k (cn k - n)) k ++ [((cellN b k (n - 1) : Nat) : Int)]) = setN s.L k (s.L k ++ (cvN s.U b k (cn k - n) ++ [((cellN b k (n - 1) : Nat) : Int)])) := by
          funext j
          by_cases e : j = k
          · subst e; rw [setN_same, setN_same, setN_same, List.append_assoc]
          · rw [setN_ne _ _ e, setN_ne _ _ e, setN_ne _ _ e]
        rw [e3]
        exact T.perm (by unfold da; ac_rfl) (Al_close (a := a) (m := m) (u := u) (f := f) (d := d) (g := g) (R := R) (s := { s with L := setN s.L k (s.L k ++ (cvN s.U b k (cn k - n) ++ [((cellN b k (n - 1) : Nat) : Int)])) }) hnx)
    · rw [hu] at hnx
      simp only [if_true, List.append_nil] at hnx
      simp only [Bool.not_true]
      (repeat (with_reducible refine T_brF ?_))
      exact T.perm (by unfold da; ac_rfl) (Al_close (a := a) (m := m) (u := u) (f := f) (d := d) (g := g) (R := R) (s := { s with L := setN s.L k (s.L k ++ cvN s.U b k (cn k - n)) }) hnx)
  · have : n = 0 := by omega
    subst this
    exact hkk
end
theorem hRight_mem {hs : List Hd} (h : ∀ x ∈ hs, hRight x) (b : Nat) : hRight (hd hs b) := by
  by_cases hb : b < hs.length
  · exact h _ (getD_mem hb)
  · unfold hd; rw [List.getD_eq_getElem?_getD, List.getElem?_eq_none (by omega)]; exact .inl rfl
theorem WholeP.keep {hs hs' : List Hd} {b n : Nat} (hl : hs'.length = hs.length) (h : WholeP hs b n) (he : ∀ i, b ≤ i → i < b + n → hd hs' i = hd hs i) : WholeP hs' b n := by
  obtain ⟨h1, h2, h3, h4, h5⟩ := h
  refine ⟨h1, by omega, ?_, ?_, fun i hi hi2 => ?_⟩
  · have := he b (by omega) (by omega); unfold hd at this; rw [this]; exact h3
  · have := he b (by omega) (by omega); unfold hd at this; rw [this]; exact h4
  · have := he (b + i) (by omega) (by omega); unfold hd at this; rw [this]; exact h5 i hi hi2
theorem WholeP.kind {hs : List Hd} {b n i : Nat} (h : WholeP hs b n) (h1 : b ≤ i) (h2 : i < b + n) : (i = b ∧ (hd hs i).1 = 2) ∨ (b < i ∧ (hd hs i).1 = 3) := by
  by_cases e : i = b
  · subst e; exact .inl ⟨rfl, h.2.2.1⟩
  · right
    refine ⟨by omega, ?_⟩
    have := h.2.2.2.2 (i - b) (by omega) (by omega)
    rw [show b + (i - b) = i by omega] at this
    show (hs.getD i (0, 0, 0)).1 = 3
    rw [this]
/-- a cell out of the lists -/
theorem Frees.take {g : Nat} {hs : List Hd} {U : Nat → Bool} {L L' : Nat → List Int} (h : Frees g hs U L) {k : Nat} (hk : k < 32) {y : Int} (hp : (accL L k 4).Perm (y :: accL L' k 4)) (ho : ∀ j, j < 32 → j ≠ k → (accL L' j 4).Perm (accL L j 4)) :
    ∃ x : Nat, y = x ∧ SmCell g hs k x ∧ U x = false ∧ Frees g hs (uAdd U x) L' := by
  have hy : y ∈ accL L k 4 := hp.mem_iff.2 (by simp)
  obtain ⟨x, rfl, hc, hu⟩ := (h.mem k hk y).1 hy
  refine ⟨x, rfl, hc, hu, fun j hj => ?_, fun j hj z => ?_⟩
  · by_cases e : j = k
    · subst e
      exact (List.nodup_cons.1 (hp.nodup_iff.1 (h.nd j hj))).2
    · exact (ho j hj e).nodup_iff.2 (h.nd j hj)
  · by_cases e : j = k
    · subst e
      have hnd := List.nodup_cons.1 (hp.nodup_iff.1 (h.nd j hj))
      constructor
      · intro hz
        obtain ⟨x', rfl, h1, h2⟩ := (h.mem j hj z).1 (hp.mem_iff.2 (by simp [hz]))
        refine ⟨x', rfl, h1, ?_⟩
        unfold uAdd
        have : x' ≠ x := fun e => hnd.1 (by rw [← e]; exact hz)
        simp [this, h2]
      · rintro ⟨x', rfl, h1, h2⟩
        unfold uAdd at h2
        simp only [Bool.or_eq_false_iff, beq_eq_false_iff_ne, ne_eq] at h2
        have := hp.mem_iff.1 ((h.mem j hj (x' : Int)).2 ⟨x', rfl, h1, h2.2⟩)
        rcases List.mem_cons.1 this with h3 | h3
        · exact absurd (by omega) h2.1
        · exact h3
    · rw [(ho j hj e).mem_iff, h.mem j hj z]
      constructor
      · rintro ⟨x', rfl, h1, h2⟩
        refine ⟨x', rfl, h1, ?_⟩
        unfold uAdd
        have : x' ≠ x := fun e2 => e (SmCell.k hj hk h1 (e2 ▸ hc))
        simp [this, h2]
      · rintro ⟨x', rfl, h1, h2⟩
        unfold uAdd at h2
        simp only [Bool.or_eq_false_iff] at h2
        exact ⟨x', rfl, h1, h2.2⟩
theorem Inv.take {g : Nat} {hs : List Hd} {U : Nat → Bool} {L L' : Nat → List Int} (h : Inv g hs U L) {k : Nat} (hk : k < 32) {y : Int} (hp : (accL L k 4).Perm (y :: accL L' k 4)) (ho : ∀ j, j < 32 → j ≠ k → (accL L' j 4).Perm (accL L j 4)) :
    ∃ x : Nat, y = x ∧ SmCell g hs k x ∧ U x = false ∧ Inv g hs (uAdd U x) L' := by
  obtain ⟨x, h1, h2, h3, h4⟩ := h.free.take hk hp ho
  refine ⟨x, h1, h2, h3, ⟨h.len, h.two, h.big, h.right, h.zero, h.whole, h.cont, fun z hz => ?_, h4⟩⟩
  unfold uAdd at hz
  simp only [Bool.or_eq_true, beq_iff_eq] at hz
  rcases hz with rfl | hz
  · exact .inl ⟨k, hk, h2⟩
  · exact h.used z hz
/-- blocks that are free have nothing in use -/
theorem Inv.free_unused {g : Nat} {hs : List Hd} {U : Nat → Bool} {L : Nat → List Int} (h : Inv g hs U L) {b : Nat} (hb : (hd hs b).1 = 0 ∨ (hd hs b).1 = 3) {x : Nat} (hx : x / 512 = b) : U x = false := by
  cases hu : U x with
  | false => rfl
  | true =>
    exfalso
    rcases h.used x hu with ⟨k, hk, b', i, h1, h2, h3, h4, rfl⟩ | ⟨b', n, h1, hw, rfl⟩
    · rw [cellN_blk hk h4] at hx
      subst hx
      rw [h3] at hb
      simp at hb
    · have : b' = b := by omega
      subst this
      have := hw.2.2.1
      unfold hd at hb; omega
/-- a new block of small objects -/
theorem Inv.block {g : Nat} {hs : List Hd} {U : Nat → Bool} {L : Nat → List Int} (h : Inv g hs U L) {b k : Nat} (hk : k < 32) (hb : 1 ≤ b) (hb2 : b < g) (h0 : (hd hs b).1 = 0) :
    (∀ i, i < cn k → ¬ FHas L k ((cellN b k i : Nat) : Int)) ∧ (∀ i, i < cn k → U (cellN b k i) = false) ∧ Inv g (splice hs b [(1, (k : Int), 0)]) U (setN L k (L k ++ cvN U b k (cn k))) ∧ (accL (setN L k (L k ++ cvN U b k (cn k))) k 4).Perm (accL L k 4 ++ cvN U b k (cn k)) := by
  have hl := h.len
  have hfit : b + [((1, (k : Int), 0) : Hd)].length ≤ hs.length := by simp; omega
  have hhd : ∀ i, hd (splice hs b [(1, (k : Int), 0)]) i = if i = b then (1, (k : Int), 0) else hd hs i := by
    intro i
    unfold hd
    rw [splice_getD hfit]
    simp only [List.length_singleton]
    by_cases e : i = b
    · subst e; rw [if_pos (by omega), if_pos rfl]; simp
    · rw [if_neg (by omega), if_neg e]
  have hun : ∀ i, i < cn k → U (cellN b k i) = false := fun i hi => h.free_unused (.inl h0) (cellN_blk hk hi)
  have hno : ∀ i, i < cn k → ¬ FHas L k ((cellN b k i : Nat) : Int) := by
    intro i hi hf
    obtain ⟨x, hx, ⟨b', i', h1, h2, h3, h4, h5⟩, _⟩ := (h.free.mem k hk _).1 (mem_accL.2 hf)
    have h6 : cellN b k i = cellN b' k i' := by omega
    have := (cellN_inj hk hi h4 h6).1
    subst this
    rw [h3] at h0
    simp at h0
  have hw' : ∀ {b0 n0}, WholeP hs b0 n0 → WholeP (splice hs b [(1, (k : Int), 0)]) b0 n0 := by
    intro b0 n0 hw
    refine hw.keep (splice_length hfit) fun i h1 h2 => ?_
    rw [hhd, if_neg]
    intro e; subst e
    rcases hw.kind h1 h2 with ⟨_, h3⟩ | ⟨_, h3⟩ <;> omega
  have hacc : ∀ j, j < 32 → (accL (setN L k (L k ++ cvN U b k (cn k))) j 4).Perm (if j = k then accL L k 4 ++ cvN U b k (cn k) else accL L j 4) := by
    intro j hj
    by_cases e : j = k
    · subst e
      rw [if_pos rfl]
      have := (accL_turn (L := L) (L' := setN L j (L j ++ cvN U b j (cn j))) (m := 0) (by omega) hj (fun i h1 _ => setN_ne _ _ h1) (l := cvN U b j (cn j)) (l' := []) (by
        rw [setN_same, setN_ne _ _ (show ix 0 j ≠ j by unfold ix; omega), List.append_nil, List.append_assoc, List.append_assoc]
        exact List.Perm.append_left _ List.perm_append_comm)).1
      rw [List.append_nil] at this
      exact this.symm
    · rw [if_neg e]
      have := (accL_turn (L := L) (L' := setN L k (L k ++ cvN U b k (cn k))) (m := 0) (by omega) hk (fun i h1 _ => setN_ne _ _ h1) (l := cvN U b k (cn k)) (l' := []) (by
        rw [setN_same, setN_ne _ _ (show ix 0 k ≠ k by unfold ix; omega), List.append_nil, List.append_assoc, List.append_assoc]
        exact List.Perm.append_left _ List.perm_append_comm)).2 j hj e
      rw [this]
  have hsm : ∀ j, j < 32 → ∀ x, SmCell g (splice hs b [(1, (k : Int), 0)]) j x ↔ SmCell g hs j x ∨ (j = k ∧ ∃ i, i < cn k ∧ x = cellN b k i) := by
    intro j hj x
    constructor
    · rintro ⟨b', i, h1, h2, h3, h4, rfl⟩
      rw [hhd] at h3
      by_cases e : b' = b
      · subst e
        rw [if_pos rfl] at h3
        simp only [Prod.mk.injEq] at h3
        have : j = k := by omega
        subst this
        exact .inr ⟨rfl, i, h4, rfl⟩
      · rw [if_neg e] at h3
        exact .inl ⟨b', i, h1, h2, h3, h4, rfl⟩
    · rintro (⟨b', i, h1, h2, h3, h4, rfl⟩ | ⟨rfl, i, h4, rfl⟩)
      · refine ⟨b', i, h1, h2, ?_, h4, rfl⟩
        rw [hhd, if_neg]
        · exact h3
        · intro e; subst e; rw [h3] at h0; simp at h0
      · exact ⟨b, i, hb, hb2, by rw [hhd, if_pos rfl], h4, rfl⟩
  refine ⟨hno, hun, ⟨by rw [splice_length hfit]; exact hl, h.two, h.big, fun x hx => ?_, ?_, fun b0 hb0 => ?_, fun b0 hb0 => ?_, fun x hx => ?_, ⟨fun j hj => ?_, fun j hj y => ?_⟩⟩, ?_⟩
  · unfold splice at hx
    simp only [List.mem_append, List.mem_singleton] at hx
    rcases hx with (hx | rfl) | hx
    · exact h.right x (List.mem_of_mem_take hx)
    · exact .inr (.inl ⟨rfl, by simp only; omega, by simp only; omega, rfl⟩)
    · exact h.right x (List.mem_of_mem_drop hx)
  · rw [hhd, if_neg (by omega)]; exact h.zero
  · rw [hhd] at hb0
    by_cases e : b0 = b
    · rw [if_pos e] at hb0; simp at hb0
    · rw [if_neg e] at hb0
      obtain ⟨n, hw⟩ := h.whole b0 hb0
      exact ⟨n, hw' hw⟩
  · rw [hhd] at hb0
    by_cases e : b0 = b
    · rw [if_pos e] at hb0; simp at hb0
    · rw [if_neg e] at hb0
      obtain ⟨b1, n, hw, h1, h2⟩ := h.cont b0 hb0
      exact ⟨b1, n, hw' hw, h1, h2⟩
  · rcases h.used x hx with ⟨j, hj, hc⟩ | ⟨b0, n, h1, hw, h2⟩
    · exact .inl ⟨j, hj, (hsm j hj x).2 (.inl hc)⟩
    · exact .inr ⟨b0, n, h1, hw' hw, h2⟩
  · rw [(hacc j hj).nodup_iff]
    by_cases e : j = k
    · subst e
      rw [if_pos rfl, List.nodup_append]
      refine ⟨h.free.nd j hj, cvN_nodup hj (by omega), fun y hy z hz => ?_⟩
      obtain ⟨i, h1, h2, h3, _⟩ := (cvN_mem (by omega)).1 hz
      intro e
      rw [e, h3] at hy
      exact hno i h2 (mem_accL.1 hy)
    · rw [if_neg e]; exact h.free.nd j hj
  · rw [(hacc j hj).mem_iff]
    by_cases e : j = k
    · subst e
      rw [if_pos rfl, List.mem_append, h.free.mem j hj, cvN_mem (by omega)]
      constructor
      · rintro (⟨x, rfl, h1, h2⟩ | ⟨i, h1, h2, rfl, h3⟩)
        · exact ⟨x, rfl, (hsm j hj x).2 (.inl h1), h2⟩
        · exact ⟨_, rfl, (hsm j hj _).2 (.inr ⟨rfl, i, h2, rfl⟩), h3⟩
      · rintro ⟨x, rfl, h1, h2⟩
        rcases (hsm j hj x).1 h1 with h1 | ⟨_, i, h3, rfl⟩
        · exact .inl ⟨x, rfl, h1, h2⟩
        · exact .inr ⟨i, by omega, h3, rfl, h2⟩
    · rw [if_neg e, h.free.mem j hj]
      constructor
      · rintro ⟨x, rfl, h1, h2⟩
        exact ⟨x, rfl, (hsm j hj x).2 (.inl h1), h2⟩
      · rintro ⟨x, rfl, h1, h2⟩
        rcases (hsm j hj x).1 h1 with h1 | ⟨h3, _⟩
        · exact ⟨x, rfl, h1, h2⟩
        · exact absurd h3 e
  · have := hacc k hk
    rw [if_pos rfl] at this
    exact this
theorem drain_acc (L : Nat → List Int) {m : Nat} (hm : m < 4) {j : Nat} (hj : j < 32) : (accL (drF L m 32) j 4).Perm (accL L j 4) := by
  rw [List.perm_iff_count]
  intro y
  rw [accL_count, accL_count]
  have hg := fun x hx => drF_get L hm 32 (by omega) x hx
  have h0 : drF L m 32 j = L j ++ L (ix m j) := by rw [hg j (by omega), if_pos hj, if_pos hj]
  have hc : ∀ m', m' < 4 → drF L m 32 (ix m' j) = if m' = m then [] else L (ix m' j) := by
    intro m' hm'
    rw [hg (ix m' j) (by unfold ix; omega), if_neg (by unfold ix; omega)]
    by_cases e : m' = m
    · subst e; rw [if_pos (by unfold ix; omega), if_pos rfl]
    · rw [if_neg (by unfold ix; omega), if_neg e]
  rw [h0, hc 0 (by omega), hc 1 (by omega), hc 2 (by omega), hc 3 (by omega), List.count_append]
  have : m = 0 ∨ m = 1 ∨ m = 2 ∨ m = 3 := by omega
  rcases this with rfl | rfl | rfl | rfl <;> simp <;> omega
section
variable {B : World} {P R : SL} {t : K}
theorem steal_c {a d g m0 k : Nat} {s : St} (hL : ∀ i, i < 160 → (s.L i).length ≤ 2 ^ 29) (hm : m0 < 4) (hk : k < 32) (he : s.L k = []) {kk : Int × Int → K}
    (h0 : accL s.L k 4 = [] → T B (R * Al a d g s) (kk (0, 4)))
    (h1 : ∀ x L', (accL s.L k 4).Perm (x :: accL L' k 4) → (∀ j, j < 32 → j ≠ k → (accL L' j 4).Perm (accL s.L j 4)) → T B (R * Al a d g { s with L := L' }) (kk (x, 0))) :
    T B (R * Al a d g s) (c_alloc_Allocator_steal (da a) m0 k kk) := by
  refine T_of (alloc_Allocator_steal_ok _ m0 k kk) ?_
  (dsimp only [alloc_Allocator_steal, Zes0, Zes1, Zes2, Zes3, Zes4, Zes5, Zes6, Zes7, Zes8])
  refine T_lpX (fun _ _ => R * Al a d g s) (fun n (z : Int × Unit) => ∃ i : Nat, z.1 = i ∧ i ≤ 4 ∧ n = 4 - i ∧ ∀ m, m < i → s.L (ix m k) = []) 4 rfl ⟨0, rfl, by omega, rfl, fun m h => by omega⟩ ?_
  rintro n ⟨z, u⟩ c ⟨i, e1, e2, e3, e4⟩ hc
  simp only at e1
  subst e1 e3
  (repeat' (with_reducible refine T_brD (fun _ => ?_) (fun _ => ?_)))
  · have hi : i < 4 := by omega
    refine Al_open fun m u f => ?_
    unfold da
    (repeat (first | with_reducible refine T_nn ?_ | ((with_reducible apply T_ldP); (focus rfl); (focus exact hasA); (focus rfl))))
    refine T_bring (X := Fl f s.L) (.init .last) ?_
    refine free_Own_c hi hk ?_
    (repeat' (first | with_reducible refine T_nn ?_ | ((with_reducible apply T_ldP); (focus rfl); (focus exact hasA); (focus rfl)) | with_reducible refine T_brD (fun _ => ?_) (fun _ => ?_)))
    · rename_i hpos
      have hne : s.L (ix i k) ≠ [] := fun h => by rw [h] at hpos; simp at hpos
      refine free_Drain_c (fun j hj => by have := hL j hj; omega) hi ?_
      (repeat (first | with_reducible refine T_nn ?_ | ((with_reducible apply T_ldP); (focus rfl); (focus exact hasA); (focus rfl))))
      have hlen : ∀ j, j < 160 → (drF s.L i 32 j).length ≤ 2 ^ 30 := by
        intro j hj
        rw [drF_get s.L hi 32 (by omega) j hj]
        split
        · rw [List.length_append]
          have h1 := hL j hj
          have h2 := hL (ix i j) (by unfold ix; omega)
          omega
        · split
          · simp
          · have h1 := hL j hj; omega
      have hdk : drF s.L i 32 k = s.L (ix i k) := by rw [drF_get s.L hi 32 (by omega) k (by omega), if_pos hk, if_pos hk, he, List.nil_append]
      refine free_Take_c hlen hm hk (fun h _ => ?_) (fun x L' ht hp => ?_)
      · exfalso; rw [hdk] at h; exact hne h
      · skip
        obtain ⟨p1, p2⟩ := accL_turn (L := drF s.L i 32) (L' := L') hm hk ht (l := []) (l' := [x]) (by rw [List.append_nil]; exact hp.trans (List.perm_append_singleton x _).symm)
        rw [List.append_nil] at p1
        have := h1 x L' (((drain_acc s.L hi hk).symm.trans p1).trans (List.perm_append_singleton x _)) (fun j hj hjk => by rw [p2 j hj hjk]; exact drain_acc s.L hi hj)
        exact T.perm (by unfold da; ac_rfl) (Al_close (a := a) (m := m) (u := u) (f := f) (d := d) (g := g) (R := R) (s := { s with L := L' }) this)
    · rename_i hpos
      have hz : s.L (ix i k) = [] := List.eq_nil_of_length_eq_zero (by omega)
      refine T.perm ?_ (Al_close (a := a) (m := m) (u := u) (f := f) (d := d) (g := g) (R := R) (s := s) (hc (4 - (i + 1)) (IntKind.wrap .i64 ((i : Int) + 1), ()) (by omega) ⟨i + 1, w64 (by omega) (by omega), by omega, rfl, fun m' hm' => ?_⟩))
      · unfold da; ac_rfl
      · by_cases e : m' = i
        · subst e; exact hz
        · exact e4 m' (by omega)
  · refine h0 ?_
    show (((s.L k ++ s.L (ix 0 k)) ++ s.L (ix 1 k)) ++ s.L (ix 2 k)) ++ s.L (ix 3 k) = []
    rw [he, e4 0 (by omega), e4 1 (by omega), e4 2 (by omega), e4 3 (by omega)]; rfl
end
section
set_option maxHeartbeats 1000000
theorem cvN_full {U : Nat → Bool} {b k : Nat} (h : ∀ i, i < cn k → U (cellN b k i) = false) : ∀ t, t ≤ cn k → (cvN U b k t).length = t := by
  intro t
  induction t with
  | zero => intro _; rfl
  | succ t ih =>
    intro ht
    simp only [cvN, List.length_append, ih (by omega)]
    rw [if_neg (by rw [h _ (by omega)]; simp)]; rfl
/-- a small object's cell: where it came from -/
structure RoomS (g : Nat) (s s' : St) (k x : Nat) : Prop where
  inv : Inv g s'.hs (uAdd s.U x) s'.L
  cell : SmCell g s'.hs k x
  un : s.U x = false
  u : s'.U = s.U
  other : ∀ j, j < 32 → j ≠ k → (accL s'.L j 4).length = (accL s.L j 4).length
  from_ : (s'.hs = s.hs ∧ s'.F = s.F ∧ s'.c = s.c ∧ (accL s.L k 4).length = (accL s'.L k 4).length + 1) ∨
    (∃ (b : Nat) (q : Int), 1 ≤ b ∧ b < g ∧ s.F b = some q ∧ 1 ≤ q ∧ (hd s.hs b).1 = 0 ∧ s'.hs = splice s.hs b [(1, (k : Int), 0)] ∧ s'.F = takeF s.F b 1 q ∧ s'.c = wrH s.c b [(1, (k : Int), 0)] ∧ (accL s'.L k 4).length + 1 = (accL s.L k 4).length + cn k)
section
variable {B : World} {P R : SL} {t : K}
theorem room_small_c {a d g m0 k : Nat} {s : St} (inv : Inv g s.hs s.U s.L) (hm : m0 < 4) (hk : k < 32) {o : Ob} (ho : kOf (oSize o) = ((k : Int), true)) {kk : Int × Int → K}
    (h0 : accL s.L k 4 = [] → (∀ q r, s.F q = some r → r < 1) → T B (R * Al a d g s) (kk (0, 4)))
    (h1 : ∀ (x : Nat) s', RoomS g s s' k x → T B (R * Al a d g s') (kk ((x : Int), 0))) :
    T B (R * Al a d g s) (c_alloc_Allocator_room (da a) m0 o kk) := by
  refine T_of (alloc_Allocator_room_ok _ m0 o kk) ?_
  have hL := inv.free.lens inv.big
  have hL30 : ∀ i, i < 160 → (s.L i).length ≤ 2 ^ 30 := fun i hi => by have := hL i hi; omega
  (repeat (first | ((with_reducible apply T_ldI); (focus rfl); (focus exact hasA); (focus rfl)) | (with_reducible refine T_al ?_; intro _)))
  rename_i bo
  refine ohead_Small_c ?_
  rw [show ((o.1, o.2) : Ob) = o from rfl, ho]
  (dsimp only [alloc_Allocator_room, Zel0, Zel1, Zel2, Zel3, Zel4, Zel5, Zel6, Zel7, Zel8, Zel9, Zel10, Zel11, Zel12, Zel13, Zel14, Zel15, Zel16, Zel17, Zel18, Zel19, Zel20, Zel21, Zel22])
  simp only [Bool.not_true]
  refine T_drop1 .last ?_
  refine Al_open fun m u f => ?_
  unfold da
  (repeat (first | with_reducible refine T_nn ?_ | with_reducible refine T_brF ?_ | ((with_reducible apply T_ldP); (focus rfl); (focus exact hasA); (focus rfl))))
  refine T_bring (X := Fl f s.L) (.init .last) ?_
  refine free_Take_c hL30 hm hk (fun e1 e2 => ?_) (fun x L' ht hp => ?_)
  · (repeat' (first | with_reducible refine T_nn ?_ | ((with_reducible apply T_ldP); (focus rfl); (focus exact hasA); (focus rfl)) | with_reducible refine T_brE (fun _ => ?_) (fun _ => ?_)))
    · rename_i h; exact absurd h (by decide)
    refine T_bring (X := LDx d (64 * g) s.c) (.init (.init (.init (.init .last)))) ?_
    refine T_bring (X := Mg m d g s.hs s.F) (.init (.init (.init (.init .last)))) ?_
    refine Mg_tie fun tie => ?_
    refine bman_Small_c (n := 64 * g) rfl (by omega) (fun hno => ?_) (fun b q hb hb1 hb2 hq => ?_)
    · (repeat' (first | with_reducible refine T_brE (fun _ => ?_) (fun _ => ?_) | with_reducible refine T_brNE (fun _ => ?_) (fun _ => ?_)))
      · rename_i h; exact absurd h (by decide)
      · rename_i h; exact absurd rfl h
      refine T.perm ?_ (Al_close (a := a) (m := m) (u := u) (f := f) (d := d) (g := g) (R := R) (s := s) (t := c_alloc_Allocator_steal (da a) m0 k fun x86 => kk (x86.1, x86.2)) ?_)
      · unfold da; ac_rfl
      refine steal_c hL hm hk e1 (fun he => ?_) (fun x L' hp ho => ?_)
      · exact h0 he hno
      · obtain ⟨n, rfl, q1, q2, q3⟩ := inv.take hk hp ho
        exact h1 n { s with L := L' } ⟨q3, q1, q2, rfl, fun j hj hjk => (ho j hj hjk).length_eq, .inl ⟨rfl, rfl, rfl, by rw [hp.length_eq]; rfl⟩⟩
    · (repeat' (first | with_reducible refine T_brE (fun _ => ?_) (fun _ => ?_) | with_reducible refine T_brNE (fun _ => ?_) (fun _ => ?_)))
      · have hfree : (hd s.hs b).1 = 0 := by
          have := (tie.fr b).1 ⟨(b : Int), q, hb, by omega, by omega⟩
          rw [Int.toNat_natCast] at this; exact this.2.2
        obtain ⟨g1, g2, g3, g4⟩ := inv.block hk hb1 hb2 hfree
        refine T.perm ?_ (Al_close (a := a) (m := m) (u := u) (f := f) (d := d) (g := g) (R := R) (s := { s with hs := splice s.hs b [(1, (k : Int), 0)], F := takeF s.F b 1 q, c := wrH s.c b [(1, (k : Int), 0)] }) (t := c_alloc_Allocator_carve (da a) b k fun x70 => Zel3 (da a) m0 kk k) ?_)
        · unfold da; ac_rfl
        refine carve_c (s := { s with hs := splice s.hs b [(1, (k : Int), 0)], F := takeF s.F b 1 q, c := wrH s.c b [(1, (k : Int), 0)] }) inv.big hb1 hb2 hk hL g1 ?_
        refine Al_open fun m2 u2 f2 => ?_
        unfold da
        (repeat (first | with_reducible refine T_nn ?_ | ((with_reducible apply T_ldP); (focus rfl); (focus exact hasA); (focus rfl))))
        refine T_bring (X := Fl f2 (setN s.L k (s.L k ++ cvN s.U b k (cn k)))) (.init .last) ?_
        have hL' := g3.free.lens g3.big
        have hcv := cvN_full (U := s.U) (b := b) (k := k) g2 (cn k) (by omega)
        obtain ⟨_, _, _, _, _, hc2, _, _⟩ := cls_tab k hk
        refine free_Take_c (fun i hi => by have := hL' i hi; omega) hm hk (fun h _ => ?_) (fun x L' ht hp => ?_)
        · exfalso
          rw [setN_same] at h
          have := congrArg List.length h
          rw [List.length_append, hcv] at this
          simp at this; omega
        · skip
          obtain ⟨p1, p2⟩ := accL_turn (L := setN s.L k (s.L k ++ cvN s.U b k (cn k))) (L' := L') hm hk ht (l := []) (l' := [x]) (by rw [List.append_nil]; exact hp.trans (List.perm_append_singleton x _).symm)
          rw [List.append_nil] at p1
          have p1 := p1.trans (List.perm_append_singleton x _)
          obtain ⟨n, rfl, q1, q2, q3⟩ := g3.take hk p1 (fun j hj hjk => by rw [p2 j hj hjk])
          have h2 := h1 n { hs := splice s.hs b [(1, (k : Int), 0)], F := takeF s.F b 1 q, c := wrH s.c b [(1, (k : Int), 0)], U := s.U, L := L' } ⟨q3, q1, q2, rfl, fun j hj hjk => by
              simp only
              rw [p2 j hj hjk]
              have := (accL_turn (L := s.L) (L' := setN s.L k (s.L k ++ cvN s.U b k (cn k))) (m := 0) (by omega) hk (fun i h1 _ => setN_ne _ _ h1) (l := cvN s.U b k (cn k)) (l' := []) (by
                rw [setN_same, setN_ne _ _ (show ix 0 k ≠ k by unfold ix; omega), List.append_nil, List.append_assoc, List.append_assoc]
                exact List.Perm.append_left _ List.perm_append_comm)).2 j hj hjk
              rw [this], .inr ⟨b, q, hb1, hb2, hb, hq, hfree, rfl, rfl, rfl, by
              have e1 := p1.length_eq
              have e2 := g4.length_eq
              rw [List.length_append, hcv] at e2
              simp only [List.length_cons] at e1
              simp only; omega⟩⟩
          exact T.perm (by unfold da; ac_rfl) (Al_close (a := a) (m := m2) (u := u2) (f := f2) (d := d) (g := g) (R := R) h2)
      all_goals (rename_i h h2; first | exact absurd rfl h | exact absurd rfl h2)
  · obtain ⟨p1, p2⟩ := accL_turn (L := s.L) (L' := L') hm hk ht (l := []) (l' := [x]) (by rw [List.append_nil]; exact hp.trans (List.perm_append_singleton x _).symm)
    rw [List.append_nil] at p1
    have p1 := p1.trans (List.perm_append_singleton x _)
    obtain ⟨n, rfl, q1, q2, q3⟩ := inv.take hk p1 (fun j hj hjk => by rw [p2 j hj hjk])
    (repeat' (first | with_reducible refine T_nn ?_ | ((with_reducible apply T_ldP); (focus rfl); (focus exact hasA); (focus rfl)) | with_reducible refine T_brE (fun _ => ?_) (fun _ => ?_)))
    · have h2 := h1 n { s with L := L' } ⟨q3, q1, q2, rfl, fun j hj hjk => by simp only; rw [p2 j hj hjk], .inl ⟨rfl, rfl, rfl, by rw [p1.length_eq]; rfl⟩⟩
      exact T.perm (by unfold da; ac_rfl) (Al_close (a := a) (m := m) (u := u) (f := f) (d := d) (g := g) (R := R) h2)
    · rename_i h; exact absurd rfl h
end
end
section
set_option maxHeartbeats 1000000
theorem kOf_tab : ∀ w : Nat, w < 257 → 1 ≤ w → ∃ k : Nat, k < 32 ∧ kOf (w : Int) = ((k : Int), true) ∧ w ≤ cw k := by decide +kernel
theorem kOf_small {w : Int} (h1 : 1 ≤ w) (h2 : w ≤ 256) : ∃ k : Nat, k < 32 ∧ kOf w = ((k : Int), true) ∧ w ≤ cw k := by
  obtain ⟨n, rfl⟩ := Int.eq_ofNat_of_zero_le (show 0 ≤ w by omega)
  obtain ⟨k, a, b, c⟩ := kOf_tab n (by omega) (by omega)
  exact ⟨k, a, b, by omega⟩
theorem kOf_large {w : Int} (h : ¬ (1 ≤ w ∧ w ≤ 256)) : kOf w = (0, false) := if_neg h
/-- a large object's blocks, taken -/
theorem Inv.large {g : Nat} {hs : List Hd} {U : Nat → Bool} {L : Nat → List Int} (h : Inv g hs U L) {b n : Nat} (hb : 1 ≤ b) (hn : 1 ≤ n) (hn2 : n < 256) (hb2 : b + n ≤ g) (h0 : ∀ i, b ≤ i → i < b + n → (hd hs i).1 = 0) :
    WholeP (splice hs b (runH n)) b n ∧ Inv g (splice hs b (runH n)) (uAdd U (b * 512)) L ∧ U (b * 512) = false := by
  have hl := h.len
  have hrl := runH_len n
  have hfit : b + (runH n).length ≤ hs.length := by omega
  have hhd : ∀ i, hd (splice hs b (runH n)) i = if b ≤ i ∧ i < b + n then (if i = b then (2, 0, (n : Int)) else (3, 0, ((i - b : Nat) : Int))) else hd hs i := by
    intro i
    unfold hd
    rw [splice_getD hfit, hrl]
    by_cases e : b ≤ i ∧ i < b + n
    · rw [if_pos e, if_pos e, List.getD_eq_getElem?_getD, runH_get n (by omega)]
      by_cases e2 : i = b
      · rw [if_pos (by omega), if_pos e2]; rfl
      · rw [if_neg (by omega), if_neg e2]; rfl
    · rw [if_neg e, if_neg e]
  have hwn : WholeP (splice hs b (runH n)) b n := by
    refine ⟨hn, by rw [splice_length hfit]; omega, ?_, ?_, fun i h1 h2 => ?_⟩
    · have := hhd b; unfold hd at this; rw [this, if_pos (by omega), if_pos rfl]
    · have := hhd b; unfold hd at this; rw [this, if_pos (by omega), if_pos rfl]
    · have := hhd (b + i); unfold hd at this; rw [this, if_pos (by omega), if_neg (by omega)]
      congr 2; omega
  have hw' : ∀ {b0 n0}, WholeP hs b0 n0 → WholeP (splice hs b (runH n)) b0 n0 := by
    intro b0 n0 hw
    refine hw.keep (splice_length hfit) fun i h1 h2 => ?_
    rw [hhd, if_neg]
    intro e
    have := h0 i e.1 e.2
    rcases hw.kind h1 h2 with ⟨_, h3⟩ | ⟨_, h3⟩ <;> omega
  have hsm : ∀ j x, SmCell g (splice hs b (runH n)) j x ↔ SmCell g hs j x := by
    intro j x
    constructor
    · rintro ⟨b', i, h1, h2, h3, h4, rfl⟩
      rw [hhd] at h3
      by_cases e : b ≤ b' ∧ b' < b + n
      · rw [if_pos e] at h3
        split at h3 <;> simp at h3
      · rw [if_neg e] at h3
        exact ⟨b', i, h1, h2, h3, h4, rfl⟩
    · rintro ⟨b', i, h1, h2, h3, h4, rfl⟩
      refine ⟨b', i, h1, h2, ?_, h4, rfl⟩
      rw [hhd, if_neg]
      · exact h3
      · intro e
        have := h0 b' e.1 e.2
        rw [h3] at this; simp at this
  have hun : U (b * 512) = false := h.free_unused (.inl (h0 b (by omega) (by omega))) (by omega)
  refine ⟨hwn, ⟨by rw [splice_length hfit]; exact hl, h.two, h.big, fun x hx => ?_, ?_, fun b0 hb0 => ?_, fun b0 hb0 => ?_, fun x hx => ?_, ⟨h.free.nd, fun j hj y => ?_⟩⟩, hun⟩
  · unfold splice at hx
    simp only [List.mem_append] at hx
    rcases hx with (hx | hx) | hx
    · exact h.right x (List.mem_of_mem_take hx)
    · exact (runH_right hn2 x hx).1
    · exact h.right x (List.mem_of_mem_drop hx)
  · rw [hhd, if_neg (by omega)]; exact h.zero
  · rw [hhd] at hb0
    by_cases e : b ≤ b0 ∧ b0 < b + n
    · rw [if_pos e] at hb0
      by_cases e2 : b0 = b
      · subst e2; exact ⟨n, hwn⟩
      · rw [if_neg e2] at hb0; simp at hb0
    · rw [if_neg e] at hb0
      obtain ⟨n', hw⟩ := h.whole b0 hb0
      exact ⟨n', hw' hw⟩
  · rw [hhd] at hb0
    by_cases e : b ≤ b0 ∧ b0 < b + n
    · rw [if_pos e] at hb0
      by_cases e2 : b0 = b
      · rw [if_pos e2] at hb0; simp at hb0
      · exact ⟨b, n, hwn, by omega, by omega⟩
    · rw [if_neg e] at hb0
      obtain ⟨b1, n', hw, h1, h2⟩ := h.cont b0 hb0
      exact ⟨b1, n', hw' hw, h1, h2⟩
  · unfold uAdd at hx
    simp only [Bool.or_eq_true, beq_iff_eq] at hx
    rcases hx with rfl | hx
    · exact .inr ⟨b, n, hb, hwn, rfl⟩
    · rcases h.used x hx with ⟨j, hj, hc⟩ | ⟨b0, n0, h1, hw, h2⟩
      · exact .inl ⟨j, hj, (hsm j x).2 hc⟩
      · exact .inr ⟨b0, n0, h1, hw' hw, h2⟩
  · rw [h.free.mem j hj]
    constructor
    · rintro ⟨x, rfl, h1, h2⟩
      refine ⟨x, rfl, (hsm j x).2 h1, ?_⟩
      unfold uAdd
      have : x ≠ b * 512 := by
        intro e
        obtain ⟨b', i, g1, g2, g3, g4, g5⟩ := h1
        have e3 := cellN_blk (b := b') hj g4
        have : b' = b := by omega
        subst this
        have := h0 b' (by omega) (by omega)
        rw [g3] at this; simp at this
      simp [this, h2]
    · rintro ⟨x, rfl, h1, h2⟩
      unfold uAdd at h2
      simp only [Bool.or_eq_false_iff] at h2
      exact ⟨x, rfl, (hsm j x).1 h1, h2.2⟩
/-- a large object's blocks: where they came from -/
structure RoomL (g : Nat) (s s' : St) (n x : Nat) : Prop where
  inv : Inv g s'.hs (uAdd s.U x) s'.L
  un : s.U x = false
  u : s'.U = s.U
  l : s'.L = s.L
  from_ : ∃ (b : Nat) (q : Int), x = b * 512 ∧ 1 ≤ b ∧ b + n ≤ g ∧ WholeP s'.hs b n ∧ s.F b = some q ∧ (n : Int) ≤ q ∧ (∀ r q', s.F r = some q' → (n : Int) ≤ q' → q < q' ∨ q = q' ∧ (b : Int) ≤ r) ∧
    s'.hs = splice s.hs b (runH n) ∧ s'.F = takeF s.F b n q ∧ s'.c = wrH s.c b (runH n)
section
variable {B : World} {P R : SL} {t : K}
theorem room_large_c {a d g : Nat} {m0 : Int} {n : Nat} {s : St} (inv : Inv g s.hs s.U s.L) {o : Ob} (ho : kOf (oSize o) = (0, false)) (hn : oBlocks o = n) (hn1 : 1 ≤ n) (hn2 : n < 256) {kk : Int × Int → K}
    (h0 : (∀ q r, s.F q = some r → r < n) → T B (R * Al a d g s) (kk (0, 4)))
    (h1 : ∀ (x : Nat) s', RoomL g s s' n x → T B (R * Al a d g s') (kk ((x : Int), 0))) :
    T B (R * Al a d g s) (c_alloc_Allocator_room (da a) m0 o kk) := by
  refine T_of (alloc_Allocator_room_ok _ m0 o kk) ?_
  have hg := inv.big
  (repeat (first | ((with_reducible apply T_ldI); (focus rfl); (focus exact hasA); (focus rfl)) | (with_reducible refine T_al ?_; intro _)))
  rename_i bo
  refine ohead_Small_c ?_
  rw [show ((o.1, o.2) : Ob) = o from rfl, ho]
  (dsimp only [alloc_Allocator_room, Zel0, Zel1, Zel2, Zel3, Zel4, Zel5, Zel6, Zel7, Zel8, Zel9, Zel10, Zel11, Zel12, Zel13, Zel14, Zel15, Zel16, Zel17, Zel18, Zel19, Zel20, Zel21, Zel22])
  simp only [Bool.not_false]
  refine T_bring (X := Al a d g s) (.init .last) ?_
  refine Al_open fun m u f => ?_
  unfold da
  (repeat (first | with_reducible refine T_nn ?_ | with_reducible refine T_tick ?_ | with_reducible refine T_brT ?_ | ((with_reducible apply T_ldI); (focus rfl); (focus exact hasA); (focus rfl)) | ((with_reducible apply T_ldP); (focus rfl); (focus exact hasA); (focus rfl))))
  refine ohead_Blocks_c ?_
  rw [show ((o.1, o.2) : Ob) = o from rfl, hn]
  (repeat (first | with_reducible refine T_chk0 ?_ | ((with_reducible apply T_chk); (focus rfl); (focus exact hasA); (focus rfl))))
  refine T_bring (X := LDx d (64 * g) s.c) (.init (.init (.init (.init .last)))) ?_
  refine T_bring (X := Mg m d g s.hs s.F) (.init (.init (.init (.init .last)))) ?_
  refine Mg_tie fun tie => ?_
  refine bman_Large_c (n := 64 * g) rfl ⟨hn1, hn2⟩ (fun hno => ?_) (fun b q hb hq hmin hb1 hb2 => ?_)
  · (repeat' (first | with_reducible refine T_nn ?_ | ((with_reducible apply T_ldI); (focus rfl); (focus exact hasA); (focus rfl)) | with_reducible refine T_brNE (fun _ => ?_) (fun _ => ?_)))
    · refine T_drop1 (.init (.init (.init (.init (.init .last))))) ?_
      exact T.perm (by unfold da; ac_rfl) (Al_close (a := a) (m := m) (u := u) (f := f) (d := d) (g := g) (R := R) (s := s) (h0 hno))
    · rename_i h; exact absurd h (by decide)
  · (repeat' (first | with_reducible refine T_nn ?_ | ((with_reducible apply T_ldI); (focus rfl); (focus exact hasA); (focus rfl)) | with_reducible refine T_brNE (fun _ => ?_) (fun _ => ?_)))
    · rename_i h; exact absurd rfl h
    refine geom_First_c (by omega) ?_
    have hf : first g (b : Int) = ((b * 512 : Nat) : Int) := by unfold first; rw [if_neg (by omega)]; omega
    rw [hf]
    have hfree : ∀ i, b ≤ i → i < b + n → (hd s.hs i).1 = 0 := by
      intro i h1 h2
      have := (tie.fr i).1 ⟨(b : Int), q, hb, by omega, by omega⟩
      rw [Int.toNat_natCast] at this; exact this.2.2
    obtain ⟨w1, w2, w3⟩ := inv.large hb1 hn1 hn2 hb2 hfree
    have h2 := h1 (b * 512) { s with hs := splice s.hs b (runH n), F := takeF s.F b n q, c := wrH s.c b (runH n) } ⟨w2, w3, rfl, rfl, b, q, rfl, hb1, hb2, w1, hb, hq, hmin, rfl, rfl, rfl⟩
    refine T_drop1 (.init (.init (.init (.init (.init .last))))) ?_
    exact T.perm (by unfold da; ac_rfl) (Al_close (a := a) (m := m) (u := u) (f := f) (d := d) (g := g) (R := R) h2)
end
end
section
set_option maxHeartbeats 1000000
def RoomR (g : Nat) (s : St) (o : Ob) (s1 : St) (x : Nat) : Prop :=
  (∃ k : Nat, k < 32 ∧ kOf (oSize o) = ((k : Int), true) ∧ oSize o ≤ cw k ∧ RoomS g s s1 k x) ∨ (∃ n : Nat, kOf (oSize o) = (0, false) ∧ oBlocks o = n ∧ 1 ≤ n ∧ n < 256 ∧ RoomL g s s1 n x)
def made (s1 : St) (o : Ob) (x : Nat) : St := { s1 with c := (zerN s1.c x (oSize o).toNat).set x (oenc x o), U := uAdd s1.U x }
def NoRoom (s : St) (o : Ob) : Prop :=
  (∃ k : Nat, k < 32 ∧ kOf (oSize o) = ((k : Int), true) ∧ accL s.L k 4 = [] ∧ ∀ q r, s.F q = some r → r < 1) ∨ (∃ n : Nat, kOf (oSize o) = (0, false) ∧ oBlocks o = n ∧ 1 ≤ n ∧ n < 256 ∧ ∀ q r, s.F q = some r → r < n)
theorem RoomR.inv {g : Nat} {s s1 : St} {o : Ob} {x : Nat} (h : RoomR g s o s1 x) : Inv g s1.hs (uAdd s.U x) s1.L ∧ s.U x = false ∧ s1.U = s.U := by
  rcases h with ⟨k, _, _, _, h⟩ | ⟨n, _, _, _, _, h⟩
  · exact ⟨h.inv, h.un, h.u⟩
  · exact ⟨h.inv, h.un, h.u⟩
theorem RoomR.fits {g : Nat} {s s1 : St} {o : Ob} {x : Nat} (h : RoomR g s o s1 x) (h1 : oSize o ≠ 0) : (x : Int) + oSize o ≤ 512 * g ∧ 512 ≤ x := by
  have hr := oSize_rng o
  rcases h with ⟨k, hk, hko, hs, h⟩ | ⟨n, hk, hb, _, _, h⟩
  · obtain ⟨b, i, h1, h2, h3, h4, rfl⟩ := h.cell
    have := cellN_rng (b := b) hk h4
    omega
  · obtain ⟨b, q, rfl, h1, h2, h3, _⟩ := h.from_
    unfold oBlocks at hb
    have : ¬ (1 ≤ oSize o ∧ oSize o ≤ 256) := by
      intro hh
      unfold kOf at hk
      rw [if_pos hh] at hk
      simp at hk
    rw [if_neg this] at hb
    omega
theorem HLs.made {n x z : Nat} {v : Int} {c la : List Int} (hx : 512 ≤ x) (hn : n / 64 ≤ 256) (h : HLs n c la) : HLs n ((zerN c x z).set x v) la := by
  intro i h1 h2
  rw [h i h1 h2, List.getElem?_set, if_neg (by omega), zerN_get, if_neg (by omega)]
section
variable {B : World} {P R : SL} {t : K}
theorem Alloc_c {a d g : Nat} {s : St} (inv : Inv g s.hs s.U s.L) {m p q : Int} {kk : Int × Int → K} (hg8 : (g - 1 : Nat) * 512 < 255 * 512)
    (hA : ¬ (0 ≤ m ∧ m < 4) → T B (R * Al a d g s) (kk (0, 1)))
    (hS : 0 ≤ m → m < 4 → (oSize (p, q) = 0 ∨ ((g : Int) - 1) * 512 < oSize (p, q)) → T B (R * Al a d g s) (kk (0, 5)))
    (h0 : 0 ≤ m → m < 4 → oSize (p, q) ≠ 0 → oSize (p, q) ≤ ((g : Int) - 1) * 512 → NoRoom s (p, q) → T B (R * Al a d g s) (kk (0, 4)))
    (h1 : 0 ≤ m → m < 4 → oSize (p, q) ≠ 0 → oSize (p, q) ≤ ((g : Int) - 1) * 512 → ∀ (x : Nat) s1, RoomR g s (p, q) s1 x → T B (R * Al a d g (made s1 (p, q) x)) (kk ((x : Int), 0))) :
    T B (R * Al a d g s) (c_alloc_Allocator_Alloc (da a) m p q kk) := by
  refine T_of (alloc_Allocator_Alloc_ok _ m p q kk) ?_
  have hg := inv.big
  have hg2 := inv.two
  have hr := oSize_rng (p, q)
  (repeat' (first | with_reducible refine T_tick ?_ | with_reducible refine T_brT ?_ | ((with_reducible apply T_ldI); (focus rfl); (focus exact hasA); (focus rfl)) | (with_reducible refine T_al ?_; intro _) | ((with_reducible apply T_st); (focus rfl); (focus exact updA); (focus simp); simp only [List.set, Nat.zero_add, Nat.reduceAdd]) | with_reducible refine T_brD (fun _ => ?_) (fun _ => ?_)))
  · refine T_drop1 .last ?_
    exact hA (by omega)
  · refine T_drop1 .last ?_
    exact hA (by omega)
  rename_i b hm1 hm2
  refine ohead_Size_c ?_
  (repeat' (first | with_reducible refine T_brT ?_ | ((with_reducible apply T_ldI); (focus rfl); (focus exact hasA); (focus rfl)) | with_reducible refine T_brE (fun _ => ?_) (fun _ => ?_)))
  · rename_i hz
    refine T_drop1 .last ?_
    exact hS (by omega) (by omega) (.inl hz)
  rename_i hz
  refine T_bring (X := Al a d g s) (.init .last) ?_
  -- the heap's geometry
  have rest : T B (R * pt b (.cells [.int .i64 p, .int .i64 q].toArray 68) * Al a d g s) (Zeh12 (da a) m kk ⟨b, 0, none⟩ (decide (oSize (p, q) > max 0 ((g : Int) - 1) * 512))) := by
    (repeat' (first | ((with_reducible apply T_ldI); (focus rfl); (focus exact hasA); (focus rfl)) | with_reducible refine T_brD (fun _ => ?_) (fun _ => ?_)))
    · rename_i hgt
      refine T_drop1 (.init .last) ?_
      exact hS (by omega) (by omega) (.inr (by omega))
    rename_i hle
    have hle2 : oSize (p, q) ≤ ((g : Int) - 1) * 512 := by omega
    obtain ⟨m0, rfl⟩ := Int.eq_ofNat_of_zero_le (show 0 ≤ m by omega)
    have h0' := h0 (by omega) (by omega) hz hle2
    have h1' := h1 (by omega) (by omega) hz hle2
    -- behind the room
    have fin : ∀ (x : Nat) s1, RoomR g s (p, q) s1 x → T B (R * pt b (.cells [.int .i64 p, .int .i64 q].toArray 68) * Al a d g s1) (Zeh8 (da a) kk ⟨b, 0, none⟩ (x : Int) 0) := by
      intro x s1 hrr
      have hkk := h1' x s1 hrr
      obtain ⟨f1, f2⟩ := hrr.fits hz
      obtain ⟨_, hun, hu⟩ := hrr.inv
      (repeat' (first | with_reducible refine T_tick ?_ | with_reducible refine T_brNE (fun _ => ?_) (fun _ => ?_)))
      · rename_i h; exact absurd rfl h
      refine T_bring (X := Al a d g s1) .last ?_
      refine Al_open fun mm u f => ?_
      unfold da
      (repeat (first | with_reducible refine T_nn ?_ | ((with_reducible apply T_ldI); (focus rfl); (focus exact hasA); (focus rfl)) | ((with_reducible apply T_ldP); (focus rfl); (focus exact hasA); (focus rfl))))
      refine T_bring (X := LDx d (64 * g) s1.c) (.init (.init (.init (.init .last)))) ?_
      refine LDx_open fun la hla => ?_
      refine object_Init_c (o := (p, q)) hz (by omega) ?_
      (repeat' (first | with_reducible refine T_nn ?_ | ((with_reducible apply T_ldP); (focus rfl); (focus exact hasA); (focus rfl)) | with_reducible refine T_brNE (fun _ => ?_) (fun _ => ?_)))
      · rename_i h; exact absurd rfl h
      refine LDx_close (hla.made (by omega) (by omega)) ?_
      refine T_bring (X := Bm u (512 * g) s1.U) (.init (.init (.init .last))) ?_
      refine bitmap_Add_c (fun h => ?_) (fun _ _ _ => ?_)
      · exact absurd ⟨by omega, by omega, by rw [Int.toNat_natCast, hu]; exact hun⟩ h
      rw [Int.toNat_natCast]
      refine T_drop1 (.init (.init (.init (.init (.init .last))))) ?_
      exact T.perm (by unfold da; ac_rfl) (Al_close (a := a) (m := mm) (u := u) (f := f) (d := d) (g := g) (R := R) (s := made s1 (p, q) x) hkk)
    skip
    by_cases hsm : oSize (p, q) ≤ 256
    · obtain ⟨k, k1, k2, k3⟩ := kOf_small (w := oSize (p, q)) (by omega) hsm
      refine room_small_c inv (by omega) k1 k2 (fun e1 e2 => ?_) (fun x s1 h => ?_)
      · (repeat' (first | with_reducible refine T_tick ?_ | with_reducible refine T_brNE (fun _ => ?_) (fun _ => ?_)))
        · refine T_drop1 (.init .last) ?_
          exact h0' (.inl ⟨k, k1, k2, e1, e2⟩)
        · rename_i h; exact absurd h (by decide)
      · exact fin x s1 (.inl ⟨k, k1, k2, k3, h⟩)
    · have k2 := kOf_large (w := oSize (p, q)) (by omega)
      obtain ⟨n, hn⟩ := Int.eq_ofNat_of_zero_le (show 0 ≤ oBlocks (p, q) by unfold oBlocks; split <;> omega)
      have hb : oBlocks (p, q) = (oSize (p, q) + 511) / 512 := by unfold oBlocks; rw [if_neg (by omega)]
      refine room_large_c (n := n) inv k2 hn (by omega) (by omega) (fun e1 => ?_) (fun x s1 h => ?_)
      · (repeat' (first | with_reducible refine T_tick ?_ | with_reducible refine T_brNE (fun _ => ?_) (fun _ => ?_)))
        · refine T_drop1 (.init .last) ?_
          exact h0' (.inr ⟨n, k2, hn, by omega, by omega, e1⟩)
        · rename_i h; exact absurd h (by decide)
      · exact fin x s1 (.inr ⟨n, k2, hn, by omega, by omega, h⟩)
  refine Al_open fun mm u f => ?_
  unfold da
  (repeat (first | with_reducible refine T_nn ?_ | ((with_reducible apply T_ldI); (focus rfl); (focus exact hasA); (focus rfl))))
  refine ohead_Size_c ?_
  (repeat (first | with_reducible refine T_chk0 ?_ | ((with_reducible apply T_chk); (focus rfl); (focus exact hasA); (focus rfl))))
  refine geom_Most_c (by omega) (by omega) ?_
  exact T.perm (by unfold da; ac_rfl) (Al_close (a := a) (m := mm) (u := u) (f := f) (d := d) (g := g) (s := s) rest)
end
end
section
set_option maxHeartbeats 1000000
/-- an object stands at an address -/
def PlOk (c : List Int) (n : Nat) (hs : List Hd) (g at_ : Int) (o : Ob) : Prop := oHead c n at_ = (o, 0) ∧ 1 ≤ blockOf g at_ ∧ blockOf g at_ < hs.length ∧
  ((∃ k : Nat, k < 32 ∧ kOf (oSize o) = ((k : Int), true) ∧ (cellOf g k at_).2 = true ∧ hd hs (blockOf g at_).toNat = (1, (k : Int), 0)) ∨
   (kOf (oSize o) = (0, false) ∧ ∃ m : Nat, WholeP hs (blockOf g at_).toNat m ∧ at_ = first g (blockOf g at_) ∧ (m : Int) = oBlocks o))
section
variable {B : World} {P R : SL} {t : K}
theorem Placed_c {d n : Nat} {c : List Int} {g at_ : Int} {hs : List Hd} {x : Sl} (hg : 0 ≤ g) (hg2 : g ≤ 2 ^ 20) (hl : hs.length ≤ 2 ^ 20) (hx : Rd R x 3 (hds hs)) {kk : Ob × Bool → K}
    (h1 : ∀ o, PlOk c n hs g at_ o → T B (R * LDx d n c) (kk (o, true))) (h0 : (∀ o, ¬ PlOk c n hs g at_ o) → ∀ o, T B (R * LDx d n c) (kk (o, false))) :
    T B (R * LDx d n c) (c_alloc_Placed (da d) g x at_ kk) := by
  refine T_of (alloc_Placed_ok _ g x at_ kk) ?_
  refine T_rdlen hx.init fun hxn => ?_
  rw [hds_len] at hxn
  have hxl : x.n = hs.length := by omega
  (repeat (first | ((with_reducible apply T_ldI); (focus rfl); (focus exact hasA); (focus rfl)) | (with_reducible refine T_al ?_; intro _)))
  refine geom_BlockOf_c (by omega) (by omega) ?_
  (repeat' (first | with_reducible refine T_brT ?_ | ((with_reducible apply T_ldI); (focus rfl); (focus exact hasA); (focus rfl)) | ((with_reducible apply T_st); (focus rfl); (focus exact updA); (focus simp); simp only [List.set, Nat.zero_add, Nat.reduceAdd]) | with_reducible refine T_brD (fun _ => ?_) (fun _ => ?_)))
  · rename_i b3 b4 hlt
    refine T_drop1 .last (T_drop1 .last ?_)
    exact h0 (fun o ho => by have := ho.2.1; omega) _
  · rename_i b3 b4 hn1 hlt
    refine T_drop1 .last (T_drop1 .last ?_)
    exact h0 (fun o ho => by have := ho.2.2.1; omega) _
  rename_i b3 b4 hb1 hb2
  obtain ⟨b, hb⟩ := Int.eq_ofNat_of_zero_le (show 0 ≤ blockOf g at_ by omega)
  have hlt : b < hs.length := by omega
  have hhd : hd hs b = hs[b] := getD_eq hlt _
  refine T_bring (X := LDx d n c) (.init (.init .last)) ?_
  refine LDx_open fun la hla => ?_
  refine object_Head_c ?_
  refine LDx_close hla ?_
  generalize hoh : oHead c n at_ = oe
  obtain ⟨⟨o1, o2⟩, e⟩ := oe
  simp only
  (repeat' (first | ((with_reducible apply T_ldI); (focus rfl); (focus exact hasA); (focus rfl)) | (with_reducible refine T_al ?_; intro _) | ((with_reducible apply T_st); (focus rfl); (focus exact updA); (focus simp); simp only [List.set, Nat.zero_add, Nat.reduceAdd]) | with_reducible refine T_brNE (fun _ => ?_) (fun _ => ?_)))
  · rename_i b2 hne
    refine T_drop1 .last ?_
    refine T_drop1 (.init .last) (T_drop1 (.init .last) ?_)
    exact h0 (fun o ho => by rw [ho.1] at hoh; simp only [Prod.mk.injEq] at hoh; exact hne hoh.2.symm) _
  rename_i b2 he
  subst he
  rw [hb]
  refine T_ixH (l := hs) hx.init.init.init.init (by omega) (by rw [Int.toNat_natCast]; exact hlt) fun a ha => ?_
  simp only [Int.toNat_natCast] at ha
  refine T_ldAt ha rfl ?_
  refine T_ldAt ha rfl ?_
  refine T_ldAt ha rfl ?_
  (repeat (first | ((with_reducible apply T_ldI); (focus rfl); (focus exact hasA); (focus rfl)) | (with_reducible refine T_al ?_; intro _) | ((with_reducible apply T_st); (focus rfl); (focus exact updA); (focus simp); simp only [List.set, Nat.zero_add, Nat.reduceAdd])))
  refine ohead_Small_c ?_
  by_cases hs1 : 1 ≤ oSize (o1, o2) ∧ oSize (o1, o2) ≤ 256
  · obtain ⟨k, k1, k2, k3⟩ := kOf_small hs1.1 hs1.2
    rw [k2]
    (repeat (first | with_reducible refine T_brT ?_ | ((with_reducible apply T_ldI); (focus rfl); (focus exact hasA); (focus rfl))))
    refine cells_At_c (by omega) (by omega) ?_
    generalize hce : cellOf g k at_ = ce
    obtain ⟨⟨c1, c2⟩, cb⟩ := ce
    have hno : (cb = true → hs[b] = (1, (k : Int), 0) → False) → ∀ o, ¬ PlOk c n hs g at_ o := by
      intro hn o ho
      obtain ⟨g1, g2, g3, g4⟩ := ho
      rw [hoh] at g1
      simp only [Prod.mk.injEq, and_true] at g1
      subst g1
      rcases g4 with ⟨k', h1', h2', h3', h4'⟩ | ⟨h2', _⟩
      · rw [k2] at h2'
        simp only [Prod.mk.injEq, Int.natCast_inj, and_true] at h2'
        subst h2'
        rw [hce] at h3'
        rw [hb, Int.toNat_natCast, hhd] at h4'
        exact hn h3' h4'
      · rw [k2] at h2'; simp at h2'
    cases cb
    · (repeat (first | with_reducible refine T_tick ?_ | with_reducible refine T_brF ?_ | ((with_reducible apply T_ldI); (focus rfl); (focus exact hasA); (focus rfl)) | (with_reducible refine T_al ?_; intro _) | ((with_reducible apply T_st); (focus rfl); (focus exact updA); (focus simp); simp only [List.set, Nat.zero_add, Nat.reduceAdd])))
      refine T_bring (X := LDx d n c) (by exact frmA) ?_
      repeat refine T_drop1 (.init .last) ?_
      exact h0 (hno fun h => by cases h) _
    · (repeat (first | with_reducible refine T_tick ?_ | with_reducible refine T_brT ?_ | with_reducible refine T_chk0 ?_ | ((with_reducible apply T_ldI); (focus rfl); (focus exact hasA); (focus rfl)) | (with_reducible refine T_al ?_; intro _) | ((with_reducible apply T_st); (focus rfl); (focus exact updA); (focus simp); simp only [List.set, Nat.zero_add, Nat.reduceAdd]) | ((with_reducible apply T_chk); (focus rfl); (focus exact hasA); (focus rfl))))
      refine T_bring (X := LDx d n c) (by exact frmA) ?_
      repeat refine T_drop1 (.init .last) ?_
      by_cases hq : hs[b] = (1, (k : Int), 0)
      · rw [hq]
        simp only [BEq.rfl, Bool.and_true]
        exact h1 (o1, o2) ⟨hoh, by omega, by omega, .inl ⟨k, k1, k2, by rw [hce], by rw [hb, Int.toNat_natCast, hhd, hq]⟩⟩
      · have : (hs[b].1 == 1 && (hs[b].2.1 == (k : Int) && (hs[b].2.2 == 0 && true))) = false := by
          cases hc2 : (hs[b].1 == 1 && (hs[b].2.1 == (k : Int) && (hs[b].2.2 == 0 && true))) with
          | false => rfl
          | true =>
            simp only [Bool.and_eq_true, beq_iff_eq, Bool.and_true] at hc2
            exact absurd (Prod.ext hc2.1 (Prod.ext hc2.2.1 hc2.2.2)) hq
        rw [this]
        exact h0 (hno fun _ h => hq h) _
  · have k2 := kOf_large hs1
    rw [k2]
    (repeat (with_reducible refine T_brF ?_))
    have hno : (∀ m : Nat, WholeP hs b m → at_ = first g (b : Int) → (m : Int) = oBlocks (o1, o2) → False) → ∀ o, ¬ PlOk c n hs g at_ o := by
      intro hn o ho
      obtain ⟨g1, g2, g3, g4⟩ := ho
      rw [hoh] at g1
      simp only [Prod.mk.injEq, and_true] at g1
      subst g1
      rcases g4 with ⟨k', h1', h2', h3', h4'⟩ | ⟨h2', m, h3', h4', h5'⟩
      · rw [k2] at h2'; simp at h2'
      · rw [hb] at h3' h4'
        exact hn m h3' h4' h5'
    refine bhead_Whole_c (hs := hs) (by omega) (by omega) hx.init.init.init.init.init (fun bb m e1 hw => ?_) (fun hw => ?_)
    · have e2 : bb = b := by omega
      subst e2
      (repeat (first | with_reducible refine T_tick ?_ | with_reducible refine T_brT ?_ | ((with_reducible apply T_ldI); (focus rfl); (focus exact hasA); (focus rfl))))
      refine geom_First_c (by omega) ?_
      (repeat' (first | with_reducible refine T_chk0 ?_ | ((with_reducible apply T_ldI); (focus rfl); (focus exact hasA); (focus rfl)) | ((with_reducible apply T_st); (focus rfl); (focus exact updA); (focus simp); simp only [List.set, Nat.zero_add, Nat.reduceAdd]) | ((with_reducible apply T_chk); (focus rfl); (focus exact hasA); (focus rfl)) | with_reducible refine T_brE (fun _ => ?_) (fun _ => ?_)))
      · rename_i hf
        refine ohead_Blocks_c ?_
        (repeat (first | with_reducible refine T_chk0 ?_ | ((with_reducible apply T_ldI); (focus rfl); (focus exact hasA); (focus rfl)) | ((with_reducible apply T_st); (focus rfl); (focus exact updA); (focus simp); simp only [List.set, Nat.zero_add, Nat.reduceAdd]) | ((with_reducible apply T_chk); (focus rfl); (focus exact hasA); (focus rfl))))
        refine T_bring (X := LDx d n c) (by exact frmA) ?_
        repeat refine T_drop1 (.init .last) ?_
        by_cases hq : (m : Int) = oBlocks (o1, o2)
        · rw [← hq]
          simp only [BEq.rfl]
          exact h1 (o1, o2) ⟨hoh, by omega, by omega, .inr ⟨k2, m, by rw [hb]; exact hw, by rw [hb]; exact hf, hq⟩⟩
        · have : ((m : Int) == oBlocks (o1, o2)) = false := by simpa using hq
          rw [this]
          exact h0 (hno fun m' h1' h2' h3' => hq (by have := hw.uniq h1'; subst this; exact h3')) _
      · rename_i hf
        refine T_bring (X := LDx d n c) (by exact frmA) ?_
        repeat refine T_drop1 (.init .last) ?_
        exact h0 (hno fun m' h1' h2' h3' => hf h2') _
    · (repeat (first | with_reducible refine T_tick ?_ | with_reducible refine T_brF ?_ | ((with_reducible apply T_ldI); (focus rfl); (focus exact hasA); (focus rfl)) | ((with_reducible apply T_st); (focus rfl); (focus exact updA); (focus simp); simp only [List.set, Nat.zero_add, Nat.reduceAdd])))
      refine T_bring (X := LDx d n c) (by exact frmA) ?_
      repeat refine T_drop1 (.init .last) ?_
      exact h0 (hno fun m' h1' h2' h3' => hw b m' rfl h1') _
theorem Place_c {a d g : Nat} {s : St} {at_ : Int} (inv : Inv g s.hs s.U s.L) {kk : Ob × Bool → K}
    (h1 : ∀ o, PlOk s.c (64 * g) s.hs g at_ o → T B (R * Al a d g s) (kk (o, true))) (h0 : (∀ o, ¬ PlOk s.c (64 * g) s.hs g at_ o) → ∀ o, T B (R * Al a d g s) (kk (o, false))) :
    T B (R * Al a d g s) (c_alloc_Allocator_Place (da a) at_ kk) := by
  refine T_of (alloc_Allocator_Place_ok _ at_ kk) ?_
  have hg := inv.big
  have hl := inv.len
  refine Al_open fun m u f => ?_
  unfold da
  (repeat (first | with_reducible refine T_nn ?_ | with_reducible refine T_tick ?_ | ((with_reducible apply T_ldI); (focus rfl); (focus exact hasA); (focus rfl)) | ((with_reducible apply T_ldP); (focus rfl); (focus exact hasA); (focus rfl)) | (with_reducible refine T_al ?_; intro _)))
  rename_i b0
  refine T_bring (X := Mg m d g s.hs s.F) (by exact frmA) ?_
  refine Mg_open fun tt x tie => ?_
  unfold da
  (repeat (((with_reducible apply T_ldP); (focus rfl); (focus exact hasA); (focus rfl))))
  refine T_bring (X := Tab tt d g s.hs) (by exact frmA) ?_
  refine blocks_All_c (by omega) fun sl => ?_
  (repeat (first | with_reducible refine T_chk0 ?_ | ((with_reducible apply T_chk); (focus rfl); (focus exact hasA); (focus rfl))))
  refine T_bring (X := LDx d (64 * g) s.c) (by exact frmA) ?_
  have cl : ∀ (o : Ob) (b : Bool), T B (R * Al a d g s) (kk (o, b)) → T B (R * Bm u (512 * g) s.U * Fl f s.L * pt a (.cells [.pointer (some ⟨m, 0, none⟩), .pointer (some ⟨d, 0, none⟩), .int .i64 g, .pointer (some ⟨u, 0, none⟩), .pointer (some ⟨f, 0, none⟩)].toArray 47) * pt b0 (.cells [.int .i64 o.1, .int .i64 o.2].toArray 68) * Idx x g s.F * pt m (.cells [.pointer (some ⟨tt, 0, none⟩), .pointer (some ⟨x, 0, none⟩), .int .i64 g].toArray 51) * Tab tt d g s.hs * vec 143 3 sl (hds s.hs) * LDx d (64 * g) s.c) (kk (o, b)) := by
    intro o b h
    have h2 := Al_close (m := m) (u := u) (f := f) h
    have h3 : T B (R * LDx d (64 * g) s.c * Bm u (512 * g) s.U * Fl f s.L * pt a (.cells [.pointer (da m), .pointer (da d), .int .i64 g, .pointer (da u), .pointer (da f)].toArray 47) * Mg m d g s.hs s.F) (kk (o, b)) := T.perm (by ac_rfl) h2
    have h4 := Mg_close (a := tt) (x := x) tie h3
    refine T_drop1 (.init .last) ?_
    refine T_drop1 (by exact frmA : Frm _ (pt b0 (.cells [.int .i64 o.1, .int .i64 o.2].toArray 68)) _) ?_
    exact T.perm (by unfold da; ac_rfl) h4
  refine Placed_c (by omega) (by omega) (by omega) (Rd.vec (E := 143) (s := sl) .last) (fun o ho => ?_) (fun hno o => ?_)
  · (repeat (first | ((with_reducible apply T_ldI); (focus rfl); (focus exact hasA); (focus rfl)) | ((with_reducible apply T_st); (focus rfl); (focus exact updA); (focus simp); simp only [List.set, Nat.zero_add, Nat.reduceAdd])))
    exact T.perm (by ac_rfl) (cl o true (h1 o ho))
  · (repeat (first | ((with_reducible apply T_ldI); (focus rfl); (focus exact hasA); (focus rfl)) | ((with_reducible apply T_st); (focus rfl); (focus exact updA); (focus simp); simp only [List.set, Nat.zero_add, Nat.reduceAdd])))
    exact T.perm (by ac_rfl) (cl o false (h0 hno o))
end
end
section
set_option maxHeartbeats 1000000
theorem Inv.freeS {g : Nat} {hs : List Hd} {U : Nat → Bool} {L L' : Nat → List Int} (h : Inv g hs U L) {k x : Nat} (hk : k < 32) (hc : SmCell g hs k x) (hu : U x = true) (hp : (accL L' k 4).Perm ((x : Int) :: accL L k 4)) (ho : ∀ j, j < 32 → j ≠ k → (accL L' j 4).Perm (accL L j 4)) :
    Inv g hs (uDrop U x) L' := by
  refine ⟨h.len, h.two, h.big, h.right, h.zero, h.whole, h.cont, fun z hz => ?_, ⟨fun j hj => ?_, fun j hj y => ?_⟩⟩
  · unfold uDrop at hz
    simp only [Bool.and_eq_true] at hz
    exact h.used z hz.2
  · by_cases e : j = k
    · subst e
      rw [hp.nodup_iff, List.nodup_cons]
      refine ⟨fun hm => ?_, h.free.nd j hj⟩
      obtain ⟨x', e1, _, h2⟩ := (h.free.mem j hj _).1 hm
      have : x = x' := by omega
      subst this
      rw [hu] at h2; cases h2
    · exact (ho j hj e).nodup_iff.2 (h.free.nd j hj)
  · by_cases e : j = k
    · subst e
      rw [hp.mem_iff, List.mem_cons, h.free.mem j hj]
      constructor
      · rintro (rfl | ⟨x', rfl, h1, h2⟩)
        · exact ⟨x, rfl, hc, by unfold uDrop; simp⟩
        · exact ⟨x', rfl, h1, by unfold uDrop; simp [h2]⟩
      · rintro ⟨x', rfl, h1, h2⟩
        by_cases e : x' = x
        · subst e; exact .inl rfl
        · right
          refine ⟨x', rfl, h1, ?_⟩
          unfold uDrop at h2
          simpa [e] using h2
    · rw [(ho j hj e).mem_iff, h.free.mem j hj]
      constructor
      · rintro ⟨x', rfl, h1, h2⟩
        exact ⟨x', rfl, h1, by unfold uDrop; simp [h2]⟩
      · rintro ⟨x', rfl, h1, h2⟩
        refine ⟨x', rfl, h1, ?_⟩
        have hne : x' ≠ x := fun e2 => e (SmCell.k hj hk h1 (e2 ▸ hc))
        unfold uDrop at h2
        simpa [hne] using h2
theorem Inv.freeL {g : Nat} {hs : List Hd} {U : Nat → Bool} {L : Nat → List Int} (h : Inv g hs U L) {b n : Nat} (hb : 1 ≤ b) (hw : WholeP hs b n) : Inv g (splice hs b (List.replicate n (0, 0, 0))) (uDrop U (b * 512)) L := by
  have hl := h.len
  have hfit : b + (List.replicate n ((0, 0, 0) : Hd)).length ≤ hs.length := by simp; exact hw.2.1
  have hhd : ∀ i, hd (splice hs b (List.replicate n (0, 0, 0))) i = if b ≤ i ∧ i < b + n then (0, 0, 0) else hd hs i := by
    intro i
    unfold hd
    rw [splice_getD hfit, List.length_replicate]
    by_cases e : b ≤ i ∧ i < b + n
    · rw [if_pos e, if_pos e, List.getD_eq_getElem?_getD, List.getElem?_replicate]; split <;> rfl
    · rw [if_neg e, if_neg e]
  have hw' : ∀ {b0 n0}, WholeP hs b0 n0 → b0 ≠ b → WholeP (splice hs b (List.replicate n (0, 0, 0))) b0 n0 := by
    intro b0 n0 hw0 hne
    refine hw0.keep (splice_length hfit) fun i h1 h2 => ?_
    rw [hhd, if_neg]
    intro e
    rcases hw0.kind h1 h2 with ⟨h3, h4⟩ | ⟨h3, h4⟩ <;> rcases hw.kind e.1 e.2 with ⟨h5, h6⟩ | ⟨h5, h6⟩
    · omega
    · omega
    · omega
    · have e1 := hw0.2.2.2.2 (i - b0) (by omega) (by omega)
      have e2 := hw.2.2.2.2 (i - b) (by omega) (by omega)
      rw [show b0 + (i - b0) = i by omega] at e1
      rw [show b + (i - b) = i by omega] at e2
      rw [e1] at e2
      simp only [Prod.mk.injEq] at e2
      omega
  have hsm : ∀ j x, SmCell g (splice hs b (List.replicate n (0, 0, 0))) j x ↔ SmCell g hs j x := by
    intro j x
    constructor
    · rintro ⟨b', i, h1, h2, h3, h4, rfl⟩
      rw [hhd] at h3
      by_cases e : b ≤ b' ∧ b' < b + n
      · rw [if_pos e] at h3; simp at h3
      · rw [if_neg e] at h3; exact ⟨b', i, h1, h2, h3, h4, rfl⟩
    · rintro ⟨b', i, h1, h2, h3, h4, rfl⟩
      refine ⟨b', i, h1, h2, ?_, h4, rfl⟩
      rw [hhd, if_neg]
      · exact h3
      · intro e
        rcases hw.kind e.1 e.2 with ⟨_, h6⟩ | ⟨_, h6⟩ <;> (rw [h3] at h6; simp at h6)
  refine ⟨by rw [splice_length hfit]; exact hl, h.two, h.big, fun x hx => ?_, ?_, fun b0 hb0 => ?_, fun b0 hb0 => ?_, fun x hx => ?_, ⟨h.free.nd, fun j hj y => ?_⟩⟩
  · unfold splice at hx
    simp only [List.mem_append] at hx
    rcases hx with (hx | hx) | hx
    · exact h.right x (List.mem_of_mem_take hx)
    · rw [List.eq_of_mem_replicate hx]; exact .inl rfl
    · exact h.right x (List.mem_of_mem_drop hx)
  · rw [hhd, if_neg (by omega)]; exact h.zero
  · rw [hhd] at hb0
    by_cases e : b ≤ b0 ∧ b0 < b + n
    · rw [if_pos e] at hb0; simp at hb0
    · rw [if_neg e] at hb0
      obtain ⟨n', hw0⟩ := h.whole b0 hb0
      exact ⟨n', hw' hw0 (fun e2 => e (by have := hw.1; omega))⟩
  · rw [hhd] at hb0
    by_cases e : b ≤ b0 ∧ b0 < b + n
    · rw [if_pos e] at hb0; simp at hb0
    · rw [if_neg e] at hb0
      obtain ⟨b1, n', hw0, h1, h2⟩ := h.cont b0 hb0
      refine ⟨b1, n', hw' hw0 (fun e2 => ?_), h1, h2⟩
      subst e2
      have := hw.uniq hw0
      omega
  · unfold uDrop at hx
    simp only [Bool.and_eq_true, bne_iff_ne, ne_eq] at hx
    rcases h.used x hx.2 with ⟨j, hj, hc⟩ | ⟨b0, n0, h1, hw0, h2⟩
    · exact .inl ⟨j, hj, (hsm j x).2 hc⟩
    · exact .inr ⟨b0, n0, h1, hw' hw0 (fun e => hx.1 (by omega)), h2⟩
  · rw [h.free.mem j hj]
    constructor
    · rintro ⟨x, rfl, h1, h2⟩
      exact ⟨x, rfl, (hsm j x).2 h1, by unfold uDrop; simp [h2]⟩
    · rintro ⟨x, rfl, h1, h2⟩
      have h1 := (hsm j x).1 h1
      refine ⟨x, rfl, h1, ?_⟩
      have hne : x ≠ b * 512 := by
        intro e
        obtain ⟨b', i, g1, g2, g3, g4, g5⟩ := h1
        have e3 := cellN_blk (b := b') hj g4
        have : b' = b := by omega
        subst this
        have := hw.2.2.1
        unfold hd at g3
        rw [g3] at this; simp at this
      unfold uDrop at h2
      simpa [hne] using h2
/-- what a giving back turns -/
structure FreeR (g : Nat) (s s' : St) (x : Nat) : Prop where
  inv : Inv g s'.hs s'.U s'.L
  was : s.U x = true
  u : s'.U = uDrop s.U x
  from_ : (∃ k : Nat, k < 32 ∧ SmCell g s.hs k x ∧ s'.hs = s.hs ∧ s'.F = s.F ∧ s'.c = s.c ∧ (accL s'.L k 4).Perm ((x : Int) :: accL s.L k 4) ∧ ∀ j, j < 32 → j ≠ k → (accL s'.L j 4).Perm (accL s.L j 4)) ∨
    (∃ b n : Nat, x = b * 512 ∧ 1 ≤ b ∧ WholeP s.hs b n ∧ s'.hs = splice s.hs b (List.replicate n (0, 0, 0)) ∧ s'.c = wrH s.c b (List.replicate n (0, 0, 0)) ∧ s'.L = s.L)
theorem blockOf_nat {g a : Int} (h : 1 ≤ blockOf g a) : ∃ x : Nat, a = x ∧ blockOf g a = ((x / 512 : Nat) : Int) ∧ a < g * 512 ∧ 512 ≤ x := by
  unfold blockOf at h ⊢
  split at h
  · omega
  · rename_i hh
    obtain ⟨x, rfl⟩ := Int.eq_ofNat_of_zero_le (show 0 ≤ a by omega)
    refine ⟨x, rfl, by rw [if_neg hh]; omega, by omega, by omega⟩
theorem cellOf_sm {g : Nat} {hs : List Hd} {k : Nat} {a : Int} (hk : k < 32) (hb : 1 ≤ blockOf g a) (hc : (cellOf g k a).2 = true) (hh : hd hs (blockOf g a).toNat = (1, (k : Int), 0)) : ∃ x : Nat, a = x ∧ SmCell g hs k x := by
  obtain ⟨x, rfl, h1, h2, h3⟩ := blockOf_nat hb
  obtain ⟨t1, t2, t3, t4, t5, t6, t7, t8⟩ := cls_tab k hk
  refine ⟨x, rfl, ?_⟩
  unfold cellOf at hc
  rw [if_neg (by omega)] at hc
  simp only [decide_eq_true_eq] at hc
  rw [h1] at hc hh
  rw [Int.toNat_natCast] at hh
  unfold cellAt at hc
  split at hc
  · omega
  · rename_i hn
    simp only [t1, t2] at hc hn
    have e : (x : Int) % 512 / (cw k : Int) = ((x % 512 / cw k : Nat) : Int) := by simp
    rw [e] at hc hn
    refine ⟨x / 512, x % 512 / cw k, by omega, by omega, hh, by omega, ?_⟩
    unfold cellN
    have : ((x / 512 : Nat) : Int) * 512 + ((x % 512 / cw k : Nat) : Int) * (cw k : Int) = ((x / 512 * 512 + x % 512 / cw k * cw k : Nat) : Int) := by simp
    rw [this] at hc
    omega
section
variable {B : World} {P R : SL} {t : K}
theorem Free_c {a d g : Nat} {s : St} (inv : Inv g s.hs s.U s.L) {m x : Int} {kk : Int → K}
    (hM : ((∀ o, ¬ PlOk s.c (64 * g) s.hs g x o) ∨ has s.U x = false) → T B (R * Al a d g s) (kk 42))
    (h1 : ∀ (n : Nat) s' o, x = n → PlOk s.c (64 * g) s.hs g x o → FreeR g s s' n → T B (R * Al a d g s') (kk 0)) :
    T B (R * Al a d g s) (c_alloc_Allocator_Free (da a) m x kk) := by
  refine T_of (alloc_Allocator_Free_ok _ m x kk) ?_
  have hg := inv.big
  have hl := inv.len
  refine Place_c inv (fun o ho => ?_) (fun hno o => ?_)
  · (repeat (first | (with_reducible refine T_al ?_; intro _) | ((with_reducible apply T_st); (focus rfl); (focus exact updA); (focus simp); simp only [List.set, Nat.zero_add, Nat.reduceAdd])))
    rename_i b0
    (dsimp only [alloc_Allocator_Free, Zef0, Zef1, Zef2, Zef3, Zef4, Zef5, Zef6, Zef7, Zef8, Zef9, Zef10, Zef11, Zef12, Zef13, Zef14, Zef15, Zef16, Zef17, Zef18, Zef19])
    simp only [Bool.not_true]
    (repeat (with_reducible refine T_brF ?_))
    refine T_bring (X := Al a d g s) (.init .last) ?_
    refine Al_open fun mm u f => ?_
    unfold da
    (repeat (first | with_reducible refine T_nn ?_ | ((with_reducible apply T_ldP); (focus rfl); (focus exact hasA); (focus rfl))))
    refine T_bring (X := Bm u (512 * g) s.U) (.init (.init .last)) ?_
    refine bitmap_Has_c ?_
    have cl : ∀ t, T B (R * Al a d g s) t → T B (R * pt b0 (.cells [.int .i64 o.1, .int .i64 o.2].toArray 68) * LDx d (64 * g) s.c * Mg mm d g s.hs s.F * Fl f s.L * pt a (.cells [.pointer (some ⟨mm, 0, none⟩), .pointer (some ⟨d, 0, none⟩), .int .i64 g, .pointer (some ⟨u, 0, none⟩), .pointer (some ⟨f, 0, none⟩)].toArray 47) * Bm u (512 * g) s.U) t := by
      intro t h
      refine T_drop1 (by exact frmA : Frm _ (pt b0 (.cells [.int .i64 o.1, .int .i64 o.2].toArray 68)) _) ?_
      exact T.perm (by unfold da; ac_rfl) (Al_close (m := mm) (u := u) (f := f) h)
    cases hu : has s.U x
    · simp only [Bool.not_false]
      (repeat (with_reducible refine T_brT ?_))
      exact cl _ (hM (.inr hu))
    simp only [Bool.not_true]
    (repeat (first | with_reducible refine T_brF ?_ | ((with_reducible apply T_ldI); (focus rfl); (focus exact hasA); (focus rfl))))
    refine ohead_Small_c ?_
    rw [show ((o.1, o.2) : Ob) = o from rfl]
    obtain ⟨g1, g2, g3, g4⟩ := ho
    have hhu := hu
    unfold has at hu
    simp only [Bool.and_eq_true, decide_eq_true_eq] at hu
    rcases g4 with ⟨k, k1, k2, k3, k4⟩ | ⟨k2, n, k3, k4, k5⟩
    · obtain ⟨n, rfl, hc⟩ := cellOf_sm k1 g2 k3 k4
      rw [Int.toNat_natCast] at hu
      rw [k2]
      (dsimp only [alloc_Allocator_Free, Zef0, Zef1, Zef2, Zef3, Zef4, Zef5, Zef6, Zef7, Zef8, Zef9, Zef10, Zef11, Zef12, Zef13, Zef14, Zef15, Zef16, Zef17, Zef18, Zef19])
      simp only [Bool.not_true]
      (repeat (first | with_reducible refine T_nn ?_ | with_reducible refine T_brF ?_ | ((with_reducible apply T_ldP); (focus rfl); (focus exact hasA); (focus rfl))))
      have hL : ∀ i, i < 160 → (s.L i).length ≤ 2 ^ 30 := fun i hi => by have := inv.free.lens hg i hi; omega
      have hnf : ¬ FHas s.L k ((n : Nat) : Int) := by
        intro hf
        obtain ⟨x', e1, _, h2⟩ := (inv.free.mem k k1 _).1 (mem_accL.2 hf)
        have : n = x' := by omega
        subst this
        rw [hu.2] at h2; cases h2
      refine bitmap_Drop_c (fun h => by rw [hhu] at h; cases h) (fun _ _ => ?_)
      rw [Int.toNat_natCast]
      have fin : ∀ L', (accL L' k 4).Perm ((n : Int) :: accL s.L k 4) → (∀ j, j < 32 → j ≠ k → (accL L' j 4).Perm (accL s.L j 4)) →
          T B (R * pt b0 (.cells [.int .i64 o.1, .int .i64 o.2].toArray 68) * LDx d (64 * g) s.c * Mg mm d g s.hs s.F * pt a (.cells [.pointer (some ⟨mm, 0, none⟩), .pointer (some ⟨d, 0, none⟩), .int .i64 g, .pointer (some ⟨u, 0, none⟩), .pointer (some ⟨f, 0, none⟩)].toArray 47) * Bm u (512 * g) (uDrop s.U n) * Fl f L') (kk 0) := by
        intro L' hp ho
        have h2 := h1 n { s with U := uDrop s.U n, L := L' } o rfl ⟨g1, g2, g3, .inl ⟨k, k1, k2, k3, k4⟩⟩ ⟨inv.freeS k1 hc hu.2 hp ho, hu.2, rfl, .inl ⟨k, k1, hc, rfl, rfl, rfl, hp, ho⟩⟩
        refine T_drop1 (by exact frmA : Frm _ (pt b0 (.cells [.int .i64 o.1, .int .i64 o.2].toArray 68)) _) ?_
        exact T.perm (by unfold da; ac_rfl) (Al_close (m := mm) (u := u) (f := f) h2)
      have push : T B (R * pt b0 (.cells [.int .i64 o.1, .int .i64 o.2].toArray 68) * LDx d (64 * g) s.c * Mg mm d g s.hs s.F * pt a (.cells [.pointer (some ⟨mm, 0, none⟩), .pointer (some ⟨d, 0, none⟩), .int .i64 g, .pointer (some ⟨u, 0, none⟩), .pointer (some ⟨f, 0, none⟩)].toArray 47) * Bm u (512 * g) (uDrop s.U n) * Fl f s.L) (c_free_Lists_Push (da f) k n fun x74 => kk x74) := by
        refine free_Push_c hL k1 (fun h => absurd h hnf) fun _ => ?_
        obtain ⟨p1, p2⟩ := accL_turn (L := s.L) (L' := setN s.L k (s.L k ++ [(n : Int)])) (m := 0) (by omega) k1 (fun i h1 _ => setN_ne _ _ h1) (l := [(n : Int)]) (l' := []) (by
          rw [setN_same, setN_ne _ _ (show ix 0 k ≠ k by unfold ix; omega), List.append_nil, List.append_assoc, List.append_assoc]
          exact List.Perm.append_left _ List.perm_append_comm)
        rw [List.append_nil] at p1
        exact fin _ (p1.symm.trans (List.perm_append_singleton _ _)) (fun j hj hjk => by rw [p2 j hj hjk])
      (repeat' (first | with_reducible refine T_nn ?_ | with_reducible refine T_brT ?_ | ((with_reducible apply T_ldP); (focus rfl); (focus exact hasA); (focus rfl)) | with_reducible refine T_brD (fun _ => ?_) (fun _ => ?_)))
      · refine T.perm (by ac_rfl) push
      · refine T.perm (by ac_rfl) push
      · rename_i hm1 hm2
        obtain ⟨m0, rfl⟩ := Int.eq_ofNat_of_zero_le (show 0 ≤ m by omega)
        refine T_bring (X := Fl f s.L) (by exact frmA) ?_
        refine free_Put_c hL (by omega) k1 (fun h => absurd h hnf) fun _ L' ht hp => ?_
        obtain ⟨p1, p2⟩ := accL_turn (L := s.L) (L' := L') (by omega) k1 ht (l := [(n : Int)]) (l' := []) (by
          rw [List.append_nil]
          exact (List.perm_append_singleton _ _).trans hp.symm)
        rw [List.append_nil] at p1
        exact T.perm (by ac_rfl) (fin _ (p1.symm.trans (List.perm_append_singleton _ _)) (fun j hj hjk => by rw [p2 j hj hjk]))
    · obtain ⟨y, rfl, hb1, hb2, hb3⟩ := blockOf_nat g2
      rw [Int.toNat_natCast] at hu
      rw [hb1, Int.toNat_natCast] at k3
      have hyb : y = y / 512 * 512 := by
        rw [hb1] at k4
        unfold first at k4
        split at k4 <;> omega
      have hyb1 : 1 ≤ y / 512 := by omega
      rw [k2]
      (dsimp only [alloc_Allocator_Free, Zef0, Zef1, Zef2, Zef3, Zef4, Zef5, Zef6, Zef7, Zef8, Zef9, Zef10, Zef11, Zef12, Zef13, Zef14, Zef15, Zef16, Zef17, Zef18, Zef19])
      simp only [Bool.not_false]
      (repeat (first | with_reducible refine T_nn ?_ | with_reducible refine T_tick ?_ | with_reducible refine T_brT ?_ | ((with_reducible apply T_ldI); (focus rfl); (focus exact hasA); (focus rfl)) | ((with_reducible apply T_ldP); (focus rfl); (focus exact hasA); (focus rfl))))
      refine geom_BlockOf_c (by omega) (by omega) ?_
      rw [hb1]
      (repeat (first | with_reducible refine T_chk0 ?_ | ((with_reducible apply T_chk); (focus rfl); (focus exact hasA); (focus rfl))))
      refine T_bring (X := LDx d (64 * g) s.c) (by exact frmA) ?_
      refine T_bring (X := Mg mm d g s.hs s.F) (by exact frmA) ?_
      refine bman_Release_c (nn := n) rfl hyb1 (.inr k3) fun F' tie' => ?_
      (repeat' (first | with_reducible refine T_nn ?_ | ((with_reducible apply T_ldP); (focus rfl); (focus exact hasA); (focus rfl)) | with_reducible refine T_brNE (fun _ => ?_) (fun _ => ?_)))
      · rename_i h; exact absurd rfl h
      refine T_bring (X := Bm u (512 * g) s.U) (by exact frmA) ?_
      refine bitmap_Drop_c (fun h => by rw [hhu] at h; cases h) (fun _ _ => ?_)
      rw [Int.toNat_natCast]
      have hinv := inv.freeL hyb1 k3
      rw [← hyb] at hinv
      have h2 := h1 y { s with hs := splice s.hs (y / 512) (List.replicate n (0, 0, 0)), F := F', c := wrH s.c (y / 512) (List.replicate n (0, 0, 0)), U := uDrop s.U y } o rfl ⟨g1, g2, g3, .inr ⟨k2, n, by rw [hb1, Int.toNat_natCast]; exact k3, k4, k5⟩⟩ ⟨hinv, hu.2, rfl, .inr ⟨y / 512, n, hyb, hyb1, k3, rfl, rfl, rfl⟩⟩
      refine T_drop1 (by exact frmA : Frm _ (pt b0 (.cells [.int .i64 o.1, .int .i64 o.2].toArray 68)) _) ?_
      exact T.perm (by unfold da; ac_rfl) (Al_close (m := mm) (u := u) (f := f) h2)
  · (repeat (first | (with_reducible refine T_al ?_; intro _) | ((with_reducible apply T_st); (focus rfl); (focus exact updA); (focus simp); simp only [List.set, Nat.zero_add, Nat.reduceAdd])))
    (dsimp only [alloc_Allocator_Free, Zef0, Zef1, Zef2, Zef3, Zef4, Zef5, Zef6, Zef7, Zef8, Zef9, Zef10, Zef11, Zef12, Zef13, Zef14, Zef15, Zef16, Zef17, Zef18, Zef19])
    simp only [Bool.not_false]
    (repeat (with_reducible refine T_brT ?_))
    refine T_drop1 .last ?_
    exact hM (.inl hno)
end
end
def Nxt (U : Nat → Bool) (lim : Nat) (a : Int) (r : Int × Bool) : Prop :=
  (r = (0, false) ∧ ∀ x : Nat, a ≤ x → U x = false) ∨ (∃ x : Nat, r = ((x : Int), true) ∧ a ≤ x ∧ x < lim ∧ U x = true ∧ ∀ y : Nat, a ≤ y → y < x → U y = false)
/-- the addresses of a set below one -/
def uBel (U : Nat → Bool) (n : Nat) : List Int := ((List.range n).filter fun x => U x).map fun (x : Nat) => (x : Int)
theorem uBel_skip {U : Nat → Bool} {a : Nat} : ∀ {n : Nat}, a ≤ n → (∀ y, a ≤ y → y < n → U y = false) → uBel U n = uBel U a := by
  intro n
  induction n with
  | zero => intro h _; have : a = 0 := by omega
            subst this; rfl
  | succ n ih =>
    intro h hy
    by_cases e : a = n + 1
    · rw [e]
    · rw [← ih (by omega) fun y h1 h2 => hy y h1 (by omega)]
      unfold uBel
      rw [List.range_succ, List.filter_append]
      simp [hy n (by omega) (by omega)]
theorem uBel_len {U : Nat → Bool} {n : Nat} : (uBel U n).length ≤ n := by
  unfold uBel
  rw [List.length_map]
  exact Nat.le_trans (List.length_filter_le _ _) (by simp)
theorem uBel_hit {U : Nat → Bool} {x : Nat} (h : U x = true) : uBel U (x + 1) = uBel U x ++ [(x : Int)] := by
  unfold uBel
  rw [List.range_succ, List.filter_append]
  simp [h]
section
variable {B : World} {P R : SL} {t : K}
theorem Bm_ok {s lim : Nat} {U : Nat → Bool} (h : lim ≤ 2 ^ 40 → (∀ x, lim ≤ x → U x = false) → T B (R * Bm s lim U) t) : T B (R * Bm s lim U) t :=
  Bm_open fun q ws m ok => Bm_close ok (h ok.big ok.off)
theorem Next_N {s lim : Nat} {U : Nat → Bool} {a : Int} {k : Int × Bool → K} (h : ∀ r, Nxt U lim a r → T B (R * Bm s lim U) (k r)) : T B (R * Bm s lim U) (c_bitmap_Set_Next (da s) a k) :=
  bitmap_Next_c (fun hz => h _ (.inl ⟨rfl, hz⟩)) (fun x h1 h2 h3 h4 => h _ (.inr ⟨x, rfl, h1, h3, h2, h4⟩))
def okU (U : Nat → Bool) (lim : Nat) (pre : List Int) (x : Int) : Prop := ∃ n : Nat, x = n ∧ n < lim ∧ pre = uBel U n
theorem bitmap_All_1_c {l s lim bx : Nat} {U : Nat → Bool} {ty : TypeId} {I Z : List Int → SL} {J : SL} (hI : ∀ pre, I pre = Z pre * Bm s lim U) (hb : ∀ pre, Has (I pre) bx (.cells [.pointer (da s)].toArray ty))
    (hy : Yld B Tryz.prog l (fun x : Int => #[.int .i64 x]) (okU U lim) I J) {kk : Unit → K} (h1 : T B (I (uBel U lim)) (kk ())) (h0 : T B J (kk ())) : T B (I []) (c_bitmap_Set_All_1 ⟨.yield l, #[], #[]⟩ ⟨bx, 0, none⟩ kk) := by
  refine T_of (bitmap_Set_All_1_ok _ _ kk) ?_
  have hnext : ∀ (pre : List Int) (a : Int) (k : Int × Bool → K), (∀ r, lim ≤ 2 ^ 40 → Nxt U lim a r → T B (I pre) (k r)) → T B (I pre) (ldP ⟨bx, 0, none⟩ fun x => c_bitmap_Set_Next x a k) := by
    intro pre a k h
    refine T_ldP (n := da s) rfl (hb pre) rfl ?_
    rw [hI]
    refine Bm_ok fun hlim _ => Next_N fun r hr => ?_
    have := h r hlim hr
    rw [hI] at this
    exact this
  refine hnext [] 0 _ fun r hlim hr => ?_
  refine T_lpX (fun m _ => I (uBel U (lim - m))) (fun m (z : Int × Bool × Unit) => m ≤ lim ∧ Nxt U lim ((lim - m : Nat) : Int) (z.1, z.2.1)) lim (by rw [Nat.sub_self]; rfl) ⟨Nat.le_refl _, by rw [Nat.sub_self]; exact hr⟩ ?_
  rintro m ⟨z1, z2, u⟩ c ⟨hm, hz⟩ hc
  rcases hz with ⟨e, hz⟩ | ⟨x, e, g1, g2, g3, g4⟩
  · obtain ⟨rfl, rfl⟩ := Prod.mk.inj e
    refine T_brF ?_
    rw [← uBel_skip (a := lim - m) (n := lim) (by omega) fun y h1 h2 => hz y (by omega)]
    exact h1
  · obtain ⟨rfl, rfl⟩ := Prod.mk.inj e
    refine T_brT ?_
    rw [← uBel_skip (a := lim - m) (n := x) (by omega) fun y h1 h2 => g4 y (by omega) (by omega)]
    refine T_yield (x := (x : Int)) hy ⟨x, rfl, g2, rfl⟩ ?_ ?_
    · refine T_brF ?_
      (dsimp only [bitmap_Set_All_1, Zdo0, Zdo1, Zdo2, Zdo3, Zdo4, Zdo5])
      rw [w64 (n := (x : Int) + 1) (by omega) (by omega), ← uBel_hit g3]
      refine hnext _ _ _ fun r _ hr => ?_
      have e1 : lim - (lim - (x + 1)) = x + 1 := by omega
      have := hc (lim - (x + 1)) (r.1, r.2, ()) (by omega) ⟨by omega, by rw [e1]; exact hr⟩
      rw [e1] at this
      exact this
    · exact T_brT h0
theorem bitmap_All_c {s : Nat} {k : Fv → K} (hk : ∀ bx, T B (R * pt bx (.cells [.pointer (da s)].toArray 44)) (k ⟨.func 188, #[], #[.pointer (some ⟨bx, 0, none⟩)]⟩)) : T B R (c_bitmap_Set_All (da s) k) := by
  refine T_of (bitmap_Set_All_ok _ k) ?_
  (repeat ((with_reducible refine T_al ?_; intro _)))
  exact hk _
end
section
set_option maxRecDepth 100000
abbrev bitmap_Set_List_b (ao : Addr) (x : Int) (kN : K) (kR : K) : K :=
  ldS ao fun x8 =>
  alK (.cells #[.int .i64 x] 3) fun b =>
  semT Tryz.prog (Builtin.append_ #[27, 27] 27 #[x8.v, .slice (some ⟨b, 0, none⟩) 1 1]) (.one (.sc (.slice))) fun x11 =>
  stK (ao.add 0) (x11.v) <|
  kN
theorem bitmap_Set_List_b_ok (ao : Addr) (x : Int) (kN : K) (kR : K) : RefK Tryz.prog 13 (rfBody Tryz.f67) [(4, .int .i64 x), (3, .pointer (some ao))] (bitmap_Set_List_b ao x kN kR) (rfQ kN kR) :=
  Qb Qz
abbrev Zet0 (ar : Addr) (ak : Addr) (kN : K) (x14 : Addr) : K :=
  tick fun _ =>
  ldP ar fun x65 =>
  ldI .i64 (x14.add 0) fun x66_0 =>
  ldI .i64 (x14.add 1) fun x66_1 =>
  ldI .i64 ak fun x67 =>
  c_class_Words x67 fun x68 =>
  chk [.cell (x14.add 0) (.int .i64 x66_0), .cell (x14.add 1) (.int .i64 x66_1), .cell ar (.pointer x65)] fun _ =>
  c_check_Report_add x65 (x66_0, x66_1) x68 fun x69 =>
  kN
abbrev Zet1 (r0 : Addr) (r1 : Addr) (x : Int) (kR : K) : K :=
  stK (r0.add 0) (.int .i64 x) <|
  stK (r1.add 0) (.int .i64 22) <|
  kR
abbrev Zet2 (ar : Addr) (ak : Addr) (r0 : Addr) (r1 : Addr) (x : Int) (kN : K) (kR : K) (x14 : Addr) (x63 : Bool) : K :=
  brK x63
  (Zet1 r0 r1 x kR)
  (Zet0 ar ak kN x14)
abbrev Zet3 (ar : Addr) (ak : Addr) (r0 : Addr) (r1 : Addr) (x : Int) (kN : K) (kR : K) (x14 : Addr) (x15 : Bool) : K :=
  Zet2 ar ak r0 r1 x kN kR x14 (!x15)
abbrev Zet4 (ar : Addr) (aa : Addr) (ak : Addr) (r0 : Addr) (r1 : Addr) (x : Int) (kN : K) (kR : K) : K :=
  ldP aa fun x57 =>
  c_alloc_Allocator_Place x57 x fun x59 =>
  alK (.cells #[.int .i64 0, .int .i64 0] 68) fun b =>
  stK (Addr.add ⟨b, 0, none⟩ 0) (.int .i64 x59.1.1) <|
  stK (Addr.add ⟨b, 0, none⟩ 1) (.int .i64 x59.1.2) <|
  Zet3 ar ak r0 r1 x kN kR ⟨b, 0, none⟩ x59.2
abbrev Zet5 (ar : Addr) (kN : K) : K :=
  ldP ar fun x49 =>
  nn x49 fun x50 =>
  ldI .i64 (x50.add 5) fun x52 =>
  nn x49 fun x54 =>
  stK (Addr.add (x54.add 5) 0) (.int .i64 (IntKind.wrap .i64 (x52 + 1))) <|
  kN
abbrev Zet6 (ar : Addr) (aa : Addr) (ak : Addr) (r0 : Addr) (r1 : Addr) (x : Int) (kN : K) (kR : K) (x46 : Bool) : K :=
  brK x46
  (Zet5 ar kN)
  (Zet4 ar aa ak r0 r1 x kN kR)
abbrev Zet7 (r0 : Addr) (r1 : Addr) (x : Int) (kR : K) : K :=
  stK (r0.add 0) (.int .i64 x) <|
  stK (r1.add 0) (.int .i64 42) <|
  kR
abbrev Zet8 (ar : Addr) (aa : Addr) (ak : Addr) (r0 : Addr) (r1 : Addr) (x : Int) (kN : K) (kR : K) (x13 : Bool) (x36 : Bool) : K :=
  brK x36
  (Zet7 r0 r1 x kR)
  (Zet6 ar aa ak r0 r1 x kN kR (!x13))
abbrev Zet9 (r0 : Addr) (r1 : Addr) (x : Int) (kR : K) : K :=
  stK (r0.add 0) (.int .i64 x) <|
  stK (r1.add 0) (.int .i64 41) <|
  kR
abbrev Zet10 (ar : Addr) (aa : Addr) (am : Addr) (ak : Addr) (r0 : Addr) (r1 : Addr) (x : Int) (kN : K) (kR : K) (x13 : Bool) : K :=
  brK (!x13)
  (ldM am fun x40 =>
  lkE Tryz.prog 3 (.bool false) (.sc (.bool)) x40 (.int .i64 x) fun r ob x42 ok =>
  Zet8 ar aa ak r0 r1 x kN kR x13 (!x42))
  (Zet8 ar aa ak r0 r1 x kN kR x13 false)
abbrev Zet11 (ar : Addr) (aa : Addr) (am : Addr) (ak : Addr) (r0 : Addr) (r1 : Addr) (x : Int) (kN : K) (kR : K) (x13 : Bool) (x28 : Bool) : K :=
  brK x28
  (Zet9 r0 r1 x kR)
  (Zet10 ar aa am ak r0 r1 x kN kR x13)
abbrev Zet12 (ar : Addr) (aa : Addr) (am : Addr) (ak : Addr) (r0 : Addr) (r1 : Addr) (x : Int) (kN : K) (kR : K) (x13 : Bool) : K :=
  brK x13
  (ldM am fun x31 =>
  lkE Tryz.prog 3 (.bool false) (.sc (.bool)) x31 (.int .i64 x) fun r_1 ob_1 x33 ok_1 =>
  Zet11 ar aa am ak r0 r1 x kN kR x13 x33)
  (Zet11 ar aa am ak r0 r1 x kN kR x13 false)
abbrev check_Report_block_b (ar : Addr) (aa : Addr) (am : Addr) (ak : Addr) (r0 : Addr) (r1 : Addr) (x : Int) (kN : K) (kR : K) : K :=
  ldP aa fun x25 =>
  c_alloc_Allocator_Used x25 x fun x27 =>
  Zet12 ar aa am ak r0 r1 x kN kR x27
theorem check_Report_block_b_ok (ar : Addr) (aa : Addr) (am : Addr) (ak : Addr) (r0 : Addr) (r1 : Addr) (x : Int) (kN : K) (kR : K) : RefK Tryz.prog 86 (rfBody Tryz.f168) [(12, .int .i64 x), (5, .pointer (some ar)), (6, .pointer (some aa)), (7, .pointer (some am)), (9, .pointer (some ak)), (10, .pointer (some r0)), (11, .pointer (some r1))] (check_Report_block_b ar aa am ak r0 r1 x kN kR) (rfQ kN kR) :=
  Qb (Qs [(13, .bool)] [5, 6, 7, 9, 10, 11, 12] (fun z_ => Zet12 ar aa am ak r0 r1 x kN kR z_.1)
  Qz
  (fun ⟨x13, _⟩ => Qs [] [5, 6, 9, 10, 11, 12] (fun z_ => Zet4 ar aa ak r0 r1 x kN kR)
  (Qb (Qs [(28, .bool)] [5, 6, 7, 9, 10, 11, 12, 13] (fun z_ => Zet11 ar aa am ak r0 r1 x kN kR x13 z_.1)
  (Qp [1])
  (fun ⟨x28, _⟩ => Qc (x28) (Zet9 r0 r1 x kR) (Zet10 ar aa am ak r0 r1 x kN kR x13) (Qs [] [] (fun z_ => kR)
  Qz
  (fun _ => Qr)) (Qs [(36, .bool)] [5, 6, 9, 10, 11, 12, 13] (fun z_ => Zet8 ar aa ak r0 r1 x kN kR x13 z_.1)
  (Qp [2])
  (fun ⟨x36, _⟩ => Qc (x36) (Zet7 r0 r1 x kR) (Zet6 ar aa ak r0 r1 x kN kR (!x13)) (Qs [] [] (fun z_ => kR)
  Qz
  (fun _ => Qr)) (Qs [(46, .bool)] [5, 6, 9, 10, 11, 12] (fun z_ => Zet6 ar aa ak r0 r1 x kN kR z_.1)
  Qz
  (fun ⟨x46, _⟩ => Qc (x46) (Zet5 ar kN) (Zet4 ar aa ak r0 r1 x kN kR) (Qs [] [] (fun z_ => kN)
  Qz
  (fun _ => Qx)) Qk)))))))
  (fun _ => Qs [(14, .addr), (15, .bool)] [5, 9, 10, 11, 12] (fun z_ => Zet3 ar ak r0 r1 x kN kR z_.1 z_.2.1)
  Qz
  (fun ⟨x14, x15, _⟩ => Qs [] [5, 9, 14] (fun z_ => Zet0 ar ak kN x14)
  (Qs [(63, .bool)] [5, 9, 10, 11, 12, 14] (fun z_ => Zet2 ar ak r0 r1 x kN kR x14 z_.1)
  Qz
  (fun ⟨x63, _⟩ => Qc (x63) (Zet1 r0 r1 x kR) (Zet0 ar ak kN x14) (Qs [] [] (fun z_ => kR)
  Qz
  (fun _ => Qr)) Qk))
  (fun _ => RefK.draw [] [0, 0, 0, 4, 15] [0, 1, 2, 3, 4] [0, 1, 2, 3, 4] (by kernel_rfl) (by kernel_rfl))))))
end
section
set_option maxRecDepth 100000
set_option maxHeartbeats 2000000
theorem agree0 {n : Nat} {args : Array Value} (h : args.size ≤ n) : Agree [] n (argE 0 args.toList) { tmps := args ++ Array.replicate (n - args.size) undef, defers := [] } := by
  refine ⟨rfl, by simp; omega, fun t v hg => ?_⟩
  obtain ⟨h1, h2⟩ := argE_get hg
  simp only [Nat.sub_zero, Array.getElem?_toList] at h2
  have hlt : t < args.size := (Array.getElem?_eq_some_iff.1 h2).1
  have h3 := (Array.getElem?_eq_some_iff.1 h2).2
  simp [Array.getElem?_append, hlt, h3]
section
variable {B : World} {P R : SL} {t : K}
theorem bitmap_List_c {s lim : Nat} {U : Nat → Bool} {k : Sl → K} (hk : ∀ out, T B (R * Bm s lim U * vec 3 1 out (ints (uBel U lim))) (k out)) : T B (R * Bm s lim U) (c_bitmap_Set_List (da s) k) := by
  refine Bm_ok fun hlim hoff => ?_
  intro w hw
  refine (callsIn_wide (n := 9)).1 (callsIn_of_wp_marks Tryz.func67 rfl trivial ?_ rfl)
  refine rk_seq [] [0] (t := fun w => Sat B (R * Bm s lim U) w) (fun _ w => Sat B (R * Bm s lim U) w) (RefK.plain [] (by kernel_rfl)) (agree0 (n := 13) (args := #[.pointer (da s)]) (by simp)) hw (by kernel_rfl) fun _ a1 w1 ha1 hw1 => ?_
  refine rk_seq [(3, .addr)] [0] (t := alK (.cells #[.slice none 0 0] 27) fun b w => (∃ bo, (⟨b, 0, none⟩ : Addr) = ⟨bo, 0, none⟩ ∧ Sat B (R * Bm s lim U * pt bo (.cells [nilS.v].toArray 27)) w)) (fun z w => ∃ bo, z.1 = ⟨bo, 0, none⟩ ∧ Sat B (R * Bm s lim U * pt bo (.cells [nilS.v].toArray 27)) w) (RefK.plain [] (by kernel_rfl)) ha1
    (T_al (fun b w hw => ⟨b, rfl, hw⟩) w1 hw1) (by kernel_rfl) ?_
  rintro ⟨z, u⟩ a2 w2 ha2 ⟨bo, rfl, hw2⟩
  refine wpIn_seq ?_
  refine rk_seq [(6, .func)] [3] (t := c_bitmap_Set_All (da s) fun f w => (∃ bx, f = ⟨.func 188, #[], #[.pointer (some ⟨bx, 0, none⟩)]⟩ ∧ Sat B (R * Bm s lim U * pt bo (.cells [nilS.v].toArray 27) * pt bx (.cells [.pointer (da s)].toArray 44)) w))
    (fun z w => ∃ bx, z.1 = ⟨.func 188, #[], #[.pointer (some ⟨bx, 0, none⟩)]⟩ ∧ Sat B (R * Bm s lim U * pt bo (.cells [nilS.v].toArray 27) * pt bx (.cells [.pointer (da s)].toArray 44)) w) (RefK.plain [] (by kernel_rfl)) ha2
    (bitmap_All_c (fun bx w hw => ⟨bx, rfl, hw⟩) w2 hw2) (by kernel_rfl) ?_
  rintro ⟨z, u⟩ a3 w3 ha3 ⟨bx, rfl, hw3⟩
  refine wpIn_block ?_
  have eg : ∀ args w, (callFunc 188 args).run Tryz.prog w = .ok (.enter 188 args) w := fun args w => callable_run (by kernel_rfl) args w
  refine wp_rangeF (B := B) (n := 9) (β := Int) (by omega) (ha3.rho (x := .tmp 6) (by kernel_rfl)) eg (fun x => #[.int .i64 x]) (fun _ => rfl) (okU U lim)
    (fun pre => (ex fun out : Sl => R * pt bx (.cells [.pointer (da s)].toArray 44) * pt bo (.cells [out.v].toArray 27) * vec 3 1 out (ints pre)) * Bm s lim U) (pu False) (uBel U lim) ?start
    (fun x a => Agree [] 13 [(4, .int .i64 x), (3, .pointer (some ⟨bo, 0, none⟩))] a) ?seq ?assign ?body ?done ?ret
  case start =>
    rw [ex_sep]
    refine ex_sat nilS ?_
    exact (vec_none (s := nilS) (E := 3) (sz := 1) rfl rfl hw3).perm (by ac_rfl)
  case seq =>
    intro l X X' hy W hW
    have hT := bitmap_All_1_c (kk := fun _ w' => Sat B (((ex fun out : Sl => R * pt bx (.cells [.pointer (da s)].toArray 44) * pt bo (.cells [out.v].toArray 27) * vec 3 1 out (ints (uBel U lim))) * Bm s lim U) * X) w' ∨ Sat B (pu False * X') w')
      (Z := fun pre => (ex fun out : Sl => R * pt bx (.cells [.pointer (da s)].toArray 44) * pt bo (.cells [out.v].toArray 27) * vec 3 1 out (ints pre)) * X) (bx := bx) (ty := 44) (fun pre => by ac_rfl) (fun pre => ?_) hy (fun w h => .inl h) (fun w h => .inr h) W hW
    · refine callsIn_wide.2 (Calls.mono hT ?_)
      rintro e W' ⟨x, rfl, h⟩
      exact ⟨⟨_, rfl⟩, h⟩
    · intro h hh
      rw [ex_sep, ex_sep] at hh
      obtain ⟨out, hh⟩ := hh
      exact (show Has _ bx _ by exact hasA) h hh
  case assign =>
    intro m l x W K hK
    exact rk_assign (p := 7) (v := .int .i64 x) [(4, .int .i64)] [3] (x, ()) ha3 (by decide) (RefK.plain [] (by kernel_rfl)) (by kernel_rfl) (fun a' ha' => hK a' ha') (by simp)
  case body =>
    intro m l pre x W X a' ha' hx hs
    rw [ex_sep, ex_sep] at hs
    obtain ⟨out, hs⟩ := sat_ex hs
    have hlen : pre.length + 1 ≤ 2 ^ 40 := by
      obtain ⟨n, _, h1, rfl⟩ := hx
      have := @uBel_len U n
      omega
    have hT : T B (R * pt bx (.cells [.pointer (da s)].toArray 44) * pt bo (.cells [out.v].toArray 27) * Bm s lim U * X * vec 3 1 out (ints pre))
        (bitmap_Set_List_b ⟨bo, 0, none⟩ x (fun w => Sat B (((ex fun out : Sl => R * pt bx (.cells [.pointer (da s)].toArray 44) * pt bo (.cells [out.v].toArray 27) * vec 3 1 out (ints (pre ++ [x]))) * Bm s lim U) * X) w) kF) := by
      (repeat (first | ((with_reducible apply T_ldS); (focus rfl); (focus exact hasA); (focus rfl)) | (with_reducible refine T_al ?_; intro _)))
      refine T_app1b (new := [Value.int .i64 x]) kd_int rfl rfl (by rw [ints_len]; omega) fun s' => ?_
      (repeat (((with_reducible apply T_st); (focus rfl); (focus exact updA); (focus simp); simp only [List.set, Nat.zero_add, Nat.reduceAdd])))
      intro w hw
      rw [ex_sep, ex_sep]
      refine ex_sat s' (hw.perm ?_)
      rw [show ints pre ++ [Value.int .i64 x] = ints (pre ++ [x]) by simp [ints]]
      ac_rfl
    exact bitmap_Set_List_b_ok ⟨bo, 0, none⟩ x _ _ (some l) m [] _ a' W (ha'.sub fun t v h => h) (hT W (hs.perm (by ac_rfl))) fun e E' a'' w' _ _ h => by
      cases e <;> first | exact .inl ⟨rfl, h⟩ | exact h.elim
  case done =>
    intro D W hs
    rw [ex_sep, ex_sep] at hs
    obtain ⟨out, hs⟩ := sat_ex hs
    have haD : Agree [{ target := .collected D, args := #[] }] 13 [(3, .pointer (some ⟨bo, 0, none⟩))] { a3 with defers := { target := .collected D, args := #[] } :: a3.defers } := ⟨by rw [ha3.1], ha3.2.1, fun t v h => ha3.2.2 t v (by
      simp only [Env.get] at h
      cases hb : Nat.beq 3 t with
      | true => rw [hb] at h; obtain rfl := beqS hb; exact h
      | false => rw [hb] at h; cases h)⟩
    have hT : T B (R * pt bx (.cells [.pointer (da s)].toArray 44) * pt bo (.cells [out.v].toArray 27) * Bm s lim U * vec 3 1 out (ints (uBel U lim)) * pt D (.deferred (some [])))
        (ldS ⟨bo, 0, none⟩ fun z w => z = out ∧ Sat B (R * Bm s lim U * vec 3 1 out (ints (uBel U lim)) * (pt bx (.cells [.pointer (da s)].toArray 44) * pt bo (.cells [out.v].toArray 27)) * pt D (.deferred (some []))) w) := by
      (repeat (((with_reducible apply T_ldS); (focus rfl); (focus exact hasA); (focus rfl))))
      intro w hw
      exact ⟨rfl, hw.perm (by ac_rfl)⟩
    refine rk_seq [(2, .slice)] [] (t := ldS ⟨bo, 0, none⟩ fun z w => z = out ∧ Sat B (R * Bm s lim U * vec 3 1 out (ints (uBel U lim)) * (pt bx (.cells [.pointer (da s)].toArray 44) * pt bo (.cells [out.v].toArray 27)) * pt D (.deferred (some []))) w)
      (fun z w => z.1 = out ∧ Sat B (R * Bm s lim U * vec 3 1 out (ints (uBel U lim)) * (pt bx (.cells [.pointer (da s)].toArray 44) * pt bo (.cells [out.v].toArray 27)) * pt D (.deferred (some []))) w) (RefK.plain [] (by kernel_rfl)) haD (hT W (hs.perm (by ac_rfl))) (by kernel_rfl) ?_
    rintro ⟨z, u⟩ a4 w4 ha4 ⟨rfl, hw4⟩
    refine wpIn_ret ?_
    refine leave_T (r := .one (.sc .slice)) ha4 hw4 ?_
    exact (show T B _ (k z) from (hk z).weak)
  case ret =>
    intro D W hs
    obtain ⟨⟨g, ⟨p, q, hp, _⟩, _⟩, _⟩ := hs
    exact hp.1.elim
end
end
section
set_option maxHeartbeats 1000000
def hs0 (g : Nat) : List Hd := List.replicate g (0, 0, 0)
theorem hd_hs0 (g b : Nat) : hd (hs0 g) b = (0, 0, 0) := by
  unfold hd hs0
  rw [List.getD_eq_getElem?_getD, List.getElem?_replicate]; split <;> rfl
theorem Inv.begun {g : Nat} (h1 : 2 ≤ g) (h2 : g ≤ 2 ^ 20) : Inv g (hs0 g) (fun _ => false) (fun _ => []) := by
  have hno : ∀ k x, ¬ SmCell g (hs0 g) k x := by
    rintro k x ⟨b, i, _, _, h3, _⟩
    rw [hd_hs0] at h3; simp at h3
  refine ⟨by simp [hs0], h1, h2, fun x hx => ?_, hd_hs0 g 0, fun b hb => ?_, fun b hb => ?_, fun x hx => (by cases hx), ⟨fun k _ => ?_, fun k _ y => ?_⟩⟩
  · rw [List.eq_of_mem_replicate hx]; exact .inl rfl
  · rw [hd_hs0] at hb; simp at hb
  · rw [hd_hs0] at hb; simp at hb
  · simp [accL]
  · simp only [accL, List.append_nil, List.not_mem_nil, false_iff]
    rintro ⟨x, _, h3, _⟩
    exact hno k x h3
section
variable {B : World} {P R : SL} {t : K}
theorem alloc_New_c {d m g : Nat} {c : List Int} {F : RF} (h1 : 2 ≤ g) (h2 : g ≤ 2 ^ 20) {kk : Option Addr × Int → K}
    (hk : ∀ a, T B (R * Al a d g ⟨hs0 g, F, c, fun _ => false, fun _ => []⟩) (kk (da a, 0))) : T B (R * LDx d (64 * g) c * Mg m d g (hs0 g) F) (c_alloc_New (da d) (da m) ⟨none, 0, 0⟩ kk) := by
  refine T_of (alloc_New_ok _ _ _ kk) ?_
  refine bman_Geometry_c ?_
  refine T_bring (X := LDx d (64 * g) c) (.init .last) ?_
  refine LDx_open fun la hla => ?_
  refine LLen_c fun hl hn => ?_
  refine LDx_close hla ?_
  have e1 : ((8 * (64 * g) : Nat) : Int) = ((512 * g : Nat) : Int) := by omega
  rw [e1]
  refine bitmap_New_c (by omega) fun u => ?_
  refine free_New_c fun f => ?_
  (repeat ((with_reducible refine T_al ?_; intro _)))
  rename_i a
  (dsimp only [alloc_New, Zeq0, Zeq1, Zeq2, Zeq3, Zeq4, Zeq5, Zeq6, Zeq7, Zeq8, Zeq9, Zeq10, Zeq11, Zeq12, Zeq13, Zeq14, Zeq15, Zeq16, Zeq17, Zeq18, Zeq19, Zeq20])
  have cl : ∀ t, T B (R * Al a d g ⟨hs0 g, F, c, fun _ => false, fun _ => []⟩) t → T B (R * Mg m d g (hs0 g) F * LDx d (64 * g) c * Bm u (512 * g) (fun _ => false) * Fl f (fun _ => []) * pt a (.cells [.pointer (da m), .pointer (da d), .int .i64 g, .pointer (da u), .pointer (da f)].toArray 47)) t :=
    fun t h => T.perm (by ac_rfl) (Al_close (a := a) (m := m) (u := u) (f := f) (d := d) (g := g) (R := R) (s := ⟨hs0 g, F, c, fun _ => false, fun _ => []⟩) h)
  have hk := cl _ (hk a)
  clear cl
  generalize hX : R * Mg m d g (hs0 g) F * LDx d (64 * g) c * Bm u (512 * g) (fun _ => false) * Fl f (fun _ => []) * pt a (.cells [.pointer (da m), .pointer (da d), .int .i64 g, .pointer (da u), .pointer (da f)].toArray 47) = X at *
  refine T_lpX (fun _ _ => X) (fun n (z : Int × Unit) => z.1 = 0 ∧ n = 0) 0 rfl ⟨rfl, rfl⟩ ?_
  rintro n ⟨z, uu⟩ cc ⟨e, rfl⟩ hc
  simp only at e
  subst e
  clear hc
  (repeat' (with_reducible refine T_brD (fun _ => ?_) (fun _ => ?_)))
  · rename_i h; simp at h
  refine T_lpX (fun _ _ => X) (fun n (z : Int × Unit) => ∃ i : Nat, z.1 = i ∧ 1 ≤ i ∧ n = g - i) (g - 1) rfl ⟨1, rfl, by omega, rfl⟩ ?_
  rintro n ⟨z, uu⟩ cc ⟨i, e1, e2, e3⟩ hc
  simp only at e1
  subst e1 e3
  have hnx := hc (g - (i + 1)) (IntKind.wrap .i64 ((i : Int) + 1), ())
  clear hc
  subst hX
  refine T_bring (X := Mg m d g (hs0 g) F) (by exact frmA) ?_
  refine Mg_open fun tt x tie => ?_
  unfold da
  (repeat (first | with_reducible refine T_nn ?_ | ((with_reducible apply T_ldP); (focus rfl); (focus exact hasA); (focus rfl))))
  refine T_bring (X := Tab tt d g (hs0 g)) (by exact frmA) ?_
  refine blocks_Len_c ?_
  have hlen : (hs0 g).length = g := by simp [hs0]
  rw [hlen]
  (repeat' (first | with_reducible refine T_nn ?_ | ((with_reducible apply T_ldP); (focus rfl); (focus exact hasA); (focus rfl)) | with_reducible refine T_brD (fun _ => ?_) (fun _ => ?_)))
  · rename_i hlt
    refine blocks_Get_c ?_
    rw [if_neg (by omega), Int.toNat_natCast, show (hs0 g).getD i (0, 0, 0) = (0, 0, 0) from hd_hs0 g i]
    (repeat' (first | ((with_reducible apply T_ldI); (focus rfl); (focus exact hasA); (focus rfl)) | (with_reducible refine T_al ?_; intro _) | ((with_reducible apply T_st); (focus rfl); (focus exact updA); (focus simp); simp only [List.set, Nat.zero_add, Nat.reduceAdd]) | with_reducible refine T_brE (fun _ => ?_) (fun _ => ?_)))
    · rename_i h; exact absurd h (by decide)
    rename_i b hne
    by_cases hb : i < g
    · have := hnx (by omega) ⟨i + 1, w64 (by omega) (by omega), by omega, rfl⟩
      refine T_drop1 .last ?_
      have h2 : T B (R * LDx d (64 * g) c * Bm u (512 * g) (fun _ => false) * Fl f (fun _ => []) * pt a (.cells [.pointer (da m), .pointer (da d), .int .i64 g, .pointer (da u), .pointer (da f)].toArray 47) * Mg m d g (hs0 g) F) (cc (IntKind.wrap .i64 ((i : Int) + 1), ())) := T.perm (by ac_rfl) this
      have h3 := Mg_close (a := tt) (x := x) tie h2
      exact T.perm (by unfold da; ac_rfl) h3
    · exfalso; omega
  · have h2 : T B (R * LDx d (64 * g) c * Bm u (512 * g) (fun _ => false) * Fl f (fun _ => []) * pt a (.cells [.pointer (da m), .pointer (da d), .int .i64 g, .pointer (da u), .pointer (da f)].toArray 47) * Mg m d g (hs0 g) F) (kk (da a, 0)) := T.perm (by ac_rfl) hk
    have h3 := Mg_close (a := tt) (x := x) tie h2
    exact T.perm (by unfold da; ac_rfl) h3
theorem Objects_c {a d g : Nat} {s : St} {kk : Sl → K} (hk : ∀ sl, T B (R * Al a d g s * vec 3 1 sl (ints (uBel s.U (512 * g)))) (kk sl)) : T B (R * Al a d g s) (c_alloc_Allocator_Objects (da a) kk) := by
  refine T_of (alloc_Allocator_Objects_ok _ kk) ?_
  refine Al_open fun m u f => ?_
  unfold da
  (repeat (first | with_reducible refine T_nn ?_ | ((with_reducible apply T_ldP); (focus rfl); (focus exact hasA); (focus rfl))))
  refine T_bring (X := Bm u (512 * g) s.U) (by exact frmA) ?_
  refine bitmap_List_c fun sl => ?_
  have h2 : T B (R * vec 3 1 sl (ints (uBel s.U (512 * g))) * Al a d g s) (kk sl) := T.perm (by ac_rfl) (hk sl)
  exact T.perm (by unfold da; ac_rfl) (Al_close (m := m) (u := u) (f := f) h2)
theorem FreeCells_c {a d g k : Nat} {s : St} (inv : Inv g s.hs s.U s.L) (hk2 : k < 32) {kk : Sl → K} (hk : ∀ sl, T B (R * Al a d g s * vec 3 1 sl (ints (sortI (accL s.L k 4)))) (kk sl)) : T B (R * Al a d g s) (c_alloc_Allocator_FreeCells (da a) k kk) := by
  refine T_of (alloc_Allocator_FreeCells_ok _ k kk) ?_
  refine Al_open fun m u f => ?_
  unfold da
  (repeat (first | with_reducible refine T_nn ?_ | ((with_reducible apply T_ldP); (focus rfl); (focus exact hasA); (focus rfl))))
  refine T_bring (X := Fl f s.L) (by exact frmA) ?_
  refine free_List_c (fun i hi => by have := inv.free.lens inv.big i hi; omega) hk2 fun sl => ?_
  have h2 : T B (R * vec 3 1 sl (ints (sortI (accL s.L k 4))) * Al a d g s) (kk sl) := T.perm (by ac_rfl) (hk sl)
  exact T.perm (by unfold da; ac_rfl) (Al_close (m := m) (u := u) (f := f) h2)
theorem bman_Runs_c {m d g : Nat} {hs : List Hd} {F : RF} {k : Sl → K} (hk : ∀ s l, Cov F l → l.Pairwise (fun p q => p.1 ≤ q.1) → T B (R * Mg m d g hs F * vec 152 2 s (prs l)) (k s)) : T B (R * Mg m d g hs F) (c_bman_Manager_Runs (da m) k) := by
  refine T_of (bman_Manager_Runs_ok _ k) ?_
  refine Mg_open fun a x ok => ?_
  unfold da
  (repeat (first | with_reducible refine T_nn ?_ | ((with_reducible apply T_ldP); (focus rfl); (focus exact hasA); (focus rfl))))
  refine T_bring (X := Idx x g F) (.init .last) ?_
  refine runs_List_c ok.ok fun sl l hc hso => ?_
  have h2 : T B (R * vec 152 2 sl (prs l) * Mg m d g hs F) (k sl) := T.perm (by ac_rfl) (hk sl l hc hso)
  exact T.perm (by unfold da; ac_rfl) (Mg_close (a := a) (x := x) ok h2)
end
end
section
set_option maxHeartbeats 1000000
def sumD (b : Int) : List (Int × Int) → Int | [] => 0 | p :: l => p.2 / b + sumD b l
theorem sumI_perm {l l' : List (Int × Int)} (h : l.Perm l') : sumI l = sumI l' := by
  induction h with
  | nil => rfl
  | cons x _ ih => simp only [sumI, ih]
  | swap x y l => simp only [sumI]; omega
  | trans _ _ h1 h2 => exact h1.trans h2
theorem sumD_perm {b : Int} {l l' : List (Int × Int)} (h : l.Perm l') : sumD b l = sumD b l' := by
  induction h with
  | nil => rfl
  | cons x _ ih => simp only [sumD, ih]
  | swap x y l => simp only [sumD]; omega
  | trans _ _ h1 h2 => exact h1.trans h2
theorem Cov.nodup {F : RF} {l : List (Int × Int)} (h : Cov F l) : l.Nodup :=
  List.Pairwise.of_map (·.1) (fun a b h e => h (by rw [e])) h.1
theorem Cov.perm {F : RF} {l l' : List (Int × Int)} (h : Cov F l) (h' : Cov F l') : l.Perm l' :=
  (List.perm_ext_iff_of_nodup h.nodup h'.nodup).2 fun p => by
    obtain ⟨a, b⟩ := p
    rw [← h.2, ← h'.2]
theorem Cov.pick {F : RF} {l : List (Int × Int)} (h : Cov F l) {b q : Int} (hb : F b = some q) : ∃ r, l.Perm ((b, q) :: r) ∧ Cov (delF F b) r := by
  have hm := (h.2 b q).1 hb
  refine ⟨l.erase (b, q), List.perm_cons_erase hm, ?_, fun key v => ?_⟩
  · have hn := h.1
    rw [((List.perm_cons_erase hm).map (·.1)).nodup_iff] at hn
    simp only [List.map_cons, List.nodup_cons] at hn
    exact hn.2
  · unfold delF
    rw [List.Nodup.mem_erase_iff h.nodup, ← h.2]
    have hn := h.1
    rw [((List.perm_cons_erase hm).map (·.1)).nodup_iff] at hn
    simp only [List.map_cons, List.nodup_cons] at hn
    by_cases e : key = b
    · rw [if_pos e]
      constructor
      · intro h; cases h
      · rintro ⟨h1, h2⟩
        rw [e, hb] at h2
        simp only [Option.some.injEq] at h2
        exact absurd (by rw [e, h2]) h1
    · rw [if_neg e]
      constructor
      · intro hk; exact ⟨fun he => e (by simp only [Prod.mk.injEq] at he; exact he.1), hk⟩
      · exact fun h => h.2
/-- the runs behind a taking -/
theorem Cov.take {lim : Int} {F : RF} (ok : RunsOk lim F) {l l' : List (Int × Int)} {b n q : Int} (h : Cov F l) (hb : F b = some q) (hn : 1 ≤ n) (hq : n ≤ q) (h' : Cov (takeF F b n q) l') :
    sumI l' = sumI l - n ∧ sumD n l' = sumD n l - 1 := by
  obtain ⟨r, hp, hr⟩ := h.pick hb
  have hrng := ok.rng _ _ hb
  by_cases hlt : n < q
  · have hcov : Cov (takeF F b n q) ((b + n, q - n) :: r) := by
      have hnot : (b + n) ∉ r.map (·.1) := by
        intro hm
        obtain ⟨p, hp2, he⟩ := List.mem_map.1 hm
        have h2 := (hr.2 p.1 p.2).2 hp2
        obtain ⟨_, h3⟩ := delF_some h2
        rw [he] at h3
        have := ok.sep _ _ _ _ hb h3 (by omega)
        omega
      refine ⟨by rw [List.map_cons, List.nodup_cons]; exact ⟨hnot, hr.1⟩, fun key v => ?_⟩
      unfold takeF
      rw [if_pos hlt]
      unfold updF
      rw [List.mem_cons]
      by_cases e : key = b + n
      · rw [if_pos e]
        constructor
        · intro h; left; simp only [Option.some.injEq] at h; rw [e, h]
        · rintro (h | h)
          · simp only [Prod.mk.injEq] at h; rw [h.2]
          · exact absurd (List.mem_map.2 ⟨_, h, e⟩) hnot
      · rw [if_neg e, hr.2]
        constructor
        · exact .inr
        · rintro (h | h)
          · simp only [Prod.mk.injEq] at h; exact absurd h.1 e
          · exact h
    have hp2 := h'.perm hcov
    rw [sumI_perm hp2, sumD_perm hp2, sumI_perm hp, sumD_perm hp]
    simp only [sumI, sumD]
    refine ⟨by omega, ?_⟩
    have : (q - n) / n = q / n - 1 := by
      rw [show q - n = q + (-1) * n by omega, Int.add_mul_ediv_right _ _ (by omega)]; omega
    omega
  · have hqn : q = n := by omega
    have hcov : Cov (takeF F b n q) r := by unfold takeF; rw [if_neg hlt]; exact hr
    have hp2 := h'.perm hcov
    rw [sumI_perm hp2, sumD_perm hp2, sumI_perm hp, sumD_perm hp]
    simp only [sumI, sumD, hqn]
    refine ⟨by omega, ?_⟩
    rw [Int.ediv_self (by omega)]; omega
/-- numbers of blocks -/
theorem countP_or {α : Type} {p q : α → Bool} : ∀ {l : List α}, (∀ x ∈ l, ¬ (p x = true ∧ q x = true)) → l.countP (fun x => p x || q x) = l.countP p + l.countP q := by
  intro l
  induction l with
  | nil => intro _; rfl
  | cons x l ih =>
    intro h
    have h1 := h x (by simp)
    have ih := ih fun y hy => h y (by simp [hy])
    rw [List.countP_cons, List.countP_cons, List.countP_cons, ih]
    cases hp : p x <;> cases hq : q x <;> simp_all <;> omega
theorem countP_rng {g s n : Nat} (h : s + n ≤ g) : (List.range g).countP (fun x => decide (s ≤ x ∧ x < s + n)) = n := by
  have key : ∀ g, (List.range g).countP (fun x => decide (s ≤ x ∧ x < s + n)) = min g (s + n) - min g s := by
    intro g
    induction g with
    | zero => simp
    | succ g ih =>
      rw [List.range_succ, List.countP_append, ih, List.countP_cons, List.countP_nil]
      by_cases h1 : s ≤ g ∧ g < s + n
      · rw [decide_eq_true h1]; simp; omega
      · rw [decide_eq_false h1]; simp; omega
  rw [key]; omega
theorem sumI_count {lim : Nat} {F : RF} (ok : RunsOk lim F) : ∀ {l : List (Int × Int)}, Sub F l → sumI l = ((List.range lim).countP (fun (x : Nat) => l.any fun p => decide (p.1 ≤ (x : Int) ∧ (x : Int) < p.1 + p.2)) : Nat) := by
  intro l
  induction l with
  | nil =>
    intro _
    simp [sumI, List.countP_eq_zero]
  | cons p l ih =>
    intro h
    have hn := h.nd
    rw [List.map_cons, List.nodup_cons] at hn
    have ih := ih ⟨hn.2, fun q hq => h.mem q (by simp [hq])⟩
    have hp := h.mem p (by simp)
    have hr := ok.rng _ _ hp
    simp only [List.any_cons]
    rw [countP_or]
    · simp only [sumI]
      obtain ⟨a, ha⟩ := Int.eq_ofNat_of_zero_le (show 0 ≤ p.1 by omega)
      obtain ⟨b, hb⟩ := Int.eq_ofNat_of_zero_le (show 0 ≤ p.2 by omega)
      have e1 : (List.range lim).countP (fun (x : Nat) => decide (p.1 ≤ (x : Int) ∧ (x : Int) < p.1 + p.2)) = b := by
        rw [← countP_rng (g := lim) (s := a) (n := b) (by omega)]
        congr 1; funext x
        rw [decide_eq_decide]; omega
      rw [e1, ih]; omega
    · rintro x _ ⟨h1, h2⟩
      simp only [decide_eq_true_eq, List.any_eq_true] at h1 h2
      obtain ⟨q, hq, h3, h4⟩ := h2
      have hq2 := h.mem q (by simp [hq])
      have hne : p.1 ≠ q.1 := fun e => hn.1 (List.mem_map.2 ⟨q, hq, e.symm⟩)
      rcases Int.lt_or_gt_of_ne hne with hh | hh
      · have := ok.sep _ _ _ _ hp hq2 hh; omega
      · have := ok.sep _ _ _ _ hq2 hp hh; omega
theorem Cov.sub {F : RF} {l : List (Int × Int)} (h : Cov F l) : Sub F l := ⟨h.1, fun p hp => (h.2 p.1 p.2).2 hp⟩
/-- free blocks, told by the headers -/
def nFree (hs : List Hd) (g : Nat) : Nat := (List.range g).countP fun x => decide (1 ≤ x ∧ (hd hs x).1 = 0)
theorem sumI_free {g : Nat} {hs : List Hd} {F : RF} (tie : Tie g hs F) {l : List (Int × Int)} (h : Cov F l) : sumI l = nFree hs g := by
  rw [sumI_count tie.ok h.sub]
  unfold nFree
  congr 1
  refine List.countP_congr fun x hx => ?_
  have hx := List.mem_range.1 hx
  have := tie.fr (x : Int)
  simp only [List.any_eq_true, decide_eq_true_eq, Int.toNat_natCast] at this ⊢
  constructor
  · rintro ⟨p, hp, h1, h2⟩
    have := this.1 ⟨p.1, p.2, (h.2 p.1 p.2).2 hp, h1, h2⟩
    exact ⟨by omega, this.2.2⟩
  · rintro ⟨h1, h2⟩
    obtain ⟨s, q, h3, h4, h5⟩ := this.2 ⟨by omega, by omega, h2⟩
    exact ⟨(s, q), (h.2 s q).1 h3, h4, h5⟩
end
section
set_option maxRecDepth 100000
abbrev Zeu0 (k : (((Int × (Int × (Int × (Int × (Int × (Int × Int)))))) × (Int × Int)) → K)) (x2 : Addr) (x3 : Int) (x4 : Int) : K :=
  ldI .i64 (x2.add 0) fun x2_0 =>
  ldI .i64 (x2.add 1) fun x2_1 =>
  ldI .i64 (x2.add 2) fun x2_2 =>
  ldI .i64 (x2.add 3) fun x2_3 =>
  ldI .i64 (x2.add 4) fun x2_4 =>
  ldI .i64 (x2.add 5) fun x2_5 =>
  ldI .i64 (x2.add 6) fun x2_6 =>
  k ((x2_0, (x2_1, (x2_2, (x2_3, (x2_4, (x2_5, x2_6)))))), (x3, x4))
abbrev Zeu1 (k : (((Int × (Int × (Int × (Int × (Int × (Int × Int)))))) × (Int × Int)) → K)) (x2 : Addr) (x10 : Addr) : K :=
  ldI .i64 (x10.add 0) fun x113_0 =>
  ldI .i64 (x10.add 1) fun x113_1 =>
  ldI .i64 (x10.add 2) fun x113_2 =>
  ldI .i64 (x10.add 3) fun x113_3 =>
  ldI .i64 (x10.add 4) fun x113_4 =>
  ldI .i64 (x10.add 5) fun x113_5 =>
  ldI .i64 (x10.add 6) fun x113_6 =>
  stK (x2.add 0) (.int .i64 x113_0) <|
  stK (x2.add 1) (.int .i64 x113_1) <|
  stK (x2.add 2) (.int .i64 x113_2) <|
  stK (x2.add 3) (.int .i64 x113_3) <|
  stK (x2.add 4) (.int .i64 x113_4) <|
  stK (x2.add 5) (.int .i64 x113_5) <|
  stK (x2.add 6) (.int .i64 x113_6) <|
  Zeu0 k x2 0 0
abbrev Zeu2 (k : (((Int × (Int × (Int × (Int × (Int × (Int × Int)))))) × (Int × Int)) → K)) (x2 : Addr) (x3_1 : Int) (x4_1 : Int) : K :=
  ldI .i64 (x2.add 0) fun x2_0_1 =>
  ldI .i64 (x2.add 1) fun x2_1_1 =>
  ldI .i64 (x2.add 2) fun x2_2_1 =>
  ldI .i64 (x2.add 3) fun x2_3_1 =>
  ldI .i64 (x2.add 4) fun x2_4_1 =>
  ldI .i64 (x2.add 5) fun x2_5_1 =>
  ldI .i64 (x2.add 6) fun x2_6_1 =>
  k ((x2_0_1, (x2_1_1, (x2_2_1, (x2_3_1, (x2_4_1, (x2_5_1, x2_6_1)))))), (x3_1, x4_1))
abbrev Zeu3 (k : (((Int × (Int × (Int × (Int × (Int × (Int × Int)))))) × (Int × Int)) → K)) (x2 : Addr) : K :=
  stK (x2.add 0) (.int .i64 0) <|
  stK (x2.add 1) (.int .i64 0) <|
  stK (x2.add 2) (.int .i64 0) <|
  stK (x2.add 3) (.int .i64 0) <|
  stK (x2.add 4) (.int .i64 0) <|
  stK (x2.add 5) (.int .i64 0) <|
  stK (x2.add 6) (.int .i64 0) <|
  Zeu2 k x2 0 40
abbrev Zeu4 (k : (((Int × (Int × (Int × (Int × (Int × (Int × Int)))))) × (Int × Int)) → K)) (x2 : Addr) (x10 : Addr) (x111 : Bool) : K :=
  brK x111
  (Zeu3 k x2)
  (Zeu1 k x2 x10)
abbrev Zeu5 (k : (((Int × (Int × (Int × (Int × (Int × (Int × Int)))))) × (Int × Int)) → K)) (x2 : Addr) (x10 : Addr) (x14_1 : Int) : K :=
  ldI .i64 (x10.add 0) fun x110 =>
  Zeu4 k x2 x10 (x14_1 != x110)
abbrev Zeu6 (x79_1 : Int) (c : ((Int × Int × Unit) → K)) (x14_3 : Int) : K :=
  c (x14_3, (IntKind.wrap .i64 (x79_1 + 1)), ())
abbrev Zeu7 (k : (((Int × (Int × (Int × (Int × (Int × (Int × Int)))))) × (Int × Int)) → K)) (x2 : Addr) (x3_2 : Int) (x4_2 : Int) : K :=
  ldI .i64 (x2.add 0) fun x2_0_2 =>
  ldI .i64 (x2.add 1) fun x2_1_2 =>
  ldI .i64 (x2.add 2) fun x2_2_2 =>
  ldI .i64 (x2.add 3) fun x2_3_2 =>
  ldI .i64 (x2.add 4) fun x2_4_2 =>
  ldI .i64 (x2.add 5) fun x2_5_2 =>
  ldI .i64 (x2.add 6) fun x2_6_2 =>
  k ((x2_0_2, (x2_1_2, (x2_2_2, (x2_3_2, (x2_4_2, (x2_5_2, x2_6_2)))))), (x3_2, x4_2))
abbrev Zeu8 (k : (((Int × (Int × (Int × (Int × (Int × (Int × Int)))))) × (Int × Int)) → K)) (x2 : Addr) (x16 : Addr) (x17 : Int) : K :=
  tick fun _ =>
  ldI .i64 (x16.add 0) fun x103 =>
  stK (x2.add 0) (.int .i64 0) <|
  stK (x2.add 1) (.int .i64 0) <|
  stK (x2.add 2) (.int .i64 0) <|
  stK (x2.add 3) (.int .i64 0) <|
  stK (x2.add 4) (.int .i64 0) <|
  stK (x2.add 5) (.int .i64 0) <|
  stK (x2.add 6) (.int .i64 0) <|
  chk [.cell (x16.add 0) (.int .i64 x103)] fun _ =>
  Zeu7 k x2 (IntKind.wrap .i64 (x103 + x17)) 40
abbrev Zeu9 (k : (((Int × (Int × (Int × (Int × (Int × (Int × Int)))))) × (Int × Int)) → K)) (x2 : Addr) (x16 : Addr) (x89_1 : Int) (c_1 : ((Int × Unit) → K)) (x17 : Int) (x100 : Bool) : K :=
  brK x100
  (Zeu8 k x2 x16 x17)
  (c_1 ((IntKind.wrap .i64 (x89_1 + 1)), ()))
abbrev Zeu10 (k : (((Int × (Int × (Int × (Int × (Int × (Int × Int)))))) × (Int × Int)) → K)) (x2 : Addr) (x6 : Sl) (x16 : Addr) (x89_1 : Int) (c_1 : ((Int × Unit) → K)) (x17 : Int) : K :=
  ldI .i64 (x16.add 0) fun x94 =>
  ixS x6.p x6.n (IntKind.wrap .i64 (x94 + x17)) 3 fun x97 =>
  ldI .i64 (x97.add 0) fun x99 =>
  Zeu9 k x2 x16 x89_1 c_1 x17 (x99 != 0)
abbrev Zeu11 (k : (((Int × (Int × (Int × (Int × (Int × (Int × Int)))))) × (Int × Int)) → K)) (x2 : Addr) (x6 : Sl) (x79_1 : Int) (c : ((Int × Int × Unit) → K)) (x16 : Addr) (x14_4 : Int) (x89_1 : Int) (c_1 : ((Int × Unit) → K)) (x90 : Bool) : K :=
  brK x90
  (Zeu10 k x2 x6 x16 x89_1 c_1 x89_1)
  (Zeu6 x79_1 c x14_4)
abbrev Zeu12 (k : (((Int × (Int × (Int × (Int × (Int × (Int × Int)))))) × (Int × Int)) → K)) (x2 : Addr) (x6 : Sl) (x79_1 : Int) (c : ((Int × Int × Unit) → K)) (x16 : Addr) (x14_4 : Int) (x88 : Int) (x89_1 : Int) (c_1 : ((Int × Unit) → K)) : K :=
  Zeu11 k x2 x6 x79_1 c x16 x14_4 x89_1 c_1 (decide (x89_1 < x88))
abbrev Zeu13 (k : (((Int × (Int × (Int × (Int × (Int × (Int × Int)))))) × (Int × Int)) → K)) (x2 : Addr) (x6 : Sl) (x79_1 : Int) (c : ((Int × Int × Unit) → K)) (x16 : Addr) (x14_4 : Int) (x88 : Int) (x89 : Int) : K :=
  lp (fun (z_ : (Int × Unit)) c_ => Zeu12 k x2 x6 x79_1 c x16 x14_4 x88 z_.1 c_) (x89, ())
abbrev Zeu14 (k : (((Int × (Int × (Int × (Int × (Int × (Int × Int)))))) × (Int × Int)) → K)) (x2 : Addr) (x6 : Sl) (x79_1 : Int) (c : ((Int × Int × Unit) → K)) (x16 : Addr) (x14_4 : Int) : K :=
  ldI .i64 (x16.add 1) fun x88_1 =>
  Zeu13 k x2 x6 x79_1 c x16 x14_4 x88_1 0
abbrev Zeu15 (k : (((Int × (Int × (Int × (Int × (Int × (Int × Int)))))) × (Int × Int)) → K)) (x2 : Addr) (x6 : Sl) (x14_2 : Int) (x79_1 : Int) (c : ((Int × Int × Unit) → K)) (x16 : Addr) : K :=
  ldI .i64 (x16.add 1) fun x85 =>
  Zeu14 k x2 x6 x79_1 c x16 (IntKind.wrap .i64 (x14_2 + x85))
abbrev Zeu16 (k : (((Int × (Int × (Int × (Int × (Int × (Int × Int)))))) × (Int × Int)) → K)) (x2 : Addr) (x6 : Sl) (x77 : Sl) (x14_2 : Int) (x79_1 : Int) (c : ((Int × Int × Unit) → K)) : K :=
  ixS x77.p x77.n x79_1 2 fun x81 =>
  ldI .i64 (x81.add 0) fun x82_0 =>
  ldI .i64 (x81.add 1) fun x82_1 =>
  alK (.cells #[.int .i64 0, .int .i64 0] 152) fun b =>
  stK (Addr.add ⟨b, 0, none⟩ 0) (.int .i64 x82_0) <|
  stK (Addr.add ⟨b, 0, none⟩ 1) (.int .i64 x82_1) <|
  Zeu15 k x2 x6 x14_2 x79_1 c ⟨b, 0, none⟩
abbrev Zeu17 (k : (((Int × (Int × (Int × (Int × (Int × (Int × Int)))))) × (Int × Int)) → K)) (x2 : Addr) (x6 : Sl) (x10 : Addr) (x77 : Sl) (x14_2 : Int) (x79_1 : Int) (c : ((Int × Int × Unit) → K)) (x80 : Bool) : K :=
  brK x80
  (Zeu16 k x2 x6 x77 x14_2 x79_1 c)
  (Zeu5 k x2 x10 x14_2)
abbrev Zeu18 (k : (((Int × (Int × (Int × (Int × (Int × (Int × Int)))))) × (Int × Int)) → K)) (x2 : Addr) (x6 : Sl) (x10 : Addr) (x77 : Sl) (x78 : Int) (x14_2 : Int) (x79_1 : Int) (c : ((Int × Int × Unit) → K)) : K :=
  Zeu17 k x2 x6 x10 x77 x14_2 x79_1 c (decide (x79_1 < x78))
abbrev Zeu19 (k : (((Int × (Int × (Int × (Int × (Int × (Int × Int)))))) × (Int × Int)) → K)) (x2 : Addr) (x6 : Sl) (x10 : Addr) (x14 : Int) (x77 : Sl) (x78 : Int) (x79 : Int) : K :=
  lp (fun (z_ : (Int × Int × Unit)) c_ => Zeu18 k x2 x6 x10 x77 x78 z_.1 z_.2.1 c_) (x14, x79, ())
abbrev Zeu20 (x0 : OA) (k : (((Int × (Int × (Int × (Int × (Int × (Int × Int)))))) × (Int × Int)) → K)) (x2 : Addr) (x6 : Sl) (x10 : Addr) (x14 : Int) : K :=
  nn x0 fun x74 =>
  ldP (x74.add 0) fun x76 =>
  c_bman_Manager_Runs x76 fun x77_1 =>
  Zeu19 k x2 x6 x10 x14 x77_1 ((x77_1.n : Nat) : Int) 0
abbrev Zeu21 (k : (((Int × (Int × (Int × (Int × (Int × (Int × Int)))))) × (Int × Int)) → K)) (x2 : Addr) (x3_3 : Int) (x4_3 : Int) : K :=
  ldI .i64 (x2.add 0) fun x2_0_3 =>
  ldI .i64 (x2.add 1) fun x2_1_3 =>
  ldI .i64 (x2.add 2) fun x2_2_3 =>
  ldI .i64 (x2.add 3) fun x2_3_3 =>
  ldI .i64 (x2.add 4) fun x2_4_3 =>
  ldI .i64 (x2.add 5) fun x2_5_3 =>
  ldI .i64 (x2.add 6) fun x2_6_3 =>
  k ((x2_0_3, (x2_1_3, (x2_2_3, (x2_3_3, (x2_4_3, (x2_5_3, x2_6_3)))))), (x3_3, x4_3))
abbrev Zeu22 (k : (((Int × (Int × (Int × (Int × (Int × (Int × Int)))))) × (Int × Int)) → K)) (x2 : Addr) : K :=
  stK (x2.add 0) (.int .i64 0) <|
  stK (x2.add 1) (.int .i64 0) <|
  stK (x2.add 2) (.int .i64 0) <|
  stK (x2.add 3) (.int .i64 0) <|
  stK (x2.add 4) (.int .i64 0) <|
  stK (x2.add 5) (.int .i64 0) <|
  stK (x2.add 6) (.int .i64 0) <|
  Zeu21 k x2 0 22
abbrev Zeu23 (x0 : OA) (k : (((Int × (Int × (Int × (Int × (Int × (Int × Int)))))) × (Int × Int)) → K)) (x2 : Addr) (x6 : Sl) (x10 : Addr) (x71 : Bool) : K :=
  brK x71
  (Zeu22 k x2)
  (Zeu20 x0 k x2 x6 x10 0)
abbrev Zeu24 (x0 : OA) (k : (((Int × (Int × (Int × (Int × (Int × (Int × Int)))))) × (Int × Int)) → K)) (x2 : Addr) (x6 : Sl) (x10 : Addr) : K :=
  tick fun _ =>
  ldI .i64 (x10.add 3) fun x67 =>
  c_alloc_Allocator_Objects x0 fun x69 =>
  chk [.cell (x10.add 3) (.int .i64 x67)] fun _ =>
  Zeu23 x0 k x2 x6 x10 (x67 != ((x69.n : Nat) : Int))
abbrev Zeu25 (k : (((Int × (Int × (Int × (Int × (Int × (Int × Int)))))) × (Int × Int)) → K)) (x2 : Addr) (x3_4 : Int) (x4_4 : Int) : K :=
  ldI .i64 (x2.add 0) fun x2_0_4 =>
  ldI .i64 (x2.add 1) fun x2_1_4 =>
  ldI .i64 (x2.add 2) fun x2_2_4 =>
  ldI .i64 (x2.add 3) fun x2_3_4 =>
  ldI .i64 (x2.add 4) fun x2_4_4 =>
  ldI .i64 (x2.add 5) fun x2_5_4 =>
  ldI .i64 (x2.add 6) fun x2_6_4 =>
  k ((x2_0_4, (x2_1_4, (x2_2_4, (x2_3_4, (x2_4_4, (x2_5_4, x2_6_4)))))), (x3_4, x4_4))
abbrev Zeu26 (k : (((Int × (Int × (Int × (Int × (Int × (Int × Int)))))) × (Int × Int)) → K)) (x2 : Addr) (x12 : Int) (x13 : Int) : K :=
  stK (x2.add 0) (.int .i64 0) <|
  stK (x2.add 1) (.int .i64 0) <|
  stK (x2.add 2) (.int .i64 0) <|
  stK (x2.add 3) (.int .i64 0) <|
  stK (x2.add 4) (.int .i64 0) <|
  stK (x2.add 5) (.int .i64 0) <|
  stK (x2.add 6) (.int .i64 0) <|
  Zeu25 k x2 x12 x13
abbrev Zeu27 (k : (((Int × (Int × (Int × (Int × (Int × (Int × Int)))))) × (Int × Int)) → K)) (x2 : Addr) (x11_1 : Int) (c_2 : ((Int × Unit) → K)) (x12 : Int) (x13 : Int) (x62 : Bool) : K :=
  brK x62
  (Zeu26 k x2 x12 x13)
  (c_2 ((IntKind.wrap .i64 (x11_1 + 1)), ()))
abbrev Zeu28 (k : (((Int × (Int × (Int × (Int × (Int × (Int × Int)))))) × (Int × Int)) → K)) (x2 : Addr) (x11_1 : Int) (c_2 : ((Int × Unit) → K)) (x12 : Int) (x13 : Int) : K :=
  Zeu27 k x2 x11_1 c_2 x12 x13 (x13 != 0)
abbrev Zeu29 (x0 : OA) (k : (((Int × (Int × (Int × (Int × (Int × (Int × Int)))))) × (Int × Int)) → K)) (x2 : Addr) (x6 : Sl) (x9 : (Option Nat)) (x10 : Addr) (x11_1 : Int) (c_2 : ((Int × Unit) → K)) : K :=
  c_check_Report_one (some x10) x0 x9 x6 x11_1 fun x58 =>
  Zeu28 k x2 x11_1 c_2 x58.1 x58.2
abbrev Zeu30 (x0 : OA) (k : (((Int × (Int × (Int × (Int × (Int × (Int × Int)))))) × (Int × Int)) → K)) (x2 : Addr) (x6 : Sl) (x9 : (Option Nat)) (x10 : Addr) (x11_1 : Int) (c_2 : ((Int × Unit) → K)) (x50 : Bool) : K :=
  brK x50
  (Zeu29 x0 k x2 x6 x9 x10 x11_1 c_2)
  (Zeu24 x0 k x2 x6 x10)
abbrev Zeu31 (x0 : OA) (k : (((Int × (Int × (Int × (Int × (Int × (Int × Int)))))) × (Int × Int)) → K)) (x2 : Addr) (x6 : Sl) (x9 : (Option Nat)) (x10 : Addr) (x11_1 : Int) (c_2 : ((Int × Unit) → K)) : K :=
  Zeu30 x0 k x2 x6 x9 x10 x11_1 c_2 (decide (x11_1 < ((x6.n : Nat) : Int)))
abbrev Zeu32 (x0 : OA) (k : (((Int × (Int × (Int × (Int × (Int × (Int × Int)))))) × (Int × Int)) → K)) (x2 : Addr) (x6 : Sl) (x9 : (Option Nat)) (x10 : Addr) (x11 : Int) : K :=
  lp (fun (z_ : (Int × Unit)) c_ => Zeu31 x0 k x2 x6 x9 x10 z_.1 c_) (x11, ())
abbrev Zeu33 (x0 : OA) (k : (((Int × (Int × (Int × (Int × (Int × (Int × Int)))))) × (Int × Int)) → K)) (x2 : Addr) (x6 : Sl) (x9 : (Option Nat)) (x10 : Addr) : K :=
  Zeu32 x0 k x2 x6 x9 x10 1
abbrev Zeu34 (x0 : OA) (k : (((Int × (Int × (Int × (Int × (Int × (Int × Int)))))) × (Int × Int)) → K)) (x2 : Addr) (x6 : Sl) (x9 : (Option Nat)) : K :=
  alK (.cells #[.int .i64 0, .int .i64 0, .int .i64 0, .int .i64 0, .int .i64 0, .int .i64 0, .int .i64 0] 93) fun b_1 =>
  Zeu33 x0 k x2 x6 x9 ⟨b_1, 0, none⟩
abbrev Zeu35 (k : (((Int × (Int × (Int × (Int × (Int × (Int × Int)))))) × (Int × Int)) → K)) (x2 : Addr) (x3_5 : Int) (x4_5 : Int) : K :=
  ldI .i64 (x2.add 0) fun x2_0_5 =>
  ldI .i64 (x2.add 1) fun x2_1_5 =>
  ldI .i64 (x2.add 2) fun x2_2_5 =>
  ldI .i64 (x2.add 3) fun x2_3_5 =>
  ldI .i64 (x2.add 4) fun x2_4_5 =>
  ldI .i64 (x2.add 5) fun x2_5_5 =>
  ldI .i64 (x2.add 6) fun x2_6_5 =>
  k ((x2_0_5, (x2_1_5, (x2_2_5, (x2_3_5, (x2_4_5, (x2_5_5, x2_6_5)))))), (x3_5, x4_5))
abbrev Zeu36 (k : (((Int × (Int × (Int × (Int × (Int × (Int × Int)))))) × (Int × Int)) → K)) (x2 : Addr) (x7_1 : Int) (x8_1 : Int) : K :=
  stK (x2.add 0) (.int .i64 0) <|
  stK (x2.add 1) (.int .i64 0) <|
  stK (x2.add 2) (.int .i64 0) <|
  stK (x2.add 3) (.int .i64 0) <|
  stK (x2.add 4) (.int .i64 0) <|
  stK (x2.add 5) (.int .i64 0) <|
  stK (x2.add 6) (.int .i64 0) <|
  Zeu35 k x2 x7_1 x8_1
abbrev Zeu37 (x0 : OA) (k : (((Int × (Int × (Int × (Int × (Int × (Int × Int)))))) × (Int × Int)) → K)) (x2 : Addr) (x6 : Sl) (x7_1 : Int) (x8_1 : Int) (x9 : (Option Nat)) (x43 : Bool) : K :=
  brK x43
  (Zeu36 k x2 x7_1 x8_1)
  (Zeu34 x0 k x2 x6 x9)
abbrev Zeu38 (x0 : OA) (k : (((Int × (Int × (Int × (Int × (Int × (Int × Int)))))) × (Int × Int)) → K)) (x2 : Addr) (x6 : Sl) (x7_1 : Int) (x8_1 : Int) (x9 : (Option Nat)) : K :=
  Zeu37 x0 k x2 x6 x7_1 x8_1 x9 (x8_1 != 0)
abbrev Zeu39 (x0 : OA) (k : (((Int × (Int × (Int × (Int × (Int × (Int × Int)))))) × (Int × Int)) → K)) (x2 : Addr) (x6 : Sl) : K :=
  c_check_free x0 fun x38 =>
  Zeu38 x0 k x2 x6 x38.2.1 x38.2.2 x38.1
abbrev Zeu40 (k : (((Int × (Int × (Int × (Int × (Int × (Int × Int)))))) × (Int × Int)) → K)) (x2 : Addr) (x3_6 : Int) (x4_6 : Int) : K :=
  ldI .i64 (x2.add 0) fun x2_0_6 =>
  ldI .i64 (x2.add 1) fun x2_1_6 =>
  ldI .i64 (x2.add 2) fun x2_2_6 =>
  ldI .i64 (x2.add 3) fun x2_3_6 =>
  ldI .i64 (x2.add 4) fun x2_4_6 =>
  ldI .i64 (x2.add 5) fun x2_5_6 =>
  ldI .i64 (x2.add 6) fun x2_6_6 =>
  k ((x2_0_6, (x2_1_6, (x2_2_6, (x2_3_6, (x2_4_6, (x2_5_6, x2_6_6)))))), (x3_6, x4_6))
abbrev Zeu41 (k : (((Int × (Int × (Int × (Int × (Int × (Int × Int)))))) × (Int × Int)) → K)) (x2 : Addr) (x7 : Int) (x8 : Int) : K :=
  stK (x2.add 0) (.int .i64 0) <|
  stK (x2.add 1) (.int .i64 0) <|
  stK (x2.add 2) (.int .i64 0) <|
  stK (x2.add 3) (.int .i64 0) <|
  stK (x2.add 4) (.int .i64 0) <|
  stK (x2.add 5) (.int .i64 0) <|
  stK (x2.add 6) (.int .i64 0) <|
  Zeu40 k x2 x7 x8
abbrev Zeu42 (x0 : OA) (k : (((Int × (Int × (Int × (Int × (Int × (Int × Int)))))) × (Int × Int)) → K)) (x2 : Addr) (x6 : Sl) (x7 : Int) (x8 : Int) (x32 : Bool) : K :=
  brK x32
  (Zeu41 k x2 x7 x8)
  (Zeu39 x0 k x2 x6)
abbrev Zeu43 (x0 : OA) (k : (((Int × (Int × (Int × (Int × (Int × (Int × Int)))))) × (Int × Int)) → K)) (x2 : Addr) (x6 : Sl) (x7 : Int) (x8 : Int) : K :=
  Zeu42 x0 k x2 x6 x7 x8 (x8 != 0)
abbrev Zeu44 (x0 : OA) (k : (((Int × (Int × (Int × (Int × (Int × (Int × Int)))))) × (Int × Int)) → K)) (x2 : Addr) (x5 : Addr) : K :=
  tick fun _ =>
  ldI .i64 (x5.add 0) fun x26_0 =>
  c_alloc_Allocator_Device x0 fun x25 =>
  chk [.cell (x5.add 0) (.int .i64 x26_0)] fun _ =>
  c_check_Headers x25 x26_0 fun x27 =>
  Zeu43 x0 k x2 x27.1 x27.2.1 x27.2.2
abbrev Zeu45 (x0 : OA) (k : (((Int × (Int × (Int × (Int × (Int × (Int × Int)))))) × (Int × Int)) → K)) (x2 : Addr) : K :=
  nn x0 fun x19 =>
  ldP (x19.add 0) fun x21 =>
  c_bman_Manager_Geometry x21 fun x22 =>
  alK (.cells #[.int .i64 0] 43) fun b_2 =>
  stK (Addr.add ⟨b_2, 0, none⟩ 0) (.int .i64 x22) <|
  Zeu44 x0 k x2 ⟨b_2, 0, none⟩
abbrev check_Whole (x0 : OA) : M ((Int × (Int × (Int × (Int × (Int × (Int × Int)))))) × (Int × Int)) := fun k =>
  alK (.cells #[.int .i64 0, .int .i64 0, .int .i64 0, .int .i64 0, .int .i64 0, .int .i64 0, .int .i64 0] 93) fun b_3 =>
  Zeu45 x0 k ⟨b_3, 0, none⟩
theorem check_Whole_ok (x0 : OA) (k : ((Int × (Int × (Int × (Int × (Int × (Int × Int)))))) × (Int × Int)) → K) (w : World) (hyp_ : check_Whole x0 k w) : c_check_Whole x0 k w :=
  cl_of (P := Tryz.prog) Tryz.func47 rfl (by kernel_rfl)
  (Qs [(2, .addr)] [0] (fun z_ => Zeu45 x0 k z_.1)
  Qz
  (fun ⟨x2, _⟩ => Qs [(5, .addr)] [0, 2] (fun z_ => Zeu44 x0 k x2 z_.1)
  Qz
  (fun ⟨x5, _⟩ => Qs [(6, .slice), (7, .int .i64), (8, .int .i64)] [0, 2] (fun z_ => Zeu43 x0 k x2 z_.1 z_.2.1 z_.2.2.1)
  (RefK.draw [] [0, 1, 0, 7, 15, 31, 31, 31, 63, 383, 1023] [0, 2, 1, 3, 4, 5, 6, 7, 8, 9, 10] [0, 1, 2, 3, 4, 5, 8, 6, 9, 7, 10] (by kernel_rfl) (by kernel_rfl))
  (fun ⟨x6, x7, x8, _⟩ => Qs [] [0, 2, 6] (fun z_ => Zeu39 x0 k x2 x6)
  (Qs [(32, .bool)] [0, 2, 6, 7, 8] (fun z_ => Zeu42 x0 k x2 x6 x7 x8 z_.1)
  Qz
  (fun ⟨x32, _⟩ => Qc (x32) (Zeu41 k x2 x7 x8) (Zeu39 x0 k x2 x6) (Qs [(3, .int .i64), (4, .int .i64)] [2] (fun z_ => Zeu40 k x2 z_.1 z_.2.1)
  Qz
  (fun ⟨x3_6, x4_6, _⟩ => Qr)) Qk))
  (fun _ => Qs [(7, .int .i64), (8, .int .i64), (9, .map)] [0, 2, 6] (fun z_ => Zeu38 x0 k x2 x6 z_.1 z_.2.1 z_.2.2.1)
  Qz
  (fun ⟨x7_1, x8_1, x9, _⟩ => Qs [] [0, 2, 6, 9] (fun z_ => Zeu34 x0 k x2 x6 x9)
  (Qs [(43, .bool)] [0, 2, 6, 7, 8, 9] (fun z_ => Zeu37 x0 k x2 x6 x7_1 x8_1 x9 z_.1)
  Qz
  (fun ⟨x43, _⟩ => Qc (x43) (Zeu36 k x2 x7_1 x8_1) (Zeu34 x0 k x2 x6 x9) (Qs [(3, .int .i64), (4, .int .i64)] [2] (fun z_ => Zeu35 k x2 z_.1 z_.2.1)
  Qz
  (fun ⟨x3_5, x4_5, _⟩ => Qr)) Qk))
  (fun _ => Qs [(10, .addr)] [0, 2, 6, 9] (fun z_ => Zeu33 x0 k x2 x6 x9 z_.1)
  Qz
  (fun ⟨x10, _⟩ => Qs [] [0, 2, 6, 10] (fun z_ => Zeu24 x0 k x2 x6 x10)
  (Qs [(11, .int .i64)] [0, 2, 6, 9, 10] (fun z_ => Zeu32 x0 k x2 x6 x9 x10 z_.1)
  Qz
  (fun ⟨x11, _⟩ => Qb (Ql [(11, .int .i64)] [0, 2, 6, 9, 10] (fun (z_ : (Int × Unit)) c_ => Zeu31 x0 k x2 x6 x9 x10 z_.1 c_) (x11, ())
  (fun ⟨x11_1, _⟩ c_2 => Qs [] [0, 2, 6, 9, 10, 11] (fun z_ => Zeu29 x0 k x2 x6 x9 x10 x11_1 c_2)
  (Qs [(50, .bool)] [0, 2, 6, 9, 10, 11] (fun z_ => Zeu30 x0 k x2 x6 x9 x10 x11_1 c_2 z_.1)
  Qz
  (fun ⟨x50, _⟩ => Qc (x50) (Zeu29 x0 k x2 x6 x9 x10 x11_1 c_2) (Zeu24 x0 k x2 x6 x10) Qk Qx))
  (fun _ => Qs [] [0, 2, 6, 9, 10, 11] (fun z_ => c_2 ((IntKind.wrap .i64 (x11_1 + 1)), ()))
  (Qb (Qs [(12, .int .i64), (13, .int .i64)] [0, 2, 6, 9, 10, 11] (fun z_ => Zeu28 k x2 x11_1 c_2 z_.1 z_.2.1)
  Qz
  (fun ⟨x12, x13, _⟩ => Qs [(62, .bool)] [0, 2, 6, 9, 10, 11, 12, 13] (fun z_ => Zeu27 k x2 x11_1 c_2 x12 x13 z_.1)
  Qz
  (fun ⟨x62, _⟩ => Qc (x62) (Zeu26 k x2 x12 x13) (c_2 ((IntKind.wrap .i64 (x11_1 + 1)), ())) (Qs [(3, .int .i64), (4, .int .i64)] [2] (fun z_ => Zeu25 k x2 z_.1 z_.2.1)
  Qz
  (fun ⟨x3_4, x4_4, _⟩ => Qr)) Qk))))
  (fun _ => Qz))))))
  (fun _ => Qs [] [0, 2, 6, 10] (fun z_ => Zeu20 x0 k x2 x6 x10 0)
  (Qs [(71, .bool)] [0, 2, 6, 10] (fun z_ => Zeu23 x0 k x2 x6 x10 z_.1)
  (RefK.draw [] [0, 1, 0, 4, 12, 31] [0, 1, 2, 3, 4, 5] [0, 1, 2, 3, 4, 5] (by kernel_rfl) (by kernel_rfl))
  (fun ⟨x71, _⟩ => Qc (x71) (Zeu22 k x2) (Zeu20 x0 k x2 x6 x10 0) (Qs [(3, .int .i64), (4, .int .i64)] [2] (fun z_ => Zeu21 k x2 z_.1 z_.2.1)
  Qz
  (fun ⟨x3_3, x4_3, _⟩ => Qr)) Qk))
  (fun _ => Qs [(14, .int .i64)] [0, 2, 6, 10] (fun z_ => Zeu20 x0 k x2 x6 x10 z_.1)
  Qz
  (fun ⟨x14, _⟩ => Qs [(14, .int .i64)] [2, 10] (fun z_ => Zeu5 k x2 x10 z_.1)
  (Qs [(77, .slice), (78, .int .i64), (79, .int .i64)] [2, 6, 10, 14] (fun z_ => Zeu19 k x2 x6 x10 x14 z_.1 z_.2.1 z_.2.2.1)
  Qz
  (fun ⟨x77, x78, x79, _⟩ => Qb (Ql [(14, .int .i64), (79, .int .i64)] [2, 6, 10, 77, 78] (fun (z_ : (Int × Int × Unit)) c_ => Zeu18 k x2 x6 x10 x77 x78 z_.1 z_.2.1 c_) (x14, x79, ())
  (fun ⟨x14_2, x79_1, _⟩ c => Qs [(80, .bool)] [2, 6, 10, 14, 77, 78, 79] (fun z_ => Zeu17 k x2 x6 x10 x77 x14_2 x79_1 c z_.1)
  Qz
  (fun ⟨x80, _⟩ => Qs [] [2, 6, 10, 14, 77, 78, 79] (fun z_ => Zeu16 k x2 x6 x77 x14_2 x79_1 c)
  (Qc (x80) (Zeu16 k x2 x6 x77 x14_2 x79_1 c) (Zeu5 k x2 x10 x14_2) Qk Qx)
  (fun _ => Qs [(14, .int .i64)] [2, 6, 10, 77, 78, 79] (fun z_ => Zeu6 x79_1 c z_.1)
  (Qb (Qs [(16, .addr)] [2, 6, 10, 14, 77, 78, 79] (fun z_ => Zeu15 k x2 x6 x14_2 x79_1 c z_.1)
  Qz
  (fun ⟨x16, _⟩ => Qs [(14, .int .i64)] [2, 6, 10, 16, 77, 78, 79] (fun z_ => Zeu14 k x2 x6 x79_1 c x16 z_.1)
  Qz
  (fun ⟨x14_4, _⟩ => Qs [(88, .int .i64), (89, .int .i64)] [2, 6, 10, 14, 16, 77, 78, 79] (fun z_ => Zeu13 k x2 x6 x79_1 c x16 x14_4 z_.1 z_.2.1)
  Qz
  (fun ⟨x88, x89, _⟩ => Qb (Ql [(89, .int .i64)] [2, 6, 10, 14, 16, 77, 78, 79, 88] (fun (z_ : (Int × Unit)) c_ => Zeu12 k x2 x6 x79_1 c x16 x14_4 x88 z_.1 c_) (x89, ())
  (fun ⟨x89_1, _⟩ c_1 => Qs [(90, .bool)] [2, 6, 10, 14, 16, 77, 78, 79, 88, 89] (fun z_ => Zeu11 k x2 x6 x79_1 c x16 x14_4 x89_1 c_1 z_.1)
  Qz
  (fun ⟨x90, _⟩ => Qs [] [2, 6, 10, 14, 16, 77, 78, 79, 88, 89] (fun z_ => Zeu10 k x2 x6 x16 x89_1 c_1 x89_1)
  (Qc (x90) (Zeu10 k x2 x6 x16 x89_1 c_1 x89_1) (Zeu6 x79_1 c x14_4) Qk Qx)
  (fun _ => Qs [] [2, 6, 10, 14, 16, 77, 78, 79, 88, 89] (fun z_ => c_1 ((IntKind.wrap .i64 (x89_1 + 1)), ()))
  (Qb (Qs [(17, .int .i64)] [2, 6, 10, 14, 16, 77, 78, 79, 88, 89] (fun z_ => Zeu10 k x2 x6 x16 x89_1 c_1 z_.1)
  Qz
  (fun ⟨x17, _⟩ => Qs [(100, .bool)] [2, 6, 10, 14, 16, 17, 77, 78, 79, 88, 89] (fun z_ => Zeu9 k x2 x16 x89_1 c_1 x17 z_.1)
  Qz
  (fun ⟨x100, _⟩ => Qc (x100) (Zeu8 k x2 x16 x17) (c_1 ((IntKind.wrap .i64 (x89_1 + 1)), ())) (Qs [(3, .int .i64), (4, .int .i64)] [2] (fun z_ => Zeu7 k x2 z_.1 z_.2.1)
  (RefK.draw [] [0, 0, 2, 0, 14, 1, 63, 127] [0, 1, 2, 3, 4, 5, 6, 7] [0, 5, 1, 2, 3, 4, 6, 7] (by kernel_rfl) (by kernel_rfl))
  (fun ⟨x3_2, x4_2, _⟩ => Qr)) Qk))))
  (fun _ => Qz))))))))))
  (fun ⟨x14_3, _⟩ => Qz)))))))
  (fun ⟨x14_1, _⟩ => Qs [] [2, 10] (fun z_ => Zeu1 k x2 x10)
  (Qs [(111, .bool)] [2, 10] (fun z_ => Zeu4 k x2 x10 z_.1)
  Qz
  (fun ⟨x111, _⟩ => Qc (x111) (Zeu3 k x2) (Zeu1 k x2 x10) (Qs [(3, .int .i64), (4, .int .i64)] [2] (fun z_ => Zeu2 k x2 z_.1 z_.2.1)
  Qz
  (fun ⟨x3_1, x4_1, _⟩ => Qr)) Qk))
  (fun _ => Qs [(3, .int .i64), (4, .int .i64)] [2] (fun z_ => Zeu0 k x2 z_.1 z_.2.1)
  Qz
  (fun ⟨x3, x4, _⟩ => Qr)))))))))))))) hyp_
abbrev Zev0 (k : ((Sl × (Int × Int)) → K)) (x4 : Sl) (x5 : Int) (x6 : Int) : K :=
  k (x4, (x5, x6))
abbrev Zev1 (k : ((Sl × (Int × Int)) → K)) (x4_1 : Sl) (x5_1 : Int) (x6_1 : Int) : K :=
  k (x4_1, (x5_1, x6_1))
abbrev Zev2 (k : ((Sl × (Int × Int)) → K)) (list : Sl) (b : Int) (x58 : Bool) : K :=
  brK x58
  (Zev1 k ⟨none, 0, 0⟩ b 40)
  (Zev0 k list 0 0)
abbrev Zev3 (k : ((Sl × (Int × Int)) → K)) (list : Sl) (b : Int) (ok : Bool) : K :=
  Zev2 k list b (!ok)
abbrev Zev4 (k : ((Sl × (Int × Int)) → K)) (list : Sl) : K :=
  c_bman_Sound list fun x54 =>
  Zev3 k list x54.1 x54.2
abbrev Zev5 (list : Sl) (b_2 : Int) (c : ((Int × Unit) → K)) (h : Addr) : K :=
  ldI .i64 (h.add 0) fun x50_0 =>
  ldI .i64 (h.add 1) fun x50_1 =>
  ldI .i64 (h.add 2) fun x50_2 =>
  ixS list.p list.n b_2 3 fun x51 =>
  stK (x51.add 0) (.int .i64 x50_0) <|
  stK (x51.add 1) (.int .i64 x50_1) <|
  stK (x51.add 2) (.int .i64 x50_2) <|
  c ((IntKind.wrap .i64 (b_2 + 1)), ())
abbrev Zev6 (k : ((Sl × (Int × Int)) → K)) (x4_2 : Sl) (x5_2 : Int) (x6_2 : Int) : K :=
  k (x4_2, (x5_2, x6_2))
abbrev Zev7 (k : ((Sl × (Int × Int)) → K)) (list : Sl) (b_2 : Int) (c : ((Int × Unit) → K)) (h : Addr) (x46 : Bool) : K :=
  brK x46
  (Zev6 k ⟨none, 0, 0⟩ b_2 21)
  (Zev5 list b_2 c h)
abbrev Zev8 (d : OA) (k : ((Sl × (Int × Int)) → K)) (g_1 : Addr) (list : Sl) (b_2 : Int) (c : ((Int × Unit) → K)) (h : Addr) (e : Int) : K :=
  tick fun _ =>
  brK (e != 0)
  (Zev7 k list b_2 c h true)
  (ldI .i64 (g_1.add 0) fun x36_0 =>
  ldI .i64 (g_1.add 0) fun x41_0 =>
  c_geom_Geometry_Header x36_0 b_2 fun x38 =>
  chk [.cell (g_1.add 0) (.int .i64 x41_0)] fun _ =>
  c_nvm_Device_Lasting d x38 fun x39 =>
  chk [.cell (g_1.add 0) (.int .i64 x41_0)] fun _ =>
  c_geom_Geometry_Header x41_0 b_2 fun x43 =>
  c_nvm_Device_Get d x43 fun x44 =>
  Zev7 k list b_2 c h (x39 != x44))
abbrev Zev9 (d : OA) (k : ((Sl × (Int × Int)) → K)) (g_1 : Addr) (list : Sl) (b_2 : Int) (c : ((Int × Unit) → K)) : K :=
  ldI .i64 (g_1.add 0) fun x25_0 =>
  c_geom_Geometry_Header x25_0 b_2 fun x27 =>
  c_nvm_Device_Get d x27 fun x28 =>
  c_bhead_Decode b_2 x28 fun x29 =>
  alK (.cells #[.int .i64 0, .int .i64 0, .int .i64 0] 143) fun b_3 =>
  stK (Addr.add ⟨b_3, 0, none⟩ 0) (.int .i64 x29.1.1) <|
  stK (Addr.add ⟨b_3, 0, none⟩ 1) (.int .i64 x29.1.2.1) <|
  stK (Addr.add ⟨b_3, 0, none⟩ 2) (.int .i64 x29.1.2.2) <|
  Zev8 d k g_1 list b_2 c ⟨b_3, 0, none⟩ x29.2
abbrev Zev10 (d : OA) (k : ((Sl × (Int × Int)) → K)) (g_1 : Addr) (list : Sl) (b_2 : Int) (c : ((Int × Unit) → K)) (x19 : Bool) : K :=
  brK x19
  (Zev9 d k g_1 list b_2 c)
  (Zev4 k list)
abbrev Zev11 (d : OA) (k : ((Sl × (Int × Int)) → K)) (g_1 : Addr) (list : Sl) (b_2 : Int) (c : ((Int × Unit) → K)) : K :=
  ldI .i64 (g_1.add 0) fun x18 =>
  Zev10 d k g_1 list b_2 c (decide (b_2 < x18))
abbrev Zev12 (d : OA) (k : ((Sl × (Int × Int)) → K)) (g_1 : Addr) (list : Sl) (b_1 : Int) : K :=
  lp (fun (z_ : (Int × Unit)) c_ => Zev11 d k g_1 list z_.1 c_) (b_1, ())
abbrev Zev13 (d : OA) (k : ((Sl × (Int × Int)) → K)) (g_1 : Addr) (list : Sl) : K :=
  Zev12 d k g_1 list 1
abbrev Zev14 (d : OA) (k : ((Sl × (Int × Int)) → K)) (g_1 : Addr) : K :=
  ldI .i64 (g_1.add 0) fun x14 =>
  mkS Tryz.prog 143 x14 x14 fun b_4 =>
  Zev13 d k g_1 ⟨(some ⟨b_4, 0, none⟩), (Int.toNat x14), (Int.toNat x14)⟩
abbrev check_Headers (d : OA) (g : Int) : M (Sl × (Int × Int)) := fun k =>
  alK (.cells #[.int .i64 g] 43) fun b_5 =>
  Zev14 d k ⟨b_5, 0, none⟩
theorem check_Headers_ok (d : OA) (g : Int) (k : (Sl × (Int × Int)) → K) (w : World) (hyp_ : check_Headers d g k w) : c_check_Headers d g k w :=
  cl_of (P := Tryz.prog) Tryz.func105 rfl (by kernel_rfl)
  (Qs [(3, .addr)] [0] (fun z_ => Zev14 d k z_.1)
  Qz
  (fun ⟨g_1, _⟩ => Qs [(7, .slice)] [0, 3] (fun z_ => Zev13 d k g_1 z_.1)
  Qz
  (fun ⟨list, _⟩ => Qs [] [7] (fun z_ => Zev4 k list)
  (Qs [(8, .int .i64)] [0, 3, 7] (fun z_ => Zev12 d k g_1 list z_.1)
  Qz
  (fun ⟨b_1, _⟩ => Qb (Ql [(8, .int .i64)] [0, 3, 7] (fun (z_ : (Int × Unit)) c_ => Zev11 d k g_1 list z_.1 c_) (b_1, ())
  (fun ⟨b_2, _⟩ c => Qs [] [0, 3, 7, 8] (fun z_ => Zev9 d k g_1 list b_2 c)
  (Qs [(19, .bool)] [0, 3, 7, 8] (fun z_ => Zev10 d k g_1 list b_2 c z_.1)
  Qz
  (fun ⟨x19, _⟩ => Qc (x19) (Zev9 d k g_1 list b_2 c) (Zev4 k list) Qk Qx))
  (fun _ => Qs [] [0, 3, 7, 8] (fun z_ => c ((IntKind.wrap .i64 (b_2 + 1)), ()))
  (Qb (Qs [(9, .addr), (10, .int .i64)] [0, 3, 7, 8] (fun z_ => Zev8 d k g_1 list b_2 c z_.1 z_.2.1)
  Qz
  (fun ⟨h, e, _⟩ => Qs [] [0, 3, 7, 8, 9] (fun z_ => Zev5 list b_2 c h)
  (Qs [(46, .bool)] [0, 3, 7, 8, 9] (fun z_ => Zev7 k list b_2 c h z_.1)
  (RefK.draw [2] [0, 1, 3, 7, 7, 7, 55, 127, 7, 7, 7, 1791, 4095, 8191, 16383] [0, 1, 2, 3, 4, 5, 8, 9, 10, 6, 7, 11, 12, 13, 14] [0, 1, 2, 3, 4, 5, 6, 7, 8, 9, 10, 11, 12, 13, 14] (by kernel_rfl) (by kernel_rfl))
  (fun ⟨x46, _⟩ => Qc (x46) (Zev6 k ⟨none, 0, 0⟩ b_2 21) (Zev5 list b_2 c h) (Qs [(4, .slice), (5, .int .i64), (6, .int .i64)] [] (fun z_ => Zev6 k z_.1 z_.2.1 z_.2.2.1)
  Qz
  (fun ⟨x4_2, x5_2, x6_2, _⟩ => Qr)) Qk))
  (fun _ => Qz))))
  (fun _ => Qz))))))
  (fun _ => Qs [] [7] (fun z_ => Zev0 k list 0 0)
  (Qs [(11, .int .i64), (12, .bool)] [7] (fun z_ => Zev3 k list z_.1 z_.2.1)
  Qz
  (fun ⟨b, ok, _⟩ => Qs [(58, .bool)] [7, 11] (fun z_ => Zev2 k list b z_.1)
  Qz
  (fun ⟨x58, _⟩ => Qc (x58) (Zev1 k ⟨none, 0, 0⟩ b 40) (Zev0 k list 0 0) (Qs [(4, .slice), (5, .int .i64), (6, .int .i64)] [] (fun z_ => Zev1 k z_.1 z_.2.1 z_.2.2.1)
  Qz
  (fun ⟨x4_1, x5_1, x6_1, _⟩ => Qr)) Qk)))
  (fun _ => Qs [(4, .slice), (5, .int .i64), (6, .int .i64)] [] (fun z_ => Zev0 k z_.1 z_.2.1 z_.2.2.1)
  Qz
  (fun ⟨x4, x5, x6, _⟩ => Qr)))))) hyp_
abbrev Zew0 (k : (((Option Nat) × (Int × Int)) → K)) (x2 : (Option Nat)) (x3 : Int) (x4 : Int) : K :=
  k (x2, (x3, x4))
abbrev Zew1 (out : (Option Nat)) (x19_1 : Int) (c_1 : ((Int × Unit) → K)) (at_1 : Int) : K :=
  semU Tryz.prog (Instr.mapUpdate 156 (.map out) (.int .i64 at_1) (.bool true)) <|
  c_1 ((IntKind.wrap .i64 (x19_1 + 1)), ())
abbrev Zew2 (k : (((Option Nat) × (Int × Int)) → K)) (x2_1 : (Option Nat)) (x3_1 : Int) (x4_1 : Int) : K :=
  k (x2_1, (x3_1, x4_1))
abbrev Zew3 (k : (((Option Nat) × (Int × Int)) → K)) (x2_2 : (Option Nat)) (x3_2 : Int) (x4_2 : Int) : K :=
  k (x2_2, (x3_2, x4_2))
abbrev Zew4 (k : (((Option Nat) × (Int × Int)) → K)) (out : (Option Nat)) (x19_1 : Int) (c_1 : ((Int × Unit) → K)) (at_1 : Int) (x53 : Bool) : K :=
  brK x53
  (Zew3 k none at_1 41)
  (Zew1 out x19_1 c_1 at_1)
abbrev Zew5 (k : (((Option Nat) × (Int × Int)) → K)) (out : (Option Nat)) (x19_1 : Int) (c_1 : ((Int × Unit) → K)) (at_1 : Int) : K :=
  lkE Tryz.prog 3 (.bool false) (.sc (.bool)) out (.int .i64 at_1) fun r ob x56 ok_1 =>
  Zew4 k out x19_1 c_1 at_1 x56
abbrev Zew6 (k : (((Option Nat) × (Int × Int)) → K)) (out : (Option Nat)) (x19_1 : Int) (c_1 : ((Int × Unit) → K)) (at_1 : Int) (x34 : Bool) : K :=
  brK x34
  (Zew2 k none at_1 22)
  (Zew5 k out x19_1 c_1 at_1)
abbrev Zew7 (a : OA) (k : (((Option Nat) × (Int × Int)) → K)) (out : (Option Nat)) (k_1 : Int) (x19_1 : Int) (c_1 : ((Int × Unit) → K)) (at_1 : Int) (c_2 : Addr) (ok : Bool) : K :=
  tick fun _ =>
  brK (!ok)
  (Zew6 k out x19_1 c_1 at_1 true)
  (nn a fun x39 =>
  ldP (x39.add 0) fun x41 =>
  nn x41 fun x42 =>
  ldP (x42.add 0) fun x44 =>
  ldI .i64 (c_2.add 0) fun x46 =>
  c_blocks_Table_Get x44 x46 fun x47 =>
  Zew6 k out x19_1 c_1 at_1 (!((x47.1 == 1) && ((x47.2.1 == k_1) && ((x47.2.2 == 0) && true)))))
abbrev Zew8 (a : OA) (k : (((Option Nat) × (Int × Int)) → K)) (out : (Option Nat)) (k_1 : Int) (x19_1 : Int) (c_1 : ((Int × Unit) → K)) (at_1 : Int) : K :=
  nn a fun x25 =>
  ldP (x25.add 0) fun x27 =>
  c_bman_Manager_Geometry x27 fun x28 =>
  c_cells_At x28 k_1 at_1 fun x31 =>
  alK (.cells #[.int .i64 0, .int .i64 0] 168) fun b =>
  stK (Addr.add ⟨b, 0, none⟩ 0) (.int .i64 x31.1.1) <|
  stK (Addr.add ⟨b, 0, none⟩ 1) (.int .i64 x31.1.2) <|
  Zew7 a k out k_1 x19_1 c_1 at_1 ⟨b, 0, none⟩ x31.2
abbrev Zew9 (a : OA) (k : (((Option Nat) × (Int × Int)) → K)) (out : (Option Nat)) (k_1 : Int) (x17 : Sl) (x19_1 : Int) (c_1 : ((Int × Unit) → K)) : K :=
  ixS x17.p x17.n x19_1 1 fun x21 =>
  ldI .i64 x21 fun x22 =>
  Zew8 a k out k_1 x19_1 c_1 x22
abbrev Zew10 (a : OA) (k : (((Option Nat) × (Int × Int)) → K)) (out : (Option Nat)) (x12_1 : Int) (c : ((Int × Unit) → K)) (k_1 : Int) (x17 : Sl) (x19_1 : Int) (c_1 : ((Int × Unit) → K)) (x20 : Bool) : K :=
  brK x20
  (Zew9 a k out k_1 x17 x19_1 c_1)
  (c ((IntKind.wrap .i64 (x12_1 + 1)), ()))
abbrev Zew11 (a : OA) (k : (((Option Nat) × (Int × Int)) → K)) (out : (Option Nat)) (x12_1 : Int) (c : ((Int × Unit) → K)) (k_1 : Int) (x17 : Sl) (x18 : Int) (x19_1 : Int) (c_1 : ((Int × Unit) → K)) : K :=
  Zew10 a k out x12_1 c k_1 x17 x19_1 c_1 (decide (x19_1 < x18))
abbrev Zew12 (a : OA) (k : (((Option Nat) × (Int × Int)) → K)) (out : (Option Nat)) (x12_1 : Int) (c : ((Int × Unit) → K)) (k_1 : Int) (x17 : Sl) (x18 : Int) (x19 : Int) : K :=
  lp (fun (z_ : (Int × Unit)) c_ => Zew11 a k out x12_1 c k_1 x17 x18 z_.1 c_) (x19, ())
abbrev Zew13 (a : OA) (k : (((Option Nat) × (Int × Int)) → K)) (out : (Option Nat)) (x12_1 : Int) (c : ((Int × Unit) → K)) (k_1 : Int) : K :=
  c_alloc_Allocator_FreeCells a k_1 fun x17_1 =>
  Zew12 a k out x12_1 c k_1 x17_1 ((x17_1.n : Nat) : Int) 0
abbrev Zew14 (a : OA) (k : (((Option Nat) × (Int × Int)) → K)) (out : (Option Nat)) (x12_1 : Int) (c : ((Int × Unit) → K)) (x13 : Bool) : K :=
  brK x13
  (Zew13 a k out x12_1 c x12_1)
  (Zew0 k out 0 0)
abbrev Zew15 (a : OA) (k : (((Option Nat) × (Int × Int)) → K)) (out : (Option Nat)) (x12_1 : Int) (c : ((Int × Unit) → K)) : K :=
  Zew14 a k out x12_1 c (decide (x12_1 < 32))
abbrev Zew16 (a : OA) (k : (((Option Nat) × (Int × Int)) → K)) (out : (Option Nat)) (x12 : Int) : K :=
  lp (fun (z_ : (Int × Unit)) c_ => Zew15 a k out z_.1 c_) (x12, ())
abbrev Zew17 (a : OA) (k : (((Option Nat) × (Int × Int)) → K)) (out : (Option Nat)) : K :=
  Zew16 a k out 0
abbrev Zew18 (a : OA) (k : (((Option Nat) × (Int × Int)) → K)) : K :=
  alK (.map #[] 0) fun b_1 =>
  Zew17 a k (some b_1)
abbrev check_free (a : OA) : M ((Option Nat) × (Int × Int)) := fun k =>
  Zew18 a k
theorem check_free_ok (a : OA) (k : ((Option Nat) × (Int × Int)) → K) (w : World) (hyp_ : check_free a k w) : c_check_free a k w :=
  cl_of (P := Tryz.prog) Tryz.func107 rfl (by kernel_rfl)
  (Qs [] [0] (fun z_ => Zew18 a k)
  Qz
  (fun _ => Qs [(5, .map)] [0] (fun z_ => Zew17 a k z_.1)
  Qz
  (fun ⟨out, _⟩ => Qs [] [5] (fun z_ => Zew0 k out 0 0)
  (Qs [(12, .int .i64)] [0, 5] (fun z_ => Zew16 a k out z_.1)
  Qz
  (fun ⟨x12, _⟩ => Qb (Ql [(12, .int .i64)] [0, 5] (fun (z_ : (Int × Unit)) c_ => Zew15 a k out z_.1 c_) (x12, ())
  (fun ⟨x12_1, _⟩ c => Qs [(13, .bool)] [0, 5, 12] (fun z_ => Zew14 a k out x12_1 c z_.1)
  Qz
  (fun ⟨x13, _⟩ => Qs [] [0, 5, 12] (fun z_ => Zew13 a k out x12_1 c x12_1)
  (Qc (x13) (Zew13 a k out x12_1 c x12_1) (Zew0 k out 0 0) Qk Qx)
  (fun _ => Qs [] [0, 5, 12] (fun z_ => c ((IntKind.wrap .i64 (x12_1 + 1)), ()))
  (Qb (Qs [(6, .int .i64)] [0, 5, 12] (fun z_ => Zew13 a k out x12_1 c z_.1)
  Qz
  (fun ⟨k_1, _⟩ => Qs [(17, .slice), (18, .int .i64), (19, .int .i64)] [0, 5, 6, 12] (fun z_ => Zew12 a k out x12_1 c k_1 z_.1 z_.2.1 z_.2.2.1)
  Qz
  (fun ⟨x17, x18, x19, _⟩ => Qb (Ql [(19, .int .i64)] [0, 5, 6, 12, 17, 18] (fun (z_ : (Int × Unit)) c_ => Zew11 a k out x12_1 c k_1 x17 x18 z_.1 c_) (x19, ())
  (fun ⟨x19_1, _⟩ c_1 => Qs [(20, .bool)] [0, 5, 6, 12, 17, 18, 19] (fun z_ => Zew10 a k out x12_1 c k_1 x17 x19_1 c_1 z_.1)
  Qz
  (fun ⟨x20, _⟩ => Qs [] [0, 5, 6, 12, 17, 18, 19] (fun z_ => Zew9 a k out k_1 x17 x19_1 c_1)
  (Qc (x20) (Zew9 a k out k_1 x17 x19_1 c_1) (c ((IntKind.wrap .i64 (x12_1 + 1)), ())) Qk Qx)
  (fun _ => Qs [] [0, 5, 6, 12, 17, 18, 19] (fun z_ => c_1 ((IntKind.wrap .i64 (x19_1 + 1)), ()))
  (Qb (Qs [(8, .int .i64)] [0, 5, 6, 12, 17, 18, 19] (fun z_ => Zew8 a k out k_1 x19_1 c_1 z_.1)
  Qz
  (fun ⟨at_1, _⟩ => Qs [(9, .addr), (10, .bool)] [0, 5, 6, 8, 12, 17, 18, 19] (fun z_ => Zew7 a k out k_1 x19_1 c_1 at_1 z_.1 z_.2.1)
  Qz
  (fun ⟨c_2, ok, _⟩ => Qs [] [0, 5, 6, 8, 12, 17, 18, 19] (fun z_ => Zew1 out x19_1 c_1 at_1)
  (Qb (Qs [(34, .bool)] [0, 5, 6, 8, 12, 17, 18, 19] (fun z_ => Zew6 k out x19_1 c_1 at_1 z_.1)
  (RefK.draw [2] [0, 1, 3, 7, 15, 31, 63, 127, 255, 511, 7, 1031, 4095, 7, 8199, 32767, 65535, 131071] [0, 1, 2, 3, 4, 5, 6, 7, 8, 9, 10, 11, 13, 14, 12, 15, 16, 17] [0, 1, 2, 3, 4, 5, 6, 7, 8, 9, 10, 11, 12, 13, 14, 15, 16, 17] (by kernel_rfl) (by kernel_rfl))
  (fun ⟨x34, _⟩ => Qc (x34) (Zew2 k none at_1 22) (Zew5 k out x19_1 c_1 at_1) (Qs [(2, .map), (3, .int .i64), (4, .int .i64)] [] (fun z_ => Zew2 k z_.1 z_.2.1 z_.2.2.1)
  Qz
  (fun ⟨x2_1, x3_1, x4_1, _⟩ => Qr)) (Qs [(53, .bool)] [0, 5, 6, 8, 12, 17, 18, 19] (fun z_ => Zew4 k out x19_1 c_1 at_1 z_.1)
  Qz
  (fun ⟨x53, _⟩ => Qc (x53) (Zew3 k none at_1 41) (Zew1 out x19_1 c_1 at_1) (Qs [(2, .map), (3, .int .i64), (4, .int .i64)] [] (fun z_ => Zew3 k z_.1 z_.2.1 z_.2.2.1)
  Qz
  (fun ⟨x2_2, x3_2, x4_2, _⟩ => Qr)) Qk)))))
  (fun _ => Qz)))))
  (fun _ => Qz)))))))))
  (fun _ => Qz)))))))
  (fun _ => Qs [(2, .map), (3, .int .i64), (4, .int .i64)] [] (fun z_ => Zew0 k z_.1 z_.2.1 z_.2.2.1)
  Qz
  (fun ⟨x2, x3, x4, _⟩ => Qr))))) hyp_
abbrev Zex0 (k : ((Int × Int) → K)) (x10 : Int) (x11 : Int) : K :=
  k (x10, x11)
abbrev Zex1 (k : ((Int × Int) → K)) (x10_1 : Int) (x11_1 : Int) : K :=
  k (x10_1, x11_1)
abbrev Zex2 (x0 : OA) (k : ((Int × Int) → K)) : K :=
  nn x0 fun x73 =>
  ldI .i64 (x73.add 2) fun x75 =>
  nn x0 fun x77 =>
  stK (Addr.add (x77.add 2) 0) (.int .i64 (IntKind.wrap .i64 (x75 + 1))) <|
  Zex0 k 0 0
abbrev Zex3 (x0 : OA) (k : ((Int × Int) → K)) (x12 : Addr) (x14 : Addr) : K :=
  ldI .i64 (x14.add 0) fun x67_0 =>
  ldI .i64 (x14.add 1) fun x67_1 =>
  ldI .i64 (x12.add 2) fun x69 =>
  c_check_Report_add x0 (x67_0, x67_1) (IntKind.wrap .i64 (x69 * 512)) fun x71 =>
  Zex2 x0 k
abbrev Zex4 (k : ((Int × Int) → K)) (x10_2 : Int) (x11_2 : Int) : K :=
  k (x10_2, x11_2)
abbrev Zex5 (x0 : OA) (k : ((Int × Int) → K)) (x12 : Addr) (x13 : Int) (x14 : Addr) (x64 : Bool) : K :=
  brK x64
  (Zex4 k x13 22)
  (Zex3 x0 k x12 x14)
abbrev Zex6 (x0 : OA) (x1 : OA) (k : ((Int × Int) → K)) (x12 : Addr) (x13 : Int) (x14 : Addr) (x15 : Bool) : K :=
  brK (!x15)
  (Zex5 x0 k x12 x13 x14 true)
  (c_alloc_Allocator_Used x1 x13 fun x62 =>
  Zex5 x0 k x12 x13 x14 (!x62))
abbrev Zex7 (x0 : OA) (x1 : OA) (k : ((Int × Int) → K)) (x12 : Addr) (x13 : Int) : K :=
  c_alloc_Allocator_Place x1 x13 fun x54 =>
  alK (.cells #[.int .i64 0, .int .i64 0] 68) fun b =>
  stK (Addr.add ⟨b, 0, none⟩ 0) (.int .i64 x54.1.1) <|
  stK (Addr.add ⟨b, 0, none⟩ 1) (.int .i64 x54.1.2) <|
  Zex6 x0 x1 k x12 x13 ⟨b, 0, none⟩ x54.2
abbrev Zex8 (x0 : OA) (x1 : OA) (x4 : Int) (k : ((Int × Int) → K)) (x12 : Addr) : K :=
  nn x1 fun x45 =>
  ldP (x45.add 0) fun x47 =>
  c_bman_Manager_Geometry x47 fun x48 =>
  c_geom_Geometry_First x48 x4 fun x50 =>
  Zex7 x0 x1 k x12 x50
abbrev Zex9 (x0 : OA) (x1 : OA) (x4 : Int) (k : ((Int × Int) → K)) (x12 : Addr) (x42 : Bool) : K :=
  brK x42
  (Zex8 x0 x1 x4 k x12)
  (Zex0 k 0 0)
abbrev Zex10 (x0 : OA) (x1 : OA) (x2 : (Option Nat)) (x4 : Int) (k : ((Int × Int) → K)) (x12 : Addr) : K :=
  ldI .i64 (x12.add 1) fun x38 =>
  c_check_Report_block x0 x1 x2 x4 x38 fun x39 =>
  Zex1 k x39.1 x39.2
abbrev Zex11 (x0 : OA) (x1 : OA) (x2 : (Option Nat)) (x4 : Int) (k : ((Int × Int) → K)) (x12 : Addr) (x21 : Int) (x31 : Bool) : K :=
  brK x31
  (Zex10 x0 x1 x2 x4 k x12)
  (Zex9 x0 x1 x4 k x12 (x21 == 2))
abbrev Zex12 (x0 : OA) (k : ((Int × Int) → K)) : K :=
  nn x0 fun x25 =>
  ldI .i64 (x25.add 0) fun x27 =>
  nn x0 fun x29 =>
  stK (Addr.add (x29.add 0) 0) (.int .i64 (IntKind.wrap .i64 (x27 + 1))) <|
  Zex0 k 0 0
abbrev Zex13 (x0 : OA) (x1 : OA) (x2 : (Option Nat)) (x4 : Int) (k : ((Int × Int) → K)) (x12 : Addr) (x21 : Int) (x22 : Bool) : K :=
  brK x22
  (Zex12 x0 k)
  (Zex11 x0 x1 x2 x4 k x12 x21 (x21 == 1))
abbrev Zex14 (x0 : OA) (x1 : OA) (x2 : (Option Nat)) (x4 : Int) (k : ((Int × Int) → K)) (x12 : Addr) (x21 : Int) : K :=
  Zex13 x0 x1 x2 x4 k x12 x21 (x21 == 0)
abbrev Zex15 (x0 : OA) (x1 : OA) (x2 : (Option Nat)) (x4 : Int) (k : ((Int × Int) → K)) (x12 : Addr) : K :=
  ldI .i64 (x12.add 0) fun x21_1 =>
  Zex14 x0 x1 x2 x4 k x12 x21_1
abbrev Zex16 (x0 : OA) (x1 : OA) (x2 : (Option Nat)) (x3 : Sl) (x4 : Int) (k : ((Int × Int) → K)) : K :=
  ixS x3.p x3.n x4 3 fun x18 =>
  ldI .i64 (x18.add 0) fun x19_0 =>
  ldI .i64 (x18.add 1) fun x19_1 =>
  ldI .i64 (x18.add 2) fun x19_2 =>
  alK (.cells #[.int .i64 0, .int .i64 0, .int .i64 0] 143) fun b_1 =>
  stK (Addr.add ⟨b_1, 0, none⟩ 0) (.int .i64 x19_0) <|
  stK (Addr.add ⟨b_1, 0, none⟩ 1) (.int .i64 x19_1) <|
  stK (Addr.add ⟨b_1, 0, none⟩ 2) (.int .i64 x19_2) <|
  Zex15 x0 x1 x2 x4 k ⟨b_1, 0, none⟩
abbrev check_Report_one (x0 : OA) (x1 : OA) (x2 : (Option Nat)) (x3 : Sl) (x4 : Int) : M (Int × Int) := fun k =>
  Zex16 x0 x1 x2 x3 x4 k
theorem check_Report_one_ok (x0 : OA) (x1 : OA) (x2 : (Option Nat)) (x3 : Sl) (x4 : Int) (k : (Int × Int) → K) (w : World) (hyp_ : check_Report_one x0 x1 x2 x3 x4 k w) : c_check_Report_one x0 x1 x2 x3 x4 k w :=
  cl_of (P := Tryz.prog) Tryz.func108 rfl (by kernel_rfl)
  (Qs [] [0, 1, 2, 3, 4] (fun z_ => Zex16 x0 x1 x2 x3 x4 k)
  Qz
  (fun _ => Qs [] [] (fun z_ => Zex0 k 0 0)
  (Qs [(12, .addr)] [0, 1, 2, 4] (fun z_ => Zex15 x0 x1 x2 x4 k z_.1)
  Qz
  (fun ⟨x12, _⟩ => Qs [(21, .int .i64)] [0, 1, 2, 4, 12] (fun z_ => Zex14 x0 x1 x2 x4 k x12 z_.1)
  Qz
  (fun ⟨x21, _⟩ => Qb (Qs [(22, .bool)] [0, 1, 2, 4, 12, 21] (fun z_ => Zex13 x0 x1 x2 x4 k x12 x21 z_.1)
  Qz
  (fun ⟨x22, _⟩ => Qc (x22) (Zex12 x0 k) (Zex11 x0 x1 x2 x4 k x12 x21 (x21 == 1)) Qz (Qs [(31, .bool)] [0, 1, 2, 4, 12, 21] (fun z_ => Zex11 x0 x1 x2 x4 k x12 x21 z_.1)
  Qz
  (fun ⟨x31, _⟩ => Qc (x31) (Zex10 x0 x1 x2 x4 k x12) (Zex9 x0 x1 x4 k x12 (x21 == 2)) (Qs [(10, .int .i64), (11, .int .i64)] [] (fun z_ => Zex1 k z_.1 z_.2.1)
  Qz
  (fun ⟨x10_1, x11_1, _⟩ => Qr)) (Qs [(42, .bool)] [0, 1, 4, 12] (fun z_ => Zex9 x0 x1 x4 k x12 z_.1)
  Qz
  (fun ⟨x42, _⟩ => Qc (x42) (Zex8 x0 x1 x4 k x12) (Zex0 k 0 0) (Qs [(13, .int .i64)] [0, 1, 12] (fun z_ => Zex7 x0 x1 k x12 z_.1)
  Qz
  (fun ⟨x13, _⟩ => Qs [(14, .addr), (15, .bool)] [0, 1, 12, 13] (fun z_ => Zex6 x0 x1 k x12 x13 z_.1 z_.2.1)
  Qz
  (fun ⟨x14, x15, _⟩ => Qs [] [0, 12, 14] (fun z_ => Zex3 x0 k x12 x14)
  (Qs [(64, .bool)] [0, 12, 13, 14] (fun z_ => Zex5 x0 k x12 x13 x14 z_.1)
  (Qp [2])
  (fun ⟨x64, _⟩ => Qc (x64) (Zex4 k x13 22) (Zex3 x0 k x12 x14) (Qs [(10, .int .i64), (11, .int .i64)] [] (fun z_ => Zex4 k z_.1 z_.2.1)
  Qz
  (fun ⟨x10_2, x11_2, _⟩ => Qr)) Qk))
  (fun _ => Qs [] [0] (fun z_ => Zex2 x0 k)
  Qz
  (fun _ => Qz))))) Qk)))))))))
  (fun _ => Qs [(10, .int .i64), (11, .int .i64)] [] (fun z_ => Zex0 k z_.1 z_.2.1)
  Qz
  (fun ⟨x10, x11, _⟩ => Qr)))) hyp_
abbrev Zey0 (r : OA) (room : Int) (k : (Unit → K)) (o_1 : Addr) : K :=
  tick fun _ =>
  nn r fun x23 =>
  ldI .i64 (x23.add 6) fun x25 =>
  ldI .i64 (o_1.add 0) fun x27_0 =>
  ldI .i64 (o_1.add 1) fun x27_1 =>
  c_ohead_Object_Size (x27_0, x27_1) fun x28 =>
  chk [.cell (x23.add 6) (.int .i64 x25)] fun _ =>
  nn r fun x31 =>
  stK (Addr.add (x31.add 6) 0) (.int .i64 (IntKind.wrap .i64 (x25 + (IntKind.wrap .i64 (room - x28))))) <|
  k ()
abbrev Zey1 (r : OA) (room : Int) (k : (Unit → K)) (o_1 : Addr) : K :=
  tick fun _ =>
  nn r fun x14 =>
  ldI .i64 (x14.add 4) fun x16 =>
  ldI .i64 (o_1.add 0) fun x17_0 =>
  ldI .i64 (o_1.add 1) fun x17_1 =>
  c_ohead_Object_Size (x17_0, x17_1) fun x18 =>
  chk [.cell (x14.add 4) (.int .i64 x16)] fun _ =>
  nn r fun x20 =>
  stK (Addr.add (x20.add 4) 0) (.int .i64 (IntKind.wrap .i64 (x16 + x18))) <|
  Zey0 r room k o_1
abbrev Zey2 (r : OA) (room : Int) (k : (Unit → K)) (o_1 : Addr) : K :=
  nn r fun x7 =>
  ldI .i64 (x7.add 3) fun x9 =>
  nn r fun x11 =>
  stK (Addr.add (x11.add 3) 0) (.int .i64 (IntKind.wrap .i64 (x9 + 1))) <|
  Zey1 r room k o_1
abbrev check_Report_add (r : OA) (o : (Int × Int)) (room : Int) : M Unit := fun k =>
  alK (.cells #[.int .i64 o.1, .int .i64 o.2] 68) fun b =>
  Zey2 r room k ⟨b, 0, none⟩
theorem check_Report_add_ok (r : OA) (o : (Int × Int)) (room : Int) (k : Unit → K) (w : World) (hyp_ : check_Report_add r o room k w) : c_check_Report_add r o room k w :=
  cl_of (P := Tryz.prog) Tryz.func169 rfl (by kernel_rfl)
  (Qs [(4, .addr)] [0, 2] (fun z_ => Zey2 r room k z_.1)
  Qz
  (fun ⟨o_1, _⟩ => Qs [] [0, 2, 4] (fun z_ => Zey1 r room k o_1)
  Qz
  (fun _ => Qs [] [0, 2, 4] (fun z_ => Zey0 r room k o_1)
  (RefK.draw [] [0, 1, 3, 7, 0, 16, 63, 127, 255, 511] [0, 1, 2, 3, 4, 5, 6, 7, 8, 9] [0, 1, 2, 3, 4, 5, 6, 7, 8, 9] (by kernel_rfl) (by kernel_rfl))
  (fun _ => RefK.draw [] [0, 1, 3, 7, 0, 0, 32, 112, 255, 511, 1023, 2047] [0, 1, 2, 3, 4, 5, 6, 7, 8, 9, 10, 11] [0, 1, 2, 3, 4, 5, 6, 7, 8, 9, 10, 11] (by kernel_rfl) (by kernel_rfl))))) hyp_
end
section
set_option maxHeartbeats 1000000
def fits (g : Nat) (o : Ob) : Prop := oSize o ≠ 0 ∧ oSize o ≤ ((g : Int) - 1) * 512
instance (g : Nat) (o : Ob) : Decidable (fits g o) := by unfold fits; infer_instance
def kN (o : Ob) : Nat := (kOf (oSize o)).1.toNat
def valS (L : Nat → List Int) (k : Nat) (sn : List (Int × Int)) : Int := (accL L k 4).length + sumI sn * cn k
def val (g : Nat) (L : Nat → List Int) (o : Ob) (sn : List (Int × Int)) : Int := if fits g o then (if (kOf (oSize o)).2 = true then valS L (kN o) sn else sumD (oBlocks o) sn) else 0
theorem Cov.rng {lim : Int} {F : RF} (ok : RunsOk lim F) {sn : List (Int × Int)} (h : Cov F sn) : ∀ p ∈ sn, 1 ≤ p.2 := fun p hp => (ok.rng _ _ ((h.2 p.1 p.2).2 hp)).2.1
section
variable {B : World} {P R : SL} {t : K}
end
end
section
set_option maxHeartbeats 1000000
def c0 (g : Nat) : List Int := wrH (List.replicate (8 * (64 * g)) 0) 1 (List.replicate (g - 1) (0, 0, 0))
def st0 (g : Nat) (F : RF) : St := ⟨hs0 g, F, c0 g, fun _ => false, fun _ => []⟩
theorem tells0 {g : Nat} (h : 2 ≤ g) (h2 : g ≤ 2 ^ 20) : Tells (c0 g) (hs0 g) := by
  refine ⟨by unfold hs0; rw [List.getElem?_replicate]; rw [if_pos (by omega)], fun b hb h' hh => ?_⟩
  unfold hs0 at hh
  rw [List.getElem?_replicate] at hh
  split at hh
  · rename_i hlt
    simp only [Option.some.injEq] at hh
    subst hh
    have e : getI (c0 g) (256 + b) = benc b (0, 0, 0) := by
      unfold getI
      rw [if_neg (by omega)]
      have e2 : (256 + (b : Int)).toNat = 256 + b := by omega
      rw [e2, List.getD_eq_getElem?_getD]
      unfold c0
      rw [wrH_get, if_neg (by simp; omega), List.getElem?_replicate, if_pos (by omega)]
      simp only [Option.map_some, Option.getD_some]
      congr 1; omega
    rw [e]
    exact bdec_benc (.inl rfl)
  · cases hh
section
variable {B : World} {P R : SL} {t : K}
theorem Begun_c {n : Nat} (h1 : 2 ≤ n) (h2 : n ≤ 2 ^ 20) {kk : ((Option Addr × (Option Addr × Sl)) × Bool) → K} (hk : ∀ a d F, T B (R * Al a d n (st0 n F)) (kk ((da a, (da d, nilS)), true))) : T B R (c_law20_Begun n kk) := by
  refine T_of (law20_Begun_ok _ kk) ?_
  (repeat (first | ((with_reducible apply T_ldI); (focus rfl); (focus exact hasA); (focus rfl)) | (with_reducible refine T_al ?_; intro _) | ((with_reducible apply T_st); (focus rfl); (focus exact updA); (focus simp); simp only [List.set, Nat.zero_add, Nat.reduceAdd])))
  rename_i b1 b2
  refine geom_Words_c (by omega) (by omega) ?_
  refine nvm_New_c (n := 64 * n) (by omega) (by omega) fun d => ?_
  unfold da
  skip
  (dsimp only [law20_Begun, Zed0, Zed1, Zed2, Zed3, Zed4, Zed5, Zed6, Zed7, Zed8, Zed9, Zed10, Zed11, Zed12, Zed13])
  simp only [Option.isNone_some]
  (repeat (first | with_reducible refine T_brF ?_ | ((with_reducible apply T_ldI); (focus rfl); (focus exact hasA); (focus rfl))))
  refine blocks_Format_c h1 h2 rfl fun la' hp => ?_
  (repeat' (first | ((with_reducible apply T_ldI); (focus rfl); (focus exact hasA); (focus rfl)) | ((with_reducible apply T_ldP); (focus rfl); (focus exact hasA); (focus rfl)) | ((with_reducible apply T_st); (focus rfl); (focus exact updA); (focus simp); simp only [List.set, Nat.zero_add, Nat.reduceAdd]) | with_reducible refine T_brNE (fun _ => ?_) (fun _ => ?_)))
  · rename_i h; exact absurd rfl h
  have ht := tells0 h1 h2
  have hp' : Pst (64 * n) ((256 + ((1 : Nat) : Int)) / 8).toNat (((256 + ((1 : Nat) : Int)) + (List.replicate (n - 1) ((0, 0, 0) : Hd)).length - 1) / 8 + 1).toNat (wrH (List.replicate (8 * (64 * n)) 0) 1 (List.replicate (n - 1) (0, 0, 0))) (List.replicate (8 * (64 * n)) 0) la' := by
    rw [List.length_replicate, show (((256 + ((1 : Nat) : Int)) + ((n - 1 : Nat) : Int) - 1) / 8 + 1) = ((257 : Int) + (n - 1) - 1) / 8 + 1 by omega]; exact hp
  refine LDx_close (HLs.put rfl (fun _ _ _ => rfl) hp') ?_
  refine bman_Open_c (g := n) h1 h2 ht fun m F => ?_
  (repeat' (first | with_reducible refine T_brT ?_ | ((with_reducible apply T_ldP); (focus rfl); (focus exact hasA); (focus rfl)) | ((with_reducible apply T_st); (focus rfl); (focus exact updA); (focus simp); simp only [List.set, Nat.zero_add, Nat.reduceAdd]) | with_reducible refine T_brNE (fun _ => ?_) (fun _ => ?_)))
  · rename_i h; exact absurd rfl h
  simp only [da, Option.isNone_some]
  (repeat (with_reducible refine T_brF ?_))
  refine alloc_New_c (g := n) (d := d) (m := m) h1 h2 fun a => ?_
  (repeat' (first | with_reducible refine T_tick ?_ | ((with_reducible apply T_ldP); (focus rfl); (focus exact hasA); (focus rfl)) | ((with_reducible apply T_st); (focus rfl); (focus exact updA); (focus simp); simp only [List.set, Nat.zero_add, Nat.reduceAdd]) | with_reducible refine T_brE (fun _ => ?_) (fun _ => ?_) | with_reducible refine T_brN ?_))
  · simp only [da, Option.isNone_some, Bool.not_false]
    (repeat (first | with_reducible refine T_nn ?_ | with_reducible refine T_brF ?_))
    refine T_bring (X := Al a d n (st0 n F)) .last ?_
    refine Al_open fun m2 u f => ?_
    unfold da
    (repeat (first | with_reducible refine T_chk0 ?_ | ((with_reducible apply T_ldP); (focus rfl); (focus exact hasA); (focus rfl)) | ((with_reducible apply T_st); (focus rfl); (focus exact updA); (focus simp); simp only [List.set, Nat.zero_add, Nat.reduceAdd]) | ((with_reducible apply T_chk); (focus rfl); (focus exact hasA); (focus rfl))))
    simp only [Option.isNone_some, Bool.not_false]
    skip
    have h3 := Al_close (m := m2) (u := u) (f := f) (hk a d F)
    refine T_ldS (n := nilS) (by rw [add_mk]) (by exact hasA) rfl ?_
    refine T_drop1 (by exact frmA : Frm _ (pt b1 (.cells [Value.pointer (some ⟨a, 0, none⟩), .pointer (some ⟨d, 0, none⟩), .slice none 0 0].toArray 29)) _) ?_
    refine T_drop1 (by exact frmA : Frm _ (pt b2 (.cells [Value.int .i64 n].toArray 43)) _) ?_
    exact T.perm (by unfold da; ac_rfl) h3
  · rename_i h; exact absurd rfl h
theorem T_ldBase {a : Addr} {kd : IntKind} {n : Int} {k : Int → K} (h : B.cell? a = some (.int kd n)) (ht : T B P (k n)) : T B P (ldI kd a k) := by
  intro w hw
  have hlt : a.block < B.heap.size := by
    unfold World.cell? at h
    cases hh : B.heap[a.block]? with
    | none => rw [hh] at h; cases h
    | some o => exact (Array.getElem?_eq_some_iff.1 hh).1
  exact ⟨n, by rw [hw.2.cell hlt]; exact h, ht w hw⟩
/-- a script of calls in the world of the law's call -/
def Scr (B : World) (x : Sl) : Prop := ∀ i : Nat, i < x.n → ∃ a, x.p = some a ∧ ∃ k m p d : Int, B.cell? ((a.add (i * 4)).add 0) = some (.int .i64 k) ∧ B.cell? ((a.add (i * 4)).add 1) = some (.int .i64 m) ∧ B.cell? ((a.add (i * 4)).add 2) = some (.int .i64 p) ∧ B.cell? ((a.add (i * 4)).add 3) = some (.int .i64 d)
theorem T_ixScr {x : Sl} (h : Scr B x) {i : Int} {k : Addr → K} (h0 : 0 ≤ i) (h1 : i < x.n) (ht : ∀ a kd m p d, B.cell? (a.add 0) = some (.int .i64 kd) → B.cell? (a.add 1) = some (.int .i64 m) → B.cell? (a.add 2) = some (.int .i64 p) → B.cell? (a.add 3) = some (.int .i64 d) → T B P (k a)) :
    T B P (ixS x.p x.n i 4 k) := by
  obtain ⟨a, ha, kd, m, p, d, e0, e1, e2, e3⟩ := h i.toNat (by omega)
  exact T_ixS ha h0 h1 (ht _ kd m p d e0 e1 e2 e3)
end
end
section
set_option maxHeartbeats 1000000
section
variable {B : World} {P R : SL} {t : K}
end
end
section
variable {B : World} {P R : SL} {t : K}
end
section
variable {B : World} {P R : SL} {t : K}
end
section
set_option maxHeartbeats 1000000
section
variable {B : World} {P R : SL} {t : K}
end
end
section
variable {B : World} {P R : SL} {t : K}
theorem bitmap_Between_c {s lim : Nat} {U : Nat → Bool} {a b : Int} (hl : lim ≤ 2 ^ 40) {k : Int → K}
    (hk : ∀ n : Nat, (n = 0 ↔ ∀ x : Nat, a ≤ x → (x : Int) < b → U x = false) → T B (R * Bm s lim U) (k n)) : T B (R * Bm s lim U) (c_bitmap_Set_Between (da s) a b k) := by
  refine T_of (bitmap_Set_Between_ok _ a b k) ?_
  have loop : ∀ r : Int × Bool, Nxt U lim a r → T B (R * Bm s lim U) (Zdg5 (da s) b k 0 r.1 r.2) := by
    intro r hr
    refine T_lpX (fun _ _ => R * Bm s lim U) (fun m (z : Int × Int × Bool × Unit) => ∃ (n : Nat) (c : Int), z.1 = n ∧ a ≤ c ∧ Nxt U lim c (z.2.1, z.2.2.1) ∧ m = (if z.2.2.1 then lim - z.2.1.toNat else 0) ∧ (n : Int) ≤ max 0 c ∧ (n = 0 ↔ ∀ x : Nat, a ≤ x → (x : Int) < c → (x : Int) < b → U x = false)) _ rfl ⟨0, a, rfl, by omega, hr, rfl, by omega, ?_⟩ ?_
    · exact ⟨fun _ x h1 h2 => by omega, fun _ => rfl⟩
    rintro m ⟨z1, z2, z3, u⟩ cc ⟨n, c, e1, e2, e3, e4, e5, e6⟩ hc
    simp only at e1 e3 e4
    subst e1 e4
    rcases e3 with ⟨e3, hz⟩ | ⟨x, e3, h1, h2, h3, h4⟩
    · obtain ⟨rfl, rfl⟩ := Prod.mk.inj e3
      (repeat (with_reducible refine T_brF ?_))
      refine hk n ?_
      rw [e6]
      exact ⟨fun h x g1 g2 => if hx : (x : Int) < c then h x g1 hx g2 else hz x (by omega), fun h x g1 _ g3 => h x g1 g3⟩
    · obtain ⟨rfl, rfl⟩ := Prod.mk.inj e3
      (repeat' (first | with_reducible refine T_brT ?_ | with_reducible refine T_brD (fun _ => ?_) (fun _ => ?_)))
      · rename_i hlt
        simp only at hlt
        (dsimp only [bitmap_Set_Between, Zdg0, Zdg1, Zdg2, Zdg3, Zdg4, Zdg5, Zdg6])
        rw [w64 (n := (x : Int) + 1) (by omega) (by omega), w64 (n := (n : Int) + 1) (by omega) (by omega)]
        have nx : ∀ r : Int × Bool, Nxt U lim ((x : Int) + 1) r → T B (R * Bm s lim U) (cc ((n : Int) + 1, r.1, r.2, ())) := by
          intro r hr
          refine hc (if r.2 then lim - r.1.toNat else 0) _ ?_ ⟨n + 1, (x : Int) + 1, by simp, by omega, hr, rfl, by omega, ?_⟩
          · simp only [if_true]
            rcases hr with ⟨rfl, _⟩ | ⟨y, rfl, g1, g2, _⟩
            · simp; omega
            · simp; omega
          · constructor
            · intro h; omega
            · intro h
              have := h x (by omega) (by omega) (by omega)
              rw [h3] at this; cases this
        refine bitmap_Next_c (fun hz => nx (0, false) (.inl ⟨rfl, hz⟩)) (fun y g1 g2 g3 g4 => nx ((y : Int), true) (.inr ⟨y, rfl, g1, g3, g2, g4⟩))
      · rename_i hge
        simp only at hge
        refine hk n ?_
        rw [e6]
        exact ⟨fun h y g1 g2 => if hy : (y : Int) < c then h y g1 hy g2 else h4 y (by omega) (by omega), fun h y g1 _ g3 => h y g1 g3⟩
  refine bitmap_Next_c (fun hz => loop (0, false) (.inl ⟨rfl, hz⟩)) (fun y g1 g2 g3 g4 => loop ((y : Int), true) (.inr ⟨y, rfl, g1, g3, g2, g4⟩))
theorem T_clearI {s : Sl} {l : List Int} {ty o : Nat} {d : Sl} (hd : d = ⟨cutP s.p o s.c 1, s.n - o, s.c - o⟩) (ho : o ≤ l.length) {k : Unit → K}
    (hk : ∀ l' : List Int, l'.length = l.length → l'.take o = l.take o → T B (R * vec 3 1 s (ints l')) (k ())) :
    T B (R * vec 3 1 s (ints l)) (semT Tryz.prog (Builtin.clear_ #[27] ty #[d.v]) (.tup []) k) := by
  intro w hw
  have hlen : s.n = l.length := by
    have := (Rd.vec (E := 3) (s := s) (vs := ints l) (P := R * vec 3 1 s (ints l)) .last B w hw).1
    rw [ints_len] at this; omega
  have hz : zeroP Tryz.prog 3 = some (.int .i64 0) := by kernel_rfl
  subst hd
  unfold semT
  by_cases h0 : s.n - o = 0
  · have hrun : (Builtin.clear_ #[27] ty #[Sl.v ⟨cutP s.p o s.c 1, s.n - o, s.c - o⟩]).run Tryz.prog w = .ok (.tuple #[]) w := by
      rw [h0]
      cases hp : cutP s.p o s.c 1 with
      | none => simp [Builtin.clear_, Sl.v, r_und kd_int.und]
      | some a => simp [Builtin.clear_, Sl.v, r_und kd_int.und]
    rw [hrun]
    exact ⟨(), rfl, hk l rfl rfl w hw⟩
  · rcases vec_cases hw with ⟨h1, h2, h3, _⟩ | ⟨b, rest, h1, h2, h3, h4, hR⟩
    · omega
    · have hdp : cutP s.p o s.c 1 = some ⟨b, o, none⟩ := by
        unfold cutP
        rw [if_neg (by rw [ints_len] at h2 h3; omega), h1]; simp [add_mk]
      obtain ⟨w', hr, hs'⟩ := store_sat (Pg := Tryz.prog) (B := B) (b := b) (o := o) (ty := 3) (P' := fun l => R * pt b (.cells l.toArray 3)) (fun _ _ => Upd.last) (new := List.replicate (s.n - o) (.int .i64 0)) (l := ints l ++ rest) (i := 0) (w := w) rfl (by simp [scal]) (by rw [List.length_append, ints_len]; simp; omega) hR
      obtain ⟨q, hq⟩ : ∃ q, s.n - o = q + 1 := ⟨s.n - o - 1, by omega⟩
      have hzc : (Builtin.zeroCells #[Value.int .i64 0] (s.n - o)).toList = List.replicate (s.n - o) (.int .i64 0) := by
        generalize s.n - o = j
        simp only [Builtin.zeroCells]
        rw [List.eq_replicate_iff]
        refine ⟨by simp, fun x hx => ?_⟩
        simp only [List.size_toArray, List.length_singleton, Nat.mul_one, Nat.mod_one] at hx
        simp at hx
        exact hx.2.symm
      have hrun : (Builtin.clear_ #[27] ty #[Sl.v ⟨cutP s.p o s.c 1, s.n - o, s.c - o⟩]).run Tryz.prog w = .ok (.tuple #[]) w' := by
        rw [hdp]
        have hzc' := hzc
        rw [hq] at hzc' hr ⊢
        rw [← hzc'] at hr
        simp [Builtin.clear_, Sl.v, r_und kd_int.und, r_zero hz, Value.cells, hr]
      rw [hrun]
      rw [Nat.add_zero, splice_append (by simp [ints_len]; omega)] at hs'
      have e : splice (ints l) o (List.replicate (s.n - o) (Value.int .i64 0)) = ints (splice l o (List.replicate (s.n - o) 0)) := by
        unfold ints; rw [splice_map]; simp
      rw [e] at hs'
      refine ⟨(), rfl, hk (splice l o (List.replicate (s.n - o) 0)) (splice_length (by simp; omega)) ?_ w' (vec_mk h1 ?_ ?_ h4 hs')⟩
      · unfold splice
        rw [List.append_assoc, List.take_append_of_le_length (by simp; omega), List.take_take, Nat.min_self]
      · rw [ints_len, splice_length (by simp; omega), ← ints_len]; exact h2
      · rw [ints_len, splice_length (by simp; omega), ← ints_len]; exact h3
end
/-- a function value that answers as p does, where Z stands -/
def Prd (B : World) (Z : SL) (f : Fv) (p : Int → Bool) : Prop := ∀ (X : SL) (x : Int) (k : Bool → K), T B (X * Z) (k (p x)) → T B (X * Z) (dyn Tryz.prog f.v #[.int .i64 x] (.one (.sc .bool)) k)
theorem filter_take {p : Int → Bool} {l : List Int} {j : Nat} (h : j < l.length) : (l.take (j + 1)).filter p = (l.take j).filter p ++ (if p l[j] then [l[j]] else []) := by
  rw [List.take_succ_eq_append_getElem h, List.filter_append]
  congr 1
  by_cases hp : p l[j] = true
  · rw [if_pos hp, List.filter_cons_of_pos hp, List.filter_nil]
  · rw [if_neg hp, List.filter_cons_of_neg hp, List.filter_nil]
section
variable {B : World} {P R Z : SL} {t : K} {f : Fv} {p : Int → Bool}
theorem indexFunc_c (hp : Prd B Z f p) {s : Sl} {l : List Int} (hl : l.length ≤ 2 ^ 40) (h : Rd R s 1 (ints l)) {k : Int → K}
    (h0 : (∀ x ∈ l, p x = false) → T B (R * Z) (k (-1))) (h1 : ∀ (i : Nat) (hi : i < l.length), (∀ x ∈ l.take i, p x = false) → p l[i] = true → T B (R * Z) (k i)) : T B (R * Z) (c_slices_IndexFunc_Sint_int s f k) := by
  refine T_of (slices_IndexFunc_Sint_int_ok s f k) ?_
  refine T_rdlen h.init fun hn => ?_
  rw [ints_len, Nat.mul_one] at hn
  (dsimp only [slices_IndexFunc_Sint_int, Zbu0, Zbu1, Zbu2, Zbu3, Zbu4, Zbu5, Zbu6])
  refine T_lpX (fun _ _ => R * Z) (fun n (s : Int × Unit) => ∃ i : Nat, i ≤ l.length ∧ s.1 = i ∧ n = l.length - i ∧ ∀ x ∈ l.take i, p x = false) l.length rfl ⟨0, by omega, rfl, by omega, by simp⟩ ?_
  rintro n ⟨s1, u⟩ c ⟨i, hi, e1, e2, hv⟩ hc
  simp only at e1
  subst e1 e2
  (repeat' (with_reducible refine T_brD (fun _ => ?_) (fun _ => ?_)))
  · rename_i hlt
    have hlt' : i < l.length := by omega
    refine T_ixV h.init (by omega) (n := l[i]) (by rw [Int.toNat_natCast]; exact ints_at hlt') ?_
    refine hp _ _ _ ?_
    refine T_br (fun e => ?_) (fun e => ?_)
    · exact h1 i hlt' hv e
    · refine hc (l.length - (i + 1)) _ (by omega) ⟨i + 1, by omega, w64 (by omega) (by omega), rfl, fun x hx => ?_⟩
      rw [List.take_succ_eq_append_getElem hlt'] at hx
      rcases List.mem_append.1 hx with hx | hx
      · exact hv x hx
      · rw [List.mem_singleton.1 hx]; exact e
  · have : i = l.length := by omega
    subst this
    rw [List.take_length] at hv
    exact h0 hv
theorem deleteFunc_c (hp : Prd B Z f p) {s : Sl} {l : List Int} (hl : l.length ≤ 2 ^ 40) {k : Sl → K}
    (hk : ∀ s', T B (R * vec 3 1 s' (ints (l.filter fun x => !p x)) * Z) (k s')) : T B (R * vec 3 1 s (ints l) * Z) (c_slices_DeleteFunc_Sint_int s f k) := by
  refine T_of (slices_DeleteFunc_Sint_int_ok s f k) ?_
  refine T_vlen (E := 3) (sz := 1) (s := s) (vs := ints l) (.init .last) fun hn => ?_
  rw [ints_len, Nat.mul_one] at hn
  refine indexFunc_c hp hl (Rd.vec (E := 3) (s := s) (vs := ints l) .last) (fun hno => ?_) (fun i hi hbe hpi => ?_)
  · (repeat' (with_reducible refine T_brE (fun _ => ?_) (fun _ => ?_)))
    · have e : (l.filter fun x => !p x) = l := by
        rw [List.filter_eq_self]
        intro x hx; rw [hno x hx]; rfl
      have := hk s
      rw [e] at this
      exact this
    · rename_i h; exact absurd rfl h
  · (repeat' (with_reducible refine T_brE (fun _ => ?_) (fun _ => ?_)))
    · exfalso; omega
    have f0 : (l.take i).filter (fun x => !p x) = l.take i := by
      rw [List.filter_eq_self]
      intro x hx; rw [hbe x hx]; rfl
    rw [w64 (by omega) (by omega)]
    refine T_lpW (fun _ z => ex fun l' : List Int => R * vec 3 1 s (ints l') * Z * pu (l'.length = l.length ∧ l'.take z.1.toNat = (l.take z.2.1.toNat).filter (fun x => !p x) ∧ l'.drop z.2.1.toNat = l.drop z.2.1.toNat))
      (fun n (z : Int × Int × Unit) => ∃ a b : Nat, z.1 = a ∧ z.2.1 = b ∧ a < b ∧ b ≤ l.length ∧ n = l.length - b) (l.length - (i + 1)) (fun t ht => ?_) ⟨i, i + 1, rfl, by simp, by omega, by omega, rfl⟩ ?_
    · intro w hw
      refine ht w (ex_sat l (Sat.puI ⟨rfl, ?_, rfl⟩ hw))
      have e1 : ((i : Int) + 1).toNat = i + 1 := by omega
      rw [e1, Int.toNat_natCast, filter_take hi, f0, hpi]; simp
    rintro n ⟨z1, z2, u⟩ c ⟨a, b, e1, e2, e3, e4, e5⟩ hc
    simp only at e1 e2
    subst e1 e2 e5
    simp only [Int.toNat_natCast]
    refine T_exP fun l' ⟨q1, q2, q3⟩ => ?_
    have nx : ∀ (l2 : List Int) (a' : Nat), b < l.length → a' < b + 1 → l2.length = l.length → l2.take a' = (l.take (b + 1)).filter (fun x => !p x) → l2.drop (b + 1) = l.drop (b + 1) →
        T B (R * vec 3 1 s (ints l2) * Z) (c ((a' : Int), IntKind.wrap .i64 ((b : Int) + 1), ())) := by
      intro l2 a' hb ha r1 r2 r3 w hw
      have ew : IntKind.wrap .i64 ((b : Int) + 1) = ((b + 1 : Nat) : Int) := by rw [w64 (by omega) (by omega)]; omega
      refine hc (l.length - (b + 1)) _ (by omega) ⟨a', b + 1, rfl, ew, ha, by omega, rfl⟩ w (ex_sat l2 (Sat.puI ⟨r1, ?_, ?_⟩ hw))
      · simp only [ew, Int.toNat_natCast]; exact r2
      · simp only [ew, Int.toNat_natCast]; exact r3
    clear hc
    have hlen : (l'.take a).length = a := by simp; omega
    have hbb : ∀ hb : b < l.length, l'[b]'(by omega) = l[b] := by
      intro hb
      have h1 : (l'.drop b)[0]? = (l.drop b)[0]? := by rw [q3]
      rw [List.getElem?_drop, List.getElem?_drop, List.getElem?_eq_getElem (by omega), List.getElem?_eq_getElem (by omega)] at h1
      simpa using h1
    have hdr : l'.drop (b + 1) = l.drop (b + 1) := by
      rw [← List.drop_drop, ← List.drop_drop, q3]
    (repeat' (with_reducible refine T_brD (fun _ => ?_) (fun _ => ?_)))
    · rename_i hlt
      have hb : b < l.length := by omega
      refine T_ixV (Rd.vec (E := 3) (s := s) (vs := ints l') (.init .last)) (by omega) (n := l'[b]'(by omega)) (by rw [Int.toNat_natCast]; exact ints_at (by omega)) ?_
      rw [hbb hb]
      refine hp _ _ _ ?_
      cases hpb : p l[b]
      · simp only [Bool.not_false]
        (repeat (with_reducible refine T_brT ?_))
        refine T_stV (E := 3) (i := (a : Int)) (s := s) (vs := ints l') (.init .last) (by omega) (by rw [ints_len]; omega) ?_
        rw [Int.toNat_natCast, ints_set]
        have ew : IntKind.wrap .i64 ((a : Int) + 1) = ((a + 1 : Nat) : Int) := by rw [w64 (by omega) (by omega)]; omega
        (dsimp only [slices_DeleteFunc_Sint_int, Zbr0, Zbr1, Zbr2, Zbr3, Zbr4, Zbr5, Zbr6, Zbr7, Zbr8, Zbr9, Zbr10, Zbr11, Zbr12, Zbr13, Zbr14])
        rw [ew]
        refine T.perm (by ac_rfl) (nx (l'.set a l[b]) (a + 1) hb (by omega) (by rw [List.length_set]; exact q1) ?_ ?_)
        · rw [filter_take hb, hpb, ← q2]
          have h1 : a < l'.length := by omega
          rw [List.take_succ_eq_append_getElem (by rw [List.length_set]; exact h1), List.take_set_of_le (by omega)]
          simp
        · rw [List.drop_set_of_lt (by omega)]; exact hdr
      · simp only [Bool.not_true]
        (repeat (with_reducible refine T_brF ?_))
        refine nx l' a hb (by omega) q1 ?_ hdr
        rw [filter_take hb, hpb, ← q2]; simp
    · have hb : b = l.length := by omega
      subst hb
      rw [List.take_length] at q2
      refine T_lo (by omega) (by omega) ?_
      rw [Int.toNat_natCast]
      refine T_bring (X := vec 3 1 s (ints l')) (.init .last) ?_
      refine T_clearI (l := l') (o := a) rfl (by omega) fun l2 g1 g2 => ?_
      have hcap : ∀ t, ((s.n ≤ s.c) → T B (R * Z * vec 3 1 s (ints l2)) t) → T B (R * Z * vec 3 1 s (ints l2)) t := by
        intro t h w hw
        have := (Rd.vec (E := 3) (s := s) (vs := ints l2) .last) B w hw
        exact h (by omega) w hw
      refine hcap _ fun hc2 => ?_
      refine T_lo (by omega) (by omega) ?_
      rw [Int.toNat_natCast]
      refine T_vcut (s' := ⟨cutP s.p 0 s.c 1, a - 0, s.c - 0⟩) (n := a) (by omega) (by simp only [cutP_zero]) (by simp) (by simp) (by rw [ints_len]; omega) ?_
      have e3 : (ints l2).take (a * 1) = ints (l.filter fun x => !p x) := by
        unfold ints
        rw [Nat.mul_one, ← List.map_take, g2, q2]
      rw [e3]
      exact T.perm (by ac_rfl) (hk _)
end
def pIn (a b x : Int) : Bool := decide (x ≥ a) && decide (x < b)
def rmN (L : Nat → List Int) (k : Nat) (p : Int → Bool) : Nat → Nat → List Int
  | 0 => setN L k ((L k).filter fun x => !p x)
  | i + 1 => setN (rmN L k p i) (ix i k) ((rmN L k p i (ix i k)).filter fun x => !p x)
theorem rmN_get (L : Nat → List Int) {k : Nat} (hk : k < 32) (p : Int → Bool) : ∀ i, i ≤ 4 → ∀ x, rmN L k p i x = if x = k ∨ (∃ m, m < i ∧ x = ix m k) then (L x).filter (fun x => !p x) else L x := by
  intro i
  induction i with
  | zero =>
    intro _ x
    show setN L k _ x = _
    by_cases e : x = k
    · subst e; rw [setN_same, if_pos (.inl rfl)]
    · rw [setN_ne _ _ e, if_neg]
      rintro (h | ⟨m, h, _⟩)
      · exact e h
      · omega
  | succ i ih =>
    intro hi x
    have ih := ih (by omega)
    show setN (rmN L k p i) (ix i k) _ x = _
    by_cases e : x = ix i k
    · subst e
      rw [setN_same, ih, if_neg, if_pos (.inr ⟨i, by omega, rfl⟩)]
      rintro (h | ⟨m, h, h2⟩)
      · unfold ix at h; omega
      · have := (ix_inj hk hk h2).1; omega
    · rw [setN_ne _ _ e, ih x]
      by_cases e2 : x = k ∨ ∃ m, m < i ∧ x = ix m k
      · rw [if_pos e2, if_pos]
        rcases e2 with h | ⟨m, h, h2⟩
        · exact .inl h
        · exact .inr ⟨m, by omega, h2⟩
      · rw [if_neg e2, if_neg]
        rintro (h | ⟨m, h, h2⟩)
        · exact e2 (.inl h)
        · by_cases e3 : m = i
          · subst e3; exact e h2
          · exact e2 (.inr ⟨m, by omega, h2⟩)
theorem rmN_acc (L : Nat → List Int) {k : Nat} (hk : k < 32) (p : Int → Bool) : accL (rmN L k p 4) k 4 = (accL L k 4).filter (fun x => !p x) ∧ ∀ j, j < 32 → j ≠ k → accL (rmN L k p 4) j 4 = accL L j 4 := by
  have hg := rmN_get L hk p 4 (by omega)
  constructor
  · show (((rmN L k p 4 k ++ rmN L k p 4 (ix 0 k)) ++ rmN L k p 4 (ix 1 k)) ++ rmN L k p 4 (ix 2 k)) ++ rmN L k p 4 (ix 3 k) = ((((L k ++ L (ix 0 k)) ++ L (ix 1 k)) ++ L (ix 2 k)) ++ L (ix 3 k)).filter _
    rw [hg k, if_pos (.inl rfl), hg (ix 0 k), if_pos (.inr ⟨0, by omega, rfl⟩), hg (ix 1 k), if_pos (.inr ⟨1, by omega, rfl⟩), hg (ix 2 k), if_pos (.inr ⟨2, by omega, rfl⟩), hg (ix 3 k), if_pos (.inr ⟨3, by omega, rfl⟩)]
    simp only [List.filter_append]
  · intro j hj hjk
    have h1 : ∀ m, m < 4 → rmN L k p 4 (ix m j) = L (ix m j) := by
      intro m hm
      rw [hg, if_neg]
      rintro (h | ⟨m', h, h2⟩)
      · unfold ix at h; omega
      · exact hjk (ix_inj hj hk h2).2
    have h2 : rmN L k p 4 j = L j := by
      rw [hg, if_neg]
      rintro (h | ⟨m', h, h2⟩)
      · exact hjk h
      · unfold ix at h2; omega
    show (((rmN L k p 4 j ++ rmN L k p 4 (ix 0 j)) ++ rmN L k p 4 (ix 1 j)) ++ rmN L k p 4 (ix 2 j)) ++ rmN L k p 4 (ix 3 j) = ((((L j ++ L (ix 0 j)) ++ L (ix 1 j)) ++ L (ix 2 j)) ++ L (ix 3 j))
    rw [h2, h1 0 (by omega), h1 1 (by omega), h1 2 (by omega), h1 3 (by omega)]
section
variable {B : World} {P R : SL} {t : K}
theorem free_Len_c {a : Nat} {L : Nat → List Int} (hL : ∀ i, i < 160 → (L i).length ≤ 2 ^ 30) {k : Nat} (hk2 : k < 32) {kk : Int → K} (hk : T B (R * Fl a L) (kk (accL L k 4).length)) : T B (R * Fl a L) (c_free_Lists_Len (da a) k kk) := by
  refine T_of (free_Lists_Len_ok _ k kk) ?_
  (dsimp only [free_Lists_Len, Zdw0, Zdw1])
  refine free_List_c hL hk2 fun s => ?_
  refine T_vlen .last fun hn => ?_
  rw [ints_len, Nat.mul_one, sortI, List.length_mergeSort] at hn
  rw [hn]
  exact hk.weak
theorem gone_prd {b1 b2 : Nat} {u v : Int} : Prd B (pt b1 (.cells [.int .i64 u].toArray 3) * pt b2 (.cells [.int .i64 v].toArray 3)) ⟨.func 210, #[], #[.pointer (some ⟨b1, 0, none⟩), .pointer (some ⟨b2, 0, none⟩)]⟩ (pIn u v) := by
  intro X x k hk w hw
  have h : T B (X * (pt b1 (.cells [.int .i64 u].toArray 3) * pt b2 (.cells [.int .i64 v].toArray 3))) (c_free_Lists_Remove_1 x ⟨b1, 0, none⟩ ⟨b2, 0, none⟩ k) := by
    refine T_of (free_Lists_Remove_1_ok _ _ _ k) ?_
    unfold pIn at hk
    rw [← sep_assoc] at hk ⊢
    (repeat (((with_reducible apply T_ldI); (focus rfl); (focus exact hasA); (focus rfl))))
    refine T_br (fun e => ?_) (fun e => ?_)
    · rw [e, Bool.true_and] at hk
      (repeat (((with_reducible apply T_ldI); (focus rfl); (focus exact hasA); (focus rfl))))
      exact hk
    · rw [e, Bool.false_and] at hk
      exact hk
  exact .inl ⟨210, _, rfl, by kernel_rfl, h w hw⟩
theorem free_Remove_c {a : Nat} {L : Nat → List Int} (hL : ∀ i, i < 160 → (L i).length ≤ 2 ^ 30) {k : Nat} (hk2 : k < 32) {u v : Int} {kk : Int → K}
    (hk : ∀ n, T B (R * Fl a (rmN L k (pIn u v) 4)) (kk n)) : T B (R * Fl a L) (c_free_Lists_Remove (da a) k u v kk) := by
  refine T_of (free_Lists_Remove_ok _ k u v kk) ?_
  (repeat ((with_reducible refine T_al ?_; intro _)))
  rename_i b1 b2
  refine class_Right_c ?_
  rw [decide_eq_true (by omega)]
  simp only [Bool.not_true]
  (repeat (with_reducible refine T_brF ?_))
  refine T_bring (X := Fl a L) (by exact frmA) ?_
  refine free_Len_c hL hk2 ?_
  have hp := gone_prd (B := B) (b1 := b1) (b2 := b2) (u := u) (v := v)
  (dsimp only [free_Lists_Remove, Zdh0, Zdh1, Zdh2, Zdh3, Zdh4, Zdh5, Zdh6, Zdh7, Zdh8, Zdh9, Zdh10, Zdh11, Zdh12, Zdh13, Zdh14, Zdh15])
  have hlk := hL k (by omega)
  refine T_tick ?_
  refine Fl_pick (i := k) (by omega) fun S cs r ok => ?_
  unfold da
  (repeat (with_reducible refine T_nn ?_))
  refine T_gld (S := S) (.init .last) hk2 ?_
  (repeat (with_reducible refine T_nn ?_))
  refine T.perm (Q := R * MpF eslot esl r cs * bigX 160 (vI S L) k * pt a (.cells (glob S ++ [Value.map (some r)]).toArray 199) * vec 3 1 (S k) (ints (L k)) * (pt b1 (.cells [.int .i64 u].toArray 3) * pt b2 (.cells [.int .i64 v].toArray 3))) (by ac_rfl) ?_
  refine deleteFunc_c hp (by omega) fun s' => ?_
  refine T.perm (Q := R * pt b1 (.cells [.int .i64 u].toArray 3) * pt b2 (.cells [.int .i64 v].toArray 3) * MpF eslot esl r cs * bigX 160 (vI S L) k * pt a (.cells (glob S ++ [Value.map (some r)]).toArray 199) * vec 3 1 s' (ints ((L k).filter fun x => !pIn u v x))) (by ac_rfl) ?_
  refine T_gst (S := S) (s := s') hk2 (.init .last) ?_
  refine Fl_put (i := k) (by omega) (ok.glob hk2 s') ?_
  have hlen : ∀ i, i ≤ 4 → ∀ x, x < 160 → (rmN L k (pIn u v) i x).length ≤ 2 ^ 30 := by
    intro i hi x hx
    rw [rmN_get L hk2 _ i hi x]
    have := hL x hx
    split
    · exact Nat.le_trans (List.length_filter_le _ _) this
    · exact this
  refine T_lpX (fun _ z => R * pt b1 (.cells [.int .i64 u].toArray 3) * pt b2 (.cells [.int .i64 v].toArray 3) * Fl a (rmN L k (pIn u v) z.1.toNat)) (fun n (z : Int × Unit) => ∃ i : Nat, z.1 = i ∧ i ≤ 4 ∧ n = 4 - i) 4 rfl ⟨0, rfl, by omega, rfl⟩ ?_
  rintro n ⟨z, uu⟩ c ⟨i, e1, e2, e3⟩ hc
  simp only at e1
  subst e1 e3
  simp only [Int.toNat_natCast]
  (repeat' (first | with_reducible refine T_nn ?_ | with_reducible refine T_tick ?_ | (with_reducible refine T_al ?_; intro _) | ((with_reducible apply T_st); (focus rfl); (focus exact updA); (focus simp); simp only [List.set, Nat.zero_add, Nat.reduceAdd]) | with_reducible refine T_brD (fun _ => ?_) (fun _ => ?_)))
  · rename_i hlt b3
    have hi : i < 4 := by omega
    have hix : ix i k < 160 := by unfold ix; omega
    have hnx := hc (4 - (i + 1)) (IntKind.wrap .i64 ((i : Int) + 1), ()) (by omega) ⟨i + 1, w64 (by omega) (by omega), by omega, rfl⟩
    have e : (IntKind.wrap .i64 ((i : Int) + 1)).toNat = i + 1 := by rw [w64 (by omega) (by omega)]; omega
    simp only [e] at hnx
    clear hc
    have hl0 := hlen i e2 _ hix
    have hnx : T B (R * pt b1 (.cells [.int .i64 u].toArray 3) * pt b2 (.cells [.int .i64 v].toArray 3) * Fl a (setN (rmN L k (pIn u v) i) (ix i k) ((rmN L k (pIn u v) i (ix i k)).filter fun x => !pIn u v x))) (c (IntKind.wrap .i64 ((i : Int) + 1), ())) := hnx
    generalize rmN L k (pIn u v) i = L0 at *
    refine T_bring (X := Fl a L0) (by exact frmA) ?_
    refine Fl_pick hix fun S cs r ok => ?_
    (repeat (first | ((with_reducible apply T_ldI); (focus rfl); (focus exact hasA); (focus rfl)) | ((with_reducible apply T_ldM); (focus rfl); (focus exact hasA); (focus rfl))))
    refine T_lkF (ek := eslot) (ev := esl) kd_slot (MHas.init (MHas.init (MHas.init (MHas.of .last)))) (key := ((i : Int), (k : Int))) (f := cs) ((cs ((i : Int), (k : Int))).getD nilS) (by cases cs ((i : Int), (k : Int)) <;> rfl) fun ob => ?_
    have hS := ok.eq i k hi hk2
    refine T_vlen (E := 3) (sz := 1) (s := S (ix i k)) (vs := ints (L0 (ix i k))) .last fun hn => ?_
    rw [ints_len, Nat.mul_one] at hn
    cases hcs : cs ((i : Int), (k : Int)) with
    | none =>
      rw [hcs] at hS
      have hn0 : (S (ix i k)).n = 0 := by rw [← hS]; rfl
      have h0 : L0 (ix i k) = [] := List.eq_nil_of_length_eq_zero (by omega)
      have e0 : setN L0 (ix i k) ((L0 (ix i k)).filter fun x => !pIn u v x) = L0 := by
        rw [h0, List.filter_nil, ← h0, setN_self]
      rw [e0] at hnx
      simp only [Option.isSome_none]
      (repeat (with_reducible refine T_brF ?_))
      refine T_drop1 (by exact frmA : Frm _ (pt b3 (.cells [.int .i64 i, .int .i64 k].toArray 201)) _) ?_
      have h2 := Fl_put (B := B) (R := R * pt b1 (.cells [.int .i64 u].toArray 3) * pt b2 (.cells [.int .i64 v].toArray 3)) (a := a) (i := ix i k) (r := r) (L := L0) (S := S) (cs := cs) (s := S (ix i k)) (l := L0 (ix i k)) hix (by rw [setN_self]; exact ok) (t := c (IntKind.wrap .i64 ((i : Int) + 1), ())) (by rw [setN_self]; exact hnx)
      rw [setN_self] at h2
      exact h2
    | some s0 =>
      rw [hcs] at hS
      simp only [Option.isSome_some, Option.getD_some] at hS ⊢
      subst hS
      (repeat (first | with_reducible refine T_nn ?_ | with_reducible refine T_tick ?_ | with_reducible refine T_brT ?_ | ((with_reducible apply T_ldI); (focus rfl); (focus exact hasA); (focus rfl)) | ((with_reducible apply T_ldM); (focus rfl); (focus exact hasA); (focus rfl))))
      refine T.perm (Q := R * pt b3 (.cells [.int .i64 i, .int .i64 k].toArray 201) * MpF eslot esl r cs * bigX 160 (vI S L0) (ix i k) * pt a (.cells (glob S ++ [Value.map (some r)]).toArray 199) * vec 3 1 (S (ix i k)) (ints (L0 (ix i k))) * (pt b1 (.cells [.int .i64 u].toArray 3) * pt b2 (.cells [.int .i64 v].toArray 3))) (by ac_rfl) ?_
      refine deleteFunc_c hp (by omega) fun s' => ?_
      refine T.perm (Q := R * pt b1 (.cells [.int .i64 u].toArray 3) * pt b2 (.cells [.int .i64 v].toArray 3) * pt b3 (.cells [.int .i64 i, .int .i64 k].toArray 201) * bigX 160 (vI S L0) (ix i k) * pt a (.cells (glob S ++ [Value.map (some r)]).toArray 199) * vec 3 1 s' (ints ((L0 (ix i k)).filter fun x => !pIn u v x)) * MpF eslot esl r cs) (by ac_rfl) ?_
      (repeat (first | with_reducible refine T_chk0 ?_ | ((with_reducible apply T_chk); (focus rfl); (focus exact hasA); (focus rfl))))
      refine T_updM (ek := eslot) (ev := esl) kd_slot (v := s') (key := ((i : Int), (k : Int))) rfl rfl ?_
      refine T_drop1 (by exact frmA : Frm _ (pt b3 (.cells [.int .i64 i, .int .i64 k].toArray 201)) _) ?_
      have h2 := Fl_put (r := r) hix (ok.slot hi hk2 s') hnx
      rw [glob_setN S (by unfold ix; omega)] at h2
      exact T.perm (by ac_rfl) h2
  · have : i = 4 := by omega
    subst this
    refine free_Len_c (hlen 4 (by omega)) hk2 ?_
    skip
    refine T_drop1 (by exact frmA : Frm _ (pt b1 (.cells [.int .i64 u].toArray 3)) _) ?_
    refine T_drop1 (by exact frmA : Frm _ (pt b2 (.cells [.int .i64 v].toArray 3)) _) ?_
    exact hk _
end
section
set_option maxHeartbeats 1000000
theorem hd_one {hs : List Hd} {b : Nat} {h : Hd} (hb : b < hs.length) (i : Nat) : hd (splice hs b [h]) i = if i = b then h else hd hs i := by
  unfold hd
  rw [splice_getD (by simp; omega)]
  simp only [List.length_singleton]
  by_cases e : i = b
  · subst e; rw [if_pos (by omega), if_pos rfl]; simp
  · rw [if_neg (by omega), if_neg e]
theorem hd_lt {hs : List Hd} {b : Nat} (h : (hd hs b).1 ≠ 0) : b < hs.length := by
  refine Classical.byContradiction fun hn => h ?_
  unfold hd; rw [List.getD_eq_getElem?_getD, List.getElem?_eq_none (by omega)]; rfl
theorem pIn_block {b x : Nat} : pIn ((b * 512 : Nat) : Int) (((b * 512 : Nat) : Int) + 512) (x : Int) = decide (x / 512 = b) := by
  unfold pIn
  rw [Bool.eq_iff_iff]
  simp only [Bool.and_eq_true, decide_eq_true_eq]
  omega
theorem Inv.trim {g : Nat} {hs : List Hd} {U : Nat → Bool} {L : Nat → List Int} (h : Inv g hs U L) {b k : Nat} (hk : k < 32) (hb : 1 ≤ b) (hh : hd hs b = (1, (k : Int), 0)) (hu : ∀ x, x / 512 = b → U x = false) :
    Inv g (splice hs b [(0, 0, 0)]) U (rmN L k (pIn ((b * 512 : Nat) : Int) (((b * 512 : Nat) : Int) + 512)) 4) := by
  have hl := h.len
  have hlt : b < hs.length := hd_lt (by rw [hh]; simp)
  have hhd := fun i => hd_one (h := ((0, 0, 0) : Hd)) hlt i
  obtain ⟨a1, a2⟩ := rmN_acc L hk (pIn ((b * 512 : Nat) : Int) (((b * 512 : Nat) : Int) + 512))
  have hw' : ∀ {b0 n0}, WholeP hs b0 n0 → WholeP (splice hs b [(0, 0, 0)]) b0 n0 := by
    intro b0 n0 hw
    refine hw.keep (splice_length (by simp; omega)) fun i h1 h2 => ?_
    rw [hhd, if_neg]
    intro e; subst e
    rcases hw.kind h1 h2 with ⟨_, h3⟩ | ⟨_, h3⟩ <;> (rw [hh] at h3; simp at h3)
  have hsm : ∀ j, j < 32 → ∀ x, SmCell g (splice hs b [(0, 0, 0)]) j x ↔ SmCell g hs j x ∧ x / 512 ≠ b := by
    intro j hj x
    constructor
    · rintro ⟨b', i, h1, h2, h3, h4, rfl⟩
      rw [hhd] at h3
      by_cases e : b' = b
      · rw [if_pos e] at h3; simp at h3
      · rw [if_neg e] at h3
        exact ⟨⟨b', i, h1, h2, h3, h4, rfl⟩, by rw [cellN_blk hj h4]; exact e⟩
    · rintro ⟨⟨b', i, h1, h2, h3, h4, rfl⟩, hne⟩
      rw [cellN_blk hj h4] at hne
      exact ⟨b', i, h1, h2, by rw [hhd, if_neg hne]; exact h3, h4, rfl⟩
  refine ⟨by rw [splice_length (by simp; omega)]; exact hl, h.two, h.big, fun x hx => ?_, ?_, fun b0 hb0 => ?_, fun b0 hb0 => ?_, fun x hx => ?_, ⟨fun j hj => ?_, fun j hj y => ?_⟩⟩
  · unfold splice at hx
    simp only [List.mem_append, List.mem_singleton] at hx
    rcases hx with (hx | rfl) | hx
    · exact h.right x (List.mem_of_mem_take hx)
    · exact .inl rfl
    · exact h.right x (List.mem_of_mem_drop hx)
  · rw [hhd, if_neg (by omega)]; exact h.zero
  · rw [hhd] at hb0
    by_cases e : b0 = b
    · rw [if_pos e] at hb0; simp at hb0
    · rw [if_neg e] at hb0
      obtain ⟨n, hw⟩ := h.whole b0 hb0
      exact ⟨n, hw' hw⟩
  · rw [hhd] at hb0
    by_cases e : b0 = b
    · rw [if_pos e] at hb0; simp at hb0
    · rw [if_neg e] at hb0
      obtain ⟨b1, n, hw, h1, h2⟩ := h.cont b0 hb0
      exact ⟨b1, n, hw' hw, h1, h2⟩
  · rcases h.used x hx with ⟨j, hj, hc⟩ | ⟨b0, n, h1, hw, h2⟩
    · refine .inl ⟨j, hj, (hsm j hj x).2 ⟨hc, fun e => ?_⟩⟩
      rw [hu x e] at hx; cases hx
    · exact .inr ⟨b0, n, h1, hw' hw, h2⟩
  · by_cases e : j = k
    · subst e; rw [a1]; exact (h.free.nd j hj).filter _
    · rw [a2 j hj e]; exact h.free.nd j hj
  · by_cases e : j = k
    · subst e
      rw [a1, List.mem_filter, h.free.mem j hj]
      constructor
      · rintro ⟨⟨x, rfl, h1, h2⟩, h3⟩
        rw [pIn_block] at h3
        exact ⟨x, rfl, (hsm j hj x).2 ⟨h1, by simpa using h3⟩, h2⟩
      · rintro ⟨x, rfl, h1, h2⟩
        obtain ⟨h1, h3⟩ := (hsm j hj x).1 h1
        refine ⟨⟨x, rfl, h1, h2⟩, ?_⟩
        rw [pIn_block]; simpa using h3
    · rw [a2 j hj e, h.free.mem j hj]
      constructor
      · rintro ⟨x, rfl, h1, h2⟩
        refine ⟨x, rfl, (hsm j hj x).2 ⟨h1, fun e2 => ?_⟩, h2⟩
        obtain ⟨b', i, _, _, h3, h4, rfl⟩ := h1
        rw [cellN_blk hj h4] at e2
        subst e2
        rw [hh] at h3
        simp only [Prod.mk.injEq] at h3
        omega
      · rintro ⟨x, rfl, h1, h2⟩
        exact ⟨x, rfl, ((hsm j hj x).1 h1).1, h2⟩
def trimS (s : St) (b k : Nat) (F' : RF) : St := { s with hs := splice s.hs b [(0, 0, 0)], F := F', c := wrH s.c b [(0, 0, 0)], L := rmN s.L k (pIn ((b * 512 : Nat) : Int) (((b * 512 : Nat) : Int) + 512)) 4 }
section
variable {B : World} {P R : SL} {t : K}
theorem Trim_c {a d g : Nat} {s : St} (inv : Inv g s.hs s.U s.L) {b : Int} {kk : Bool × Int → K} (h0 : T B (R * Al a d g s) (kk (false, 0)))
    (h1 : ∀ (n k : Nat) F', b = n → 1 ≤ n → k < 32 → hd s.hs n = (1, (k : Int), 0) → (∀ x, x / 512 = n → s.U x = false) → T B (R * Al a d g (trimS s n k F')) (kk (true, 0))) :
    T B (R * Al a d g s) (c_alloc_Allocator_Trim (da a) b kk) := by
  refine T_of (alloc_Allocator_Trim_ok _ b kk) ?_
  have hg := inv.big
  have hl := inv.len
  refine Al_open fun m u f => ?_
  unfold da
  (repeat (first | with_reducible refine T_nn ?_ | ((with_reducible apply T_ldP); (focus rfl); (focus exact hasA); (focus rfl))))
  refine T_bring (X := Mg m d g s.hs s.F) (by exact frmA) ?_
  refine Mg_open fun tt xx tie => ?_
  unfold da
  (repeat (((with_reducible apply T_ldP); (focus rfl); (focus exact hasA); (focus rfl))))
  refine T_bring (X := Tab tt d g s.hs) (by exact frmA) ?_
  refine blocks_Get_c ?_
  (repeat (first | with_reducible refine T_nn ?_ | ((with_reducible apply T_ldI); (focus rfl); (focus exact hasA); (focus rfl)) | (with_reducible refine T_al ?_; intro _) | ((with_reducible apply T_st); (focus rfl); (focus exact updA); (focus simp); simp only [List.set, Nat.zero_add, Nat.reduceAdd])))
  rename_i b0
  have cl : ∀ t, T B (R * Al a d g s) t → T B (R * LDx d (64 * g) s.c * Bm u (512 * g) s.U * Fl f s.L * pt a (.cells [.pointer (some ⟨m, 0, none⟩), .pointer (some ⟨d, 0, none⟩), .int .i64 g, .pointer (some ⟨u, 0, none⟩), .pointer (some ⟨f, 0, none⟩)].toArray 47) * Idx xx g s.F * pt m (.cells [.pointer (some ⟨tt, 0, none⟩), .pointer (some ⟨xx, 0, none⟩), .int .i64 g].toArray 51) * Tab tt d g s.hs) t := by
    intro t h
    have h2 := Al_close (m := m) (u := u) (f := f) h
    have h3 : T B (R * LDx d (64 * g) s.c * Bm u (512 * g) s.U * Fl f s.L * pt a (.cells [.pointer (da m), .pointer (da d), .int .i64 g, .pointer (da u), .pointer (da f)].toArray 47) * Mg m d g s.hs s.F) t := T.perm (by ac_rfl) h2
    have h4 := Mg_close (a := tt) (x := xx) tie h3
    exact T.perm (by unfold da; ac_rfl) h4
  generalize hh : (if b < 1 then ((0, 0, 0) : Hd) else s.hs.getD b.toNat (0, 0, 0)) = h
  obtain ⟨h1', h2', h3'⟩ := h
  have hb0 : h1' ≠ 0 → 1 ≤ b ∧ hd s.hs b.toNat = (h1', h2', h3') := by
    intro hne
    split at hh
    · simp only [Prod.mk.injEq] at hh; omega
    · exact ⟨by omega, hh⟩
  refine geom_First_c (by omega) ?_
  (dsimp only [alloc_Allocator_Trim, Zeo0, Zeo1, Zeo2, Zeo3, Zeo4, Zeo5, Zeo6, Zeo7, Zeo8, Zeo9, Zeo10])
  refine T_ldI (n := h1') (by rw [add_mk]) .last rfl ?_
  refine T_brNE (fun hne => ?_) (fun heq => ?_)
  · (repeat (with_reducible refine T_brT ?_))
    refine T_drop1 .last ?_
    exact cl _ h0
  subst heq
  obtain ⟨hb1, hbh⟩ := hb0 (by decide)
  obtain ⟨n, rfl⟩ := Int.eq_ofNat_of_zero_le (show 0 ≤ b by omega)
  rw [Int.toNat_natCast] at hbh
  have hlt : n < s.hs.length := hd_lt (by rw [hbh]; simp)
  have hrt := hRight_mem inv.right n
  rw [hbh] at hrt
  unfold hRight at hrt
  simp only [Prod.mk.injEq] at hrt
  obtain ⟨k, rfl⟩ := Int.eq_ofNat_of_zero_le (show 0 ≤ h2' by omega)
  have hk : k < 32 := by omega
  have h30 : h3' = 0 := by omega
  subst h30
  have hf : first g (n : Int) = ((n * 512 : Nat) : Int) := by unfold first; rw [if_neg (by omega)]; omega
  have ew : IntKind.wrap .i64 (((n * 512 : Nat) : Int) + 512) = ((n * 512 : Nat) : Int) + 512 := w64 (by omega) (by omega)
  rw [hf]
  (repeat (first | with_reducible refine T_nn ?_ | ((with_reducible apply T_ldP); (focus rfl); (focus exact hasA); (focus rfl))))
  rw [ew]
  refine T_bring (X := Bm u (512 * g) s.U) (by exact frmA) ?_
  refine bitmap_Between_c (by omega) fun q hq => ?_
  by_cases hq0 : q = 0
  · subst hq0
    have hun : ∀ x, x / 512 = n → s.U x = false := fun x hx => hq.1 rfl x (by omega) (by omega)
    (repeat' (first | with_reducible refine T_nn ?_ | with_reducible refine T_tick ?_ | ((with_reducible apply T_ldI); (focus rfl); (focus exact hasA); (focus rfl)) | ((with_reducible apply T_ldP); (focus rfl); (focus exact hasA); (focus rfl)) | with_reducible refine T_brD (fun _ => ?_) (fun _ => ?_)))
    · exfalso; omega
    refine T_bring (X := Fl f s.L) (by exact frmA) ?_
    refine free_Remove_c (fun i hi => by have := inv.free.lens hg i hi; omega) hk fun _ => ?_
    (repeat (first | with_reducible refine T_nn ?_ | ((with_reducible apply T_ldP); (focus rfl); (focus exact hasA); (focus rfl))))
    refine T_drop1 (by exact frmA : Frm _ (pt b0 (.cells [.int .i64 1, .int .i64 k, .int .i64 0].toArray 143)) _) ?_
    refine T.perm (Q := R * LDx d (64 * g) s.c * pt a (.cells [.pointer (some ⟨m, 0, none⟩), .pointer (some ⟨d, 0, none⟩), .int .i64 g, .pointer (some ⟨u, 0, none⟩), .pointer (some ⟨f, 0, none⟩)].toArray 47) * Bm u (512 * g) s.U * Fl f (rmN s.L k (pIn ((n * 512 : Nat) : Int) (((n * 512 : Nat) : Int) + 512)) 4) * Tab tt d g s.hs * Idx xx g s.F * pt m (.cells [.pointer (da tt), .pointer (da xx), .int .i64 g].toArray 51)) (by unfold da; ac_rfl) ?_
    refine Mg_close tie ?_
    refine T_bring (X := LDx d (64 * g) s.c) (by exact frmA) ?_
    refine T_bring (X := Mg m d g s.hs s.F) (by exact frmA) ?_
    refine bman_Release_c (nn := 1) rfl (by omega) (.inl ⟨by rw [show s.hs.getD n (0, 0, 0) = hd s.hs n from rfl, hbh], rfl, hlt⟩) fun F' tie' => ?_
    (repeat' (with_reducible refine T_brNE (fun _ => ?_) (fun _ => ?_)))
    · rename_i h; exact absurd rfl h
    have h2 := Al_close (m := m) (u := u) (f := f) (h1 n k F' rfl (by omega) hk hbh hun)
    exact T.perm (by unfold da; ac_rfl) h2
  · (repeat' (first | with_reducible refine T_nn ?_ | with_reducible refine T_tick ?_ | ((with_reducible apply T_ldI); (focus rfl); (focus exact hasA); (focus rfl)) | ((with_reducible apply T_ldP); (focus rfl); (focus exact hasA); (focus rfl)) | with_reducible refine T_brD (fun _ => ?_) (fun _ => ?_)))
    · refine T.perm (Q := R * LDx d (64 * g) s.c * Bm u (512 * g) s.U * Fl f s.L * pt a (.cells [.pointer (some ⟨m, 0, none⟩), .pointer (some ⟨d, 0, none⟩), .int .i64 g, .pointer (some ⟨u, 0, none⟩), .pointer (some ⟨f, 0, none⟩)].toArray 47) * Idx xx g s.F * pt m (.cells [.pointer (some ⟨tt, 0, none⟩), .pointer (some ⟨xx, 0, none⟩), .int .i64 g].toArray 51) * Tab tt d g s.hs * pt b0 (.cells [.int .i64 1, .int .i64 k, .int .i64 0].toArray 143)) (by ac_rfl) ?_
      refine T_drop1 .last ?_
      exact cl _ h0
    · exfalso; omega
end
end
section
set_option maxHeartbeats 1000000
/-- the device's words fit what the allocator knows -/
structure Pl (g : Nat) (s : St) : Prop where
  len : s.c.length = 512 * g
  hdr : ∀ b : Nat, 1 ≤ b → b < g → getI s.c (256 + b) = benc b (hd s.hs b)
  obj : ∀ x, s.U x = true → ∃ o, PlOk s.c (64 * g) s.hs g (x : Int) o
  large : ∀ b n, 1 ≤ b → WholeP s.hs b n → s.U (b * 512) = true
theorem oHead_keep {c c' : List Int} {n : Nat} {a : Int} (h : getI c' a = getI c a) : oHead c' n a = oHead c n a := by unfold oHead; rw [h]
theorem getI_nat (c : List Int) (x : Nat) : getI c (x : Int) = c.getD x 0 := by unfold getI; rw [if_neg (by omega), Int.toNat_natCast]
theorem getI_eq {c c' : List Int} {x : Nat} (h : c'[x]? = c[x]?) : getI c' (x : Int) = getI c (x : Int) := by rw [getI_nat, getI_nat, List.getD_eq_getElem?_getD, List.getD_eq_getElem?_getD, h]
theorem PlOk.keep {c c' : List Int} {n g x : Nat} {hs hs' : List Hd} {o : Ob} (h : PlOk c n hs g (x : Int) o) (hl : hs'.length = hs.length) (hc : c'[x]? = c[x]?) (hh : hd hs' (x / 512) = hd hs (x / 512)) (hw : ∀ m, WholeP hs (x / 512) m → WholeP hs' (x / 512) m) : PlOk c' n hs' g (x : Int) o := by
  obtain ⟨h1, h2, h3, h4⟩ := h
  obtain ⟨x', e1, e2, _, _⟩ := blockOf_nat h2
  have : x' = x := by omega
  subst this
  refine ⟨by rw [oHead_keep (getI_eq hc)]; exact h1, h2, by rw [hl]; exact h3, ?_⟩
  rw [e2, Int.toNat_natCast] at h4 ⊢
  rcases h4 with ⟨k, g1, g2, g3, g4⟩ | ⟨g1, m, g2, g3, g4⟩
  · exact .inl ⟨k, g1, g2, g3, by rw [hh]; exact g4⟩
  · exact .inr ⟨g1, m, hw m g2, g3, g4⟩
/-- an object's place -/
theorem PlOk.place {c : List Int} {n g x : Nat} {hs : List Hd} {o : Ob} (h : PlOk c n hs g (x : Int) o) : x < 512 * g ∧ 512 ≤ x ∧ oHead c n x = (o, 0) ∧
    ((∃ k : Nat, k < 32 ∧ kOf (oSize o) = ((k : Int), true) ∧ SmCell g hs k x) ∨ (∃ b m : Nat, x = b * 512 ∧ 1 ≤ b ∧ kOf (oSize o) = (0, false) ∧ WholeP hs b m ∧ (m : Int) = oBlocks o)) := by
  obtain ⟨h1, h2, h3, h4⟩ := h
  obtain ⟨x', e1, e2, e3, e4⟩ := blockOf_nat h2
  have : x' = x := by omega
  subst this
  refine ⟨by omega, e4, h1, ?_⟩
  rcases h4 with ⟨k, g1, g2, g3, g4⟩ | ⟨g1, m, g2, g3, g4⟩
  · obtain ⟨y, e5, hc⟩ := cellOf_sm g1 h2 g3 g4
    have : y = x' := by omega
    subst this
    exact .inl ⟨k, g1, g2, hc⟩
  · rw [e2] at g3
    rw [e2, Int.toNat_natCast] at g2
    have hb : x' = x' / 512 * 512 := by
      unfold first at g3
      split at g3 <;> omega
    exact .inr ⟨x' / 512, m, hb, by omega, g1, g2, g4⟩
theorem blockOf_of {g x : Nat} (h : x < 512 * g) : blockOf g (x : Int) = ((x / 512 : Nat) : Int) := by unfold blockOf; rw [if_neg (by omega)]; omega
theorem oRight_of {o : Ob} (h : oSize o ≠ 0) : oRight o := by
  by_cases hr : oRight o
  · exact hr
  · exact absurd (by unfold oSize; rw [if_neg hr]) h
theorem oHead_of {c : List Int} {n x : Nat} {o : Ob} (h : getI c x = oenc x o) (hz : oSize o ≠ 0) (hf : (x : Int) + oSize o ≤ ((8 * n : Nat) : Int)) : oHead c n x = (o, 0) := by
  have hr := oSize_rng o
  unfold oHead
  rw [h, odec_oenc (oRight_of hz), if_neg]
  simp only
  omega
theorem PlOk.small {c : List Int} {g x k : Nat} {hs : List Hd} {o : Ob} (hl : hs.length = g) (hh : oHead c (64 * g) x = (o, 0)) (hk : k < 32) (hko : kOf (oSize o) = ((k : Int), true)) (hc : SmCell g hs k x) : PlOk c (64 * g) hs g (x : Int) o := by
  obtain ⟨b, i, h1, h2, h3, h4, rfl⟩ := hc
  have hr := cellN_rng (b := b) hk h4
  obtain ⟨t1, t2, t3, t4, t5, t6, t7, t8⟩ := cls_tab k hk
  have hlt : cellN b k i < 512 * g := by omega
  have hb := blockOf_of hlt
  rw [cellN_blk hk h4] at hb
  refine ⟨hh, by omega, by omega, .inl ⟨k, hk, hko, ?_, by rw [hb, Int.toNat_natCast]; exact h3⟩⟩
  unfold cellOf
  rw [if_neg (by rw [hb]; omega), hb]
  simp only [decide_eq_true_eq, t1]
  have e : ((cellN b k i : Nat) : Int) % 512 / (cw k : Int) = ((i : Nat) : Int) := by
    have e1 : cellN b k i % 512 = i * cw k := by
      have h5 := hr.2
      have h6 := hr.1
      unfold cellN at h5 h6 ⊢
      omega
    have e2 : ((cellN b k i : Nat) : Int) % 512 = ((i * cw k : Nat) : Int) := by omega
    rw [e2, ← Int.natCast_ediv, Nat.mul_div_cancel _ (by omega)]
  rw [e]
  exact cellAt_eq hk h1 h2 h4
theorem PlOk.large {c : List Int} {g b m : Nat} {hs : List Hd} {o : Ob} (hl : hs.length = g) (hh : oHead c (64 * g) ((b * 512 : Nat) : Int) = (o, 0)) (hb : 1 ≤ b) (hko : kOf (oSize o) = (0, false)) (hw : WholeP hs b m) (hm : (m : Int) = oBlocks o) : PlOk c (64 * g) hs g ((b * 512 : Nat) : Int) o := by
  have := hw.1
  have := hw.2.1
  have hlt : b * 512 < 512 * g := by omega
  have hbo := blockOf_of hlt
  rw [Nat.mul_div_cancel _ (by omega)] at hbo
  refine ⟨hh, by omega, by omega, .inr ⟨hko, m, by rw [hbo, Int.toNat_natCast]; exact hw, ?_, hm⟩⟩
  rw [hbo]; unfold first; rw [if_neg (by omega)]; omega
theorem WholeP.disj {hs : List Hd} {b n b' n' i : Nat} (h : WholeP hs b n) (h' : WholeP hs b' n') (hne : b' ≠ b) (h1 : b ≤ i) (h2 : i < b + n) : ¬ (b' ≤ i ∧ i < b' + n') := by
  intro e
  rcases h.kind h1 h2 with ⟨h3, h4⟩ | ⟨h3, h4⟩ <;> rcases h'.kind e.1 e.2 with ⟨h5, h6⟩ | ⟨h5, h6⟩
  · omega
  · omega
  · omega
  · have e1 := h.2.2.2.2 (i - b) (by omega) (by omega)
    have e2 := h'.2.2.2.2 (i - b') (by omega) (by omega)
    rw [show b + (i - b) = i by omega] at e1
    rw [show b' + (i - b') = i by omega] at e2
    rw [e1] at e2
    simp only [Prod.mk.injEq] at e2
    omega
/-- only free blocks' headers are turned -/
def Chg (hs hs' : List Hd) : Prop := hs'.length = hs.length ∧ ∀ i, (hd hs i).1 ≠ 0 → hd hs' i = hd hs i
theorem Chg.whole {hs hs' : List Hd} {b n : Nat} (h : Chg hs hs') (hw : WholeP hs b n) : WholeP hs' b n :=
  hw.keep h.1 fun i h1 h2 => h.2 i (by rcases hw.kind h1 h2 with ⟨_, h3⟩ | ⟨_, h3⟩ <;> omega)
theorem PlOk.chg {c c' : List Int} {n g x : Nat} {hs hs' : List Hd} {o : Ob} (h : PlOk c n hs g (x : Int) o) (hg : Chg hs hs') (hc : c'[x]? = c[x]?) : PlOk c' n hs' g (x : Int) o := by
  refine h.keep hg.1 hc (hg.2 _ ?_) (fun m hw => hg.whole hw)
  obtain ⟨_, _, _, h4⟩ := h.place
  rcases h4 with ⟨k, hk, _, b, i, _, _, h1, h2, rfl⟩ | ⟨b, m, rfl, _, _, hw, _⟩
  · rw [cellN_blk hk h2, h1]; simp
  · rw [Nat.mul_div_cancel _ (by omega)]
    have := hw.2.2.1
    unfold hd; omega
theorem hdr_put {g b : Nat} {c : List Int} {hs xs : List Hd} (hl : hs.length = g) (hc : c.length = 512 * g) (hfit : b + xs.length ≤ g) (h : ∀ b' : Nat, 1 ≤ b' → b' < g → getI c (256 + b') = benc b' (hd hs b')) :
    ∀ b' : Nat, 1 ≤ b' → b' < g → getI (wrH c b xs) (256 + b') = benc b' (hd (splice hs b xs) b') := by
  intro b' h1 h2
  have e : (256 + (b' : Int)) = ((256 + b' : Nat) : Int) := by omega
  rw [e, getI_nat, List.getD_eq_getElem?_getD, wrH_get]
  unfold hd
  rw [splice_getD (by omega)]
  by_cases hin : b ≤ b' ∧ b' < b + xs.length
  · rw [if_neg (by omega), if_pos hin, show 256 + b' - (256 + b) = b' - b by omega, List.getElem?_eq_getElem (by omega), List.getD_eq_getElem?_getD, List.getElem?_eq_getElem (by omega)]
    simp only [Option.map_some, Option.getD_some]
    congr 1; omega
  · rw [if_pos (by omega), if_neg hin, ← List.getD_eq_getElem?_getD, ← getI_nat, ← e]
    exact h b' h1 h2
theorem RoomR.chg {g : Nat} {s s1 : St} {o : Ob} {x : Nat} (tie : Tie g s.hs s.F) (h : RoomR g s o s1 x) : Chg s.hs s1.hs := by
  have hl := tie.len
  rcases h with ⟨k, _, _, _, h⟩ | ⟨n, _, _, _, _, h⟩
  · rcases h.from_ with ⟨h1, _⟩ | ⟨b, q, h1, h2, _, _, h3, h4, _⟩
    · rw [h1]; exact ⟨rfl, fun _ _ => rfl⟩
    · rw [h4]
      refine ⟨splice_length (by simp; omega), fun i hi => ?_⟩
      rw [hd_one (by omega), if_neg]
      intro e; subst e; exact hi h3
  · obtain ⟨b, q, _, h1, h2, _, h3, h4, _, h5, _⟩ := h.from_
    rw [h5]
    have hfit : b + (runH n).length ≤ s.hs.length := by rw [runH_len]; omega
    refine ⟨splice_length hfit, fun i hi => ?_⟩
    unfold hd
    rw [splice_getD hfit, if_neg]
    rintro ⟨e1, e2⟩
    rw [runH_len] at e2
    have := (tie.fr i).1 ⟨(b : Int), q, h3, by omega, by omega⟩
    rw [Int.toNat_natCast] at this
    exact hi this.2.2
/-- what stands behind an object that is made isn't touched -/
theorem RoomR.apart {g : Nat} {s s1 : St} {o : Ob} {x y : Nat} (h : RoomR g s o s1 x) (hz : oSize o ≠ 0) (hy : s.U y = true) : y ≠ x ∧ ¬ (x < y ∧ y < x + (oSize o).toNat) := by
  obtain ⟨inv, hun, _⟩ := h.inv
  have hr := oSize_rng o
  refine ⟨fun e => (by subst e; rw [hun] at hy; cases hy), ?_⟩
  rintro ⟨e1, e2⟩
  have hy' : uAdd s.U x y = true := by unfold uAdd; rw [hy]; simp
  rcases h with ⟨k, hk, hko, hs, h⟩ | ⟨n, hk, hb, _, _, h⟩
  · obtain ⟨b, i, h1, h2, h3, h4, rfl⟩ := h.cell
    have r1 := cellN_rng (b := b) hk h4
    have hyb : y / 512 = b := by omega
    rcases inv.used y hy' with ⟨k', hk', b', i', g1, g2, g3, g4, rfl⟩ | ⟨b', n', g1, hw, rfl⟩
    · rw [cellN_blk hk' g4] at hyb
      subst hyb
      rw [h3] at g3
      simp only [Prod.mk.injEq] at g3
      have : k' = k := by omega
      subst this
      unfold cellN at e1 e2
      rcases Nat.lt_or_ge i i' with hi | hi
      · have := Nat.mul_le_mul_right (cw k') (show i + 1 ≤ i' from hi)
        rw [Nat.add_mul, Nat.one_mul] at this
        omega
      · have := Nat.mul_le_mul_right (cw k') hi
        omega
    · rw [Nat.mul_div_cancel _ (by omega)] at hyb
      subst hyb
      have := hw.2.2.1
      unfold hd at h3
      rw [h3] at this; simp at this
  · obtain ⟨b, q, rfl, h1, h2, hw, _⟩ := h.from_
    unfold oBlocks at hb
    have : ¬ (1 ≤ oSize o ∧ oSize o ≤ 256) := by
      intro hh
      unfold kOf at hk
      rw [if_pos hh] at hk
      simp at hk
    rw [if_neg this] at hb
    have hyb : b ≤ y / 512 ∧ y / 512 < b + n := by omega
    rcases inv.used y hy' with ⟨k', hk', b', i', g1, g2, g3, g4, rfl⟩ | ⟨b', n', g1, hw', rfl⟩
    · rw [cellN_blk hk' g4] at hyb
      rcases hw.kind hyb.1 hyb.2 with ⟨_, h3⟩ | ⟨_, h3⟩ <;> (rw [g3] at h3; simp at h3)
    · rw [Nat.mul_div_cancel _ (by omega)] at hyb
      have hne : b' ≠ b := by intro e; subst e; omega
      exact hw.disj hw' hne hyb.1 hyb.2 ⟨by omega, by have := hw'.1; omega⟩
theorem made_get {s1 : St} {o : Ob} {x y : Nat} (h1 : y ≠ x) (h2 : ¬ (x < y ∧ y < x + (oSize o).toNat)) : (made s1 o x).c[y]? = s1.c[y]? := by
  show ((zerN s1.c x (oSize o).toNat).set x (oenc x o))[y]? = _
  rw [List.getElem?_set, if_neg (Ne.symm h1), zerN_get, if_neg (by omega)]
theorem zerN_length (c : List Int) (a : Nat) : ∀ y, (zerN c a y).length = c.length
  | 0 => rfl
  | 1 => rfl
  | y + 2 => by show ((zerN c a (y + 1)).set _ _).length = _; rw [List.length_set]; exact zerN_length c a (y + 1)
theorem Pl.made {g : Nat} {s s1 : St} {o : Ob} {x : Nat} (h : Pl g s) (inv : Inv g s.hs s.U s.L) (tie : Tie g s.hs s.F) (hg : g ≤ 255) (hz : oSize o ≠ 0) (hr : RoomR g s o s1 x) : Pl g (made s1 o x) := by
  obtain ⟨inv1, hun, hu⟩ := hr.inv
  obtain ⟨f1, f2⟩ := hr.fits hz
  have hrng := oSize_rng o
  have hchg := hr.chg tie
  have hl := inv.len
  have hc1 : s1.c.length = 512 * g ∧ (∀ y, 512 ≤ y → s1.c[y]? = s.c[y]?) ∧ (∀ b' : Nat, 1 ≤ b' → b' < g → getI s1.c (256 + b') = benc b' (hd s1.hs b')) := by
    have key : ∀ b xs, 1 ≤ b → b + xs.length ≤ g → s1.hs = splice s.hs b xs → s1.c = wrH s.c b xs → s1.c.length = 512 * g ∧ (∀ y, 512 ≤ y → s1.c[y]? = s.c[y]?) ∧ (∀ b' : Nat, 1 ≤ b' → b' < g → getI s1.c (256 + b') = benc b' (hd s1.hs b')) := by
      intro b xs hb hf e1 e2
      rw [e1, e2]
      refine ⟨by rw [wrH_length]; exact h.len, fun y hy => by rw [wrH_get, if_pos (by omega)], hdr_put hl h.len hf h.hdr⟩
    rcases hr with ⟨k, _, _, _, hr⟩ | ⟨n, _, _, _, _, hr⟩
    · rcases hr.from_ with ⟨h1, _, h2, _⟩ | ⟨b, q, h1, h2, _, _, h3, h4, _, h5, _⟩
      · rw [h1, h2]; exact ⟨h.len, fun _ _ => rfl, h.hdr⟩
      · exact key b _ h1 (by simp; omega) h4 h5
    · obtain ⟨b, q, _, h1, h2, _, h3, h4, _, h5, _, h6⟩ := hr.from_
      exact key b _ h1 (by rw [runH_len]; omega) h5 h6
  obtain ⟨c1, c2, c3⟩ := hc1
  have hlen : (X.made s1 o x).c.length = 512 * g := by
    show ((zerN s1.c x (oSize o).toNat).set x (oenc x o)).length = _
    rw [List.length_set, zerN_length]; exact c1
  refine ⟨hlen, fun b' h1 h2 => ?_, fun y hy => ?_, fun b n hb hw => ?_⟩
  · have e : (256 + (b' : Int)) = ((256 + b' : Nat) : Int) := by omega
    show _ = benc b' (hd s1.hs b')
    rw [← c3 b' h1 h2, e]
    exact getI_eq (made_get (by omega) (by omega))
  · have hy : uAdd s1.U x y = true := hy
    unfold uAdd at hy
    simp only [Bool.or_eq_true, beq_iff_eq] at hy
    rcases hy with rfl | hy
    · have hhead : oHead (X.made s1 o y).c (64 * g) y = (o, 0) := by
        refine oHead_of ?_ hz (by omega)
        rw [getI_nat, List.getD_eq_getElem?_getD]
        show (((zerN s1.c y (oSize o).toNat).set y (oenc y o))[y]?).getD 0 = _
        rw [List.getElem?_set, if_pos rfl, if_pos (by rw [zerN_length]; omega)]; rfl
      refine ⟨o, ?_⟩
      rcases hr with ⟨k, hk, hko, _, hr⟩ | ⟨n, hko, hb, _, _, hr⟩
      · exact .small inv1.len hhead hk hko hr.cell
      · obtain ⟨b, q, rfl, h1, h2, hw, _⟩ := hr.from_
        exact .large inv1.len hhead h1 hko hw hb.symm
    · rw [hu] at hy
      obtain ⟨o', ho⟩ := h.obj y hy
      obtain ⟨p1, p2, _⟩ := ho.place
      obtain ⟨q1, q2⟩ := hr.apart hz hy
      exact ⟨o', ho.chg hchg (by rw [made_get q1 q2]; exact c2 y p2)⟩
  · have hw : WholeP s1.hs b n := hw
    show uAdd s1.U x (b * 512) = true
    unfold uAdd
    rw [hu]
    simp only [Bool.or_eq_true, beq_iff_eq]
    rcases hr with ⟨k, hk, hko, _, hr⟩ | ⟨n', hko, _, hn', _, hr⟩
    · right
      rcases hr.from_ with ⟨h1, _⟩ | ⟨b0, q, h1, h2, _, _, h3, h4, _⟩
      · rw [h1] at hw; exact h.large b n hb hw
      · refine h.large b n hb ?_
        rw [h4] at hw
        refine hw.keep (splice_length (by simp; omega)).symm fun i h5 h6 => ?_
        have hne : i ≠ b0 := by
          intro e; subst e
          rcases hw.kind h5 h6 with ⟨_, h7⟩ | ⟨_, h7⟩ <;> (rw [hd_one (by omega), if_pos rfl] at h7; simp at h7)
        rw [hd_one (by omega), if_neg hne]
    · obtain ⟨b0, q, rfl, h1, h2, hw0, h3, h4, _, h5, _⟩ := hr.from_
      by_cases e : b = b0
      · exact .inl (by rw [e])
      · right
        refine h.large b n hb ?_
        have hfit : b0 + (runH n').length ≤ s.hs.length := by rw [runH_len]; omega
        refine WholeP.keep (hs := s1.hs) (by rw [h5]; exact (splice_length hfit).symm) hw fun i h6 h7 => ?_
        have hd := hw.disj hw0 (Ne.symm e) h6 h7
        rw [h5]
        unfold X.hd
        rw [splice_getD hfit, if_neg (by rw [runH_len]; exact hd)]
theorem Pl.freed {g : Nat} {s s' : St} {x : Nat} (h : Pl g s) (inv : Inv g s.hs s.U s.L) (hg : g ≤ 255) (hf : FreeR g s s' x) : Pl g s' := by
  have hl := inv.len
  rcases hf.from_ with ⟨k, hk, hc, e1, e2, e3, _⟩ | ⟨b, n, rfl, hb, hw, e1, e3, _⟩
  · refine ⟨by rw [e3]; exact h.len, fun b' h1 h2 => by rw [e3, e1]; exact h.hdr b' h1 h2, fun y hy => ?_, fun b n hb hw => ?_⟩
    · rw [hf.u] at hy
      unfold uDrop at hy
      simp only [Bool.and_eq_true] at hy
      rw [e1, e3]; exact h.obj y hy.2
    · rw [e1] at hw
      have hu := h.large b n hb hw
      rw [hf.u]
      unfold uDrop
      simp only [Bool.and_eq_true, bne_iff_ne]
      refine ⟨fun e => ?_, hu⟩
      obtain ⟨b', i, _, _, h3, h4, h5⟩ := hc
      have := cellN_blk (b := b') hk h4
      have : b' = b := by omega
      subst this
      have := hw.2.2.1
      unfold hd at h3
      rw [h3] at this; simp at this
  · have hfit : b + (List.replicate n ((0, 0, 0) : Hd)).length ≤ s.hs.length := by simp; exact hw.2.1
    have hfit' : b + n ≤ g := by have := hw.2.1; omega
    have hhd : ∀ i, ¬ (b ≤ i ∧ i < b + n) → hd s'.hs i = hd s.hs i := by
      intro i hi
      rw [e1]; unfold hd
      rw [splice_getD hfit, List.length_replicate, if_neg hi]
    have hhz : ∀ i, b ≤ i ∧ i < b + n → hd s'.hs i = (0, 0, 0) := by
      intro i hi
      rw [e1]; unfold hd
      rw [splice_getD hfit, List.length_replicate, if_pos hi, List.getD_eq_getElem?_getD, List.getElem?_replicate]; split <;> rfl
    have hlen : s'.hs.length = s.hs.length := by rw [e1]; exact splice_length hfit
    refine ⟨by rw [e3, wrH_length]; exact h.len, by rw [e3, e1]; exact hdr_put hl h.len (by simp; omega) h.hdr, fun y hy => ?_, fun b' n' hb' hw' => ?_⟩
    · rw [hf.u] at hy
      unfold uDrop at hy
      simp only [Bool.and_eq_true, bne_iff_ne] at hy
      obtain ⟨o, ho⟩ := h.obj y hy.2
      obtain ⟨p1, p2, p3, p4⟩ := ho.place
      refine ⟨o, ho.keep hlen (by rw [e3, wrH_get, if_pos (by simp; omega)]) (hhd _ fun hi => ?_) fun m hm => hm.keep hlen fun i h1 h2 => hhd i fun hi => ?_⟩
      · rcases p4 with ⟨k, hk, _, b', i, _, _, h1, h2, rfl⟩ | ⟨b', m, rfl, _, _, hw', _⟩
        · rw [cellN_blk hk h2] at hi
          rcases hw.kind hi.1 hi.2 with ⟨_, h3⟩ | ⟨_, h3⟩ <;> (rw [h1] at h3; simp at h3)
        · rw [Nat.mul_div_cancel _ (by omega)] at hi
          exact hw.disj hw' (fun e => hy.1 (by rw [e])) hi.1 hi.2 ⟨by omega, by have := hw'.1; omega⟩
      · rcases p4 with ⟨k, hk, _, b', i', _, _, h3, h4, rfl⟩ | ⟨b', m', rfl, _, _, hw', _⟩
        · rw [cellN_blk hk h4] at hm
          have := hm.2.2.1
          unfold hd at h3
          rw [h3] at this; simp at this
        · rw [Nat.mul_div_cancel _ (by omega)] at hm h1 h2
          exact hw.disj hm (fun e => hy.1 (by rw [e])) hi.1 hi.2 ⟨h1, h2⟩
    · have hk : ∀ i, b' ≤ i → i < b' + n' → ¬ (b ≤ i ∧ i < b + n) := by
        intro i h1 h2 hi
        have := hhz i hi
        rcases hw'.kind h1 h2 with ⟨_, h3⟩ | ⟨_, h3⟩ <;> (rw [this] at h3; simp at h3)
      have hw2 : WholeP s.hs b' n' := hw'.keep hlen.symm fun i h1 h2 => (hhd i (hk i h1 h2)).symm
      rw [hf.u]
      unfold uDrop
      simp only [Bool.and_eq_true, bne_iff_ne]
      refine ⟨fun e => ?_, h.large b' n' hb' hw2⟩
      have : b' = b := by omega
      subst this
      have := hw'.1
      have := hw.1
      exact hk b' (by omega) (by omega) ⟨by omega, by omega⟩
theorem Pl.trimmed {g : Nat} {s : St} {b k : Nat} {F' : RF} (h : Pl g s) (inv : Inv g s.hs s.U s.L) (hg : g ≤ 255) (hk : k < 32) (hb : 1 ≤ b) (hh : hd s.hs b = (1, (k : Int), 0)) (hu : ∀ x, x / 512 = b → s.U x = false) : Pl g (trimS s b k F') := by
  have hl := inv.len
  have hlt : b < s.hs.length := hd_lt (by rw [hh]; simp)
  have hhd := fun i => hd_one (h := ((0, 0, 0) : Hd)) hlt i
  have hlen : (splice s.hs b [((0, 0, 0) : Hd)]).length = s.hs.length := splice_length (by simp; omega)
  refine ⟨by show (wrH s.c b [(0, 0, 0)]).length = _; rw [wrH_length]; exact h.len, hdr_put hl h.len (by simp; omega) h.hdr, fun y hy => ?_, fun b' n' hb' hw' => ?_⟩
  · have hy : s.U y = true := hy
    obtain ⟨o, ho⟩ := h.obj y hy
    obtain ⟨p1, p2, p3, p4⟩ := ho.place
    have hne : y / 512 ≠ b := by intro e; rw [hu y e] at hy; cases hy
    refine ⟨o, ho.keep hlen (by show (wrH s.c b [(0, 0, 0)])[y]? = _; rw [wrH_get, if_pos (by simp; omega)]) (by show hd (splice s.hs b [(0, 0, 0)]) _ = _; rw [hhd, if_neg hne]) fun m hm => hm.keep hlen fun i h1 h2 => ?_⟩
    show hd (splice s.hs b [(0, 0, 0)]) i = hd s.hs i
    rw [hhd, if_neg]
    intro e; subst e
    rcases hm.kind h1 h2 with ⟨_, h3⟩ | ⟨_, h3⟩ <;> (rw [hh] at h3; simp at h3)
  · have hw' : WholeP (splice s.hs b [(0, 0, 0)]) b' n' := hw'
    refine h.large b' n' hb' (WholeP.keep (hs := splice s.hs b [(0, 0, 0)]) hlen.symm hw' fun i h1 h2 => ?_)
    rw [hhd, if_neg]
    intro e; subst e
    rcases hw'.kind h1 h2 with ⟨_, h3⟩ | ⟨_, h3⟩ <;> (rw [hhd, if_pos rfl] at h3; simp at h3)
end
section
set_option maxRecDepth 100000
set_option maxHeartbeats 2000000
theorem wdef (n : Int) : IntKind.wrap .i64 n = if n % 18446744073709551616 ≥ 9223372036854775808 then n % 18446744073709551616 - 18446744073709551616 else n % 18446744073709551616 := by
  show (if (true && decide (n % (2 ^ 64 : Int) ≥ (2 ^ 63 : Int))) = true then n % (2 ^ 64 : Int) - (2 ^ 64 : Int) else n % (2 ^ 64 : Int)) = _
  simp only [Bool.true_and, decide_eq_true_eq]
  rfl
theorem wi_l (a b : Int) : IntKind.wrap .i64 (IntKind.wrap .i64 a + b) = IntKind.wrap .i64 (a + b) := by
  rw [wdef a, wdef (a + b), wdef]; split <;> split <;> split <;> omega
theorem wi_r (a b : Int) : IntKind.wrap .i64 (a + IntKind.wrap .i64 b) = IntKind.wrap .i64 (a + b) := by
  rw [Int.add_comm, wi_l, Int.add_comm]
/-- what is told: free, small, large blocks; objects, their words; free cells; waste -/
structure Rp where
  f : Int
  s : Int
  l : Int
  o : Int
  u : Int
  c : Int
  w : Int
def rpL (r : Rp) : List Value := [.int .i64 (IntKind.wrap .i64 r.f), .int .i64 (IntKind.wrap .i64 r.s), .int .i64 (IntKind.wrap .i64 r.l), .int .i64 (IntKind.wrap .i64 r.o), .int .i64 (IntKind.wrap .i64 r.u), .int .i64 (IntKind.wrap .i64 r.c), .int .i64 (IntKind.wrap .i64 r.w)]
def Rpt (b : Nat) (r : Rp) : SL := pt b (.cells (rpL r).toArray 93)
def Rp.add (r : Rp) (o : Ob) (room : Int) : Rp := { r with o := r.o + 1, u := r.u + oSize o, w := r.w + (room - oSize o) }
def eb (b : Bool) : Value := .bool b
theorem kd_ib : KeyD (α := Int) Tryz.prog 156 3 4 ei := by
  refine ⟨by kernel_rfl, fun a b => ?_, fun a => by kernel_rfl, fun a b h => ?_, fun a => ?_⟩
  · show keyEq Tryz.prog 3 (.int .i64 a) (.int .i64 b) = _
    unfold keyEq
    rw [show Program.underlying Tryz.prog 3 = some (.int .i64) by kernel_rfl]
    simp only [if_true]
    rw [Bool.beq_eq_decide_eq]
  · unfold ei at h; injection h
  · show ((IntKind.i64 == IntKind.i64) && a == a) = true
    simp
abbrev FM := Int → Option Bool
/-- the map of all free cells -/
def FreeM (g : Nat) (s : St) (fm : FM) : Prop := ∀ x : Nat, (fm x).getD false = true ↔ ∃ k, k < 32 ∧ SmCell g s.hs k x ∧ s.U x = false
section
variable {B : World} {P R : SL} {t : K}
theorem check_add_c {b : Nat} {r : Rp} {o : Ob} {room : Int} {k : Unit → K} (hk : T B (R * Rpt b (r.add o room)) (k ())) : T B (R * Rpt b r) (c_check_Report_add (da b) o room k) := by
  refine T_of (check_Report_add_ok _ o room k) ?_
  unfold da Rpt rpL Rp.add at *
  (repeat (first | with_reducible refine T_nn ?_ | with_reducible refine T_tick ?_ | ((with_reducible apply T_ldI); (focus rfl); (focus exact hasA); (focus rfl)) | (with_reducible refine T_al ?_; intro _) | ((with_reducible apply T_st); (focus rfl); (focus exact updA); (focus simp); simp only [List.set, Nat.zero_add, Nat.reduceAdd])))
  rename_i b1
  refine ohead_Size_c ?_
  (repeat (first | with_reducible refine T_nn ?_ | with_reducible refine T_tick ?_ | with_reducible refine T_chk0 ?_ | ((with_reducible apply T_ldI); (focus rfl); (focus exact hasA); (focus rfl)) | ((with_reducible apply T_st); (focus rfl); (focus exact updA); (focus simp); simp only [List.set, Nat.zero_add, Nat.reduceAdd]) | ((with_reducible apply T_chk); (focus rfl); (focus exact hasA); (focus rfl))))
  refine ohead_Size_c ?_
  (repeat (first | with_reducible refine T_nn ?_ | with_reducible refine T_chk0 ?_ | ((with_reducible apply T_st); (focus rfl); (focus exact updA); (focus simp); simp only [List.set, Nat.zero_add, Nat.reduceAdd]) | ((with_reducible apply T_chk); (focus rfl); (focus exact hasA); (focus rfl))))
  rw [wi_l, wi_l, wi_r, wi_l]
  exact T_drop1 .last hk
theorem Used_c {a d g : Nat} {s : St} {x : Int} {k : Bool → K} (hk : T B (R * Al a d g s) (k (has s.U x))) : T B (R * Al a d g s) (c_alloc_Allocator_Used (da a) x k) := by
  refine T_of (alloc_Allocator_Used_ok _ x k) ?_
  refine Al_open fun m u f => ?_
  unfold da
  (repeat (first | with_reducible refine T_nn ?_ | ((with_reducible apply T_ldP); (focus rfl); (focus exact hasA); (focus rfl))))
  refine T_bring (X := Bm u (512 * g) s.U) (by exact frmA) ?_
  refine bitmap_Has_c ?_
  exact T.perm (by unfold da; ac_rfl) (Al_close (m := m) (u := u) (f := f) hk)
theorem has_nat (U : Nat → Bool) (x : Nat) : has U (x : Int) = U x := by unfold has; rw [decide_eq_true (by omega), Bool.true_and, Int.toNat_natCast]
/-- the boxes of the function's variables -/
def Bxs (b5 b6 b7 b9 b10 b11 br a m : Nat) (k r0 r1 : Int) : SL := pt b5 (.cells [.pointer (da br)].toArray 212) * pt b6 (.cells [.pointer (da a)].toArray 25) * pt b7 (.cells [.map (some m)].toArray 156) * pt b9 (.cells [.int .i64 k].toArray 3) * pt b10 (.cells [.int .i64 r0].toArray 3) * pt b11 (.cells [.int .i64 r1].toArray 52)
def cellR (g : Nat) (s : St) (b k i : Nat) (r : Rp) : Rp := if s.U (cellN b k i) then r.add (oHead s.c (64 * g) (cellN b k i : Nat)).1 (cw k) else { r with c := r.c + 1 }
theorem check_cell_c {a d g b k m br b5 b6 b7 b9 b10 b11 : Nat} {s : St} {fm : FM} (inv : Inv g s.hs s.U s.L) (hk : k < 32) (hb : 1 ≤ b) (hb2 : b < g) (hh : hd s.hs b = (1, (k : Int), 0)) (hfm : FreeM g s fm) {i : Nat} (hi : i < cn k) {r : Rp} {r0 r1 : Int} {kN kR : K}
    (hN : (s.U (cellN b k i) = true → ∃ o, PlOk s.c (64 * g) s.hs g (cellN b k i : Nat) o) → T B (R * Al a d g s * MpF ei eb m fm * Rpt br (cellR g s b k i r) * Bxs b5 b6 b7 b9 b10 b11 br a m k r0 r1) kN)
    (hR : s.U (cellN b k i) = true → (∀ o, ¬ PlOk s.c (64 * g) s.hs g (cellN b k i : Nat) o) → T B (R * Al a d g s * MpF ei eb m fm * Rpt br r * Bxs b5 b6 b7 b9 b10 b11 br a m k (cellN b k i : Nat) 22) kR) :
    T B (R * Al a d g s * MpF ei eb m fm * Rpt br r * Bxs b5 b6 b7 b9 b10 b11 br a m k r0 r1) (check_Report_block_b ⟨b5, 0, none⟩ ⟨b6, 0, none⟩ ⟨b7, 0, none⟩ ⟨b9, 0, none⟩ ⟨b10, 0, none⟩ ⟨b11, 0, none⟩ (cellN b k i : Nat) kN kR) := by
  have hsm : SmCell g s.hs k (cellN b k i) := ⟨b, i, hb, hb2, hh, hi, rfl⟩
  obtain ⟨t1, t2, t3, t4, t5, t6, t7, t8⟩ := cls_tab k hk
  have hfree : (fm (cellN b k i : Nat)).getD false = !s.U (cellN b k i) := by
    cases hu : s.U (cellN b k i)
    · exact (hfm _).2 ⟨k, hk, hsm, hu⟩
    · cases hf : (fm (cellN b k i : Nat)).getD false
      · rfl
      · obtain ⟨_, _, _, h⟩ := (hfm _).1 hf
        rw [hu] at h; cases h
  unfold Bxs da at *
  simp only [← sep_assoc] at *
  (repeat (((with_reducible apply T_ldP); (focus rfl); (focus exact hasA); (focus rfl))))
  refine T_bring (X := Al a d g s) (by exact frmA) ?_
  refine Used_c ?_
  rw [has_nat]
  unfold cellR at hN
  have hlk : ∀ z : Bool, (((fm (cellN b k i : Nat)).map eb).getD (.bool false)) = (ESh.sc (.bool)).enc ((fm (cellN b k i : Nat)).getD false) := fun _ => by cases fm (cellN b k i : Nat) <;> rfl
  cases hu : s.U (cellN b k i)
  · rw [hu] at hN hfree
    have hN := hN (fun h => by cases h)
    simp only [Bool.false_eq_true, if_false] at hN
    (repeat (with_reducible refine T_brF ?_))
    (dsimp only [check_Report_block_b, Zet0, Zet1, Zet2, Zet3, Zet4, Zet5, Zet6, Zet7, Zet8, Zet9, Zet10, Zet11, Zet12])
    simp only [Bool.not_false]
    (repeat (first | with_reducible refine T_brT ?_ | ((with_reducible apply T_ldM); (focus rfl); (focus exact hasA); (focus rfl))))
    refine T_lkF (ek := ei) (ev := eb) kd_ib (MHas.of (show Frm _ (MpF ei eb m fm) _ by exact frmA)) (key := (cellN b k i : Nat)) (f := fm) _ (hlk true) fun ob => ?_
    rw [hfree]
    try (dsimp only [check_Report_block_b, Zet0, Zet1, Zet2, Zet3, Zet4, Zet5, Zet6, Zet7, Zet8, Zet9, Zet10, Zet11, Zet12])
    simp only [Bool.not_true, Bool.not_false]
    unfold Rpt rpL at *
    (repeat (first | with_reducible refine T_nn ?_ | with_reducible refine T_brT ?_ | with_reducible refine T_brF ?_ | ((with_reducible apply T_ldI); (focus rfl); (focus exact hasA); (focus rfl)) | ((with_reducible apply T_ldP); (focus rfl); (focus exact hasA); (focus rfl)) | ((with_reducible apply T_st); (focus rfl); (focus exact updA); (focus simp); simp only [List.set, Nat.zero_add, Nat.reduceAdd])))
    rw [wi_l]
    exact T.perm (by ac_rfl) hN
  · rw [hu] at hN hfree
    simp only [if_true, Bool.not_true] at hN hfree
    (repeat (first | with_reducible refine T_brT ?_ | ((with_reducible apply T_ldM); (focus rfl); (focus exact hasA); (focus rfl))))
    (dsimp only [check_Report_block_b, Zet0, Zet1, Zet2, Zet3, Zet4, Zet5, Zet6, Zet7, Zet8, Zet9, Zet10, Zet11, Zet12])
    refine T_lkF (ek := ei) (ev := eb) kd_ib (MHas.of (show Frm _ (MpF ei eb m fm) _ by exact frmA)) (key := (cellN b k i : Nat)) (f := fm) _ (hlk true) fun ob => ?_
    rw [hfree]
    try (dsimp only [check_Report_block_b, Zet0, Zet1, Zet2, Zet3, Zet4, Zet5, Zet6, Zet7, Zet8, Zet9, Zet10, Zet11, Zet12])
    simp only [Bool.not_true]
    (repeat (first | with_reducible refine T_brF ?_ | ((with_reducible apply T_ldP); (focus rfl); (focus exact hasA); (focus rfl))))
    refine T_bring (X := Al a d g s) (by exact frmA) ?_
    refine Place_c inv (fun o ho => ?_) (fun hno o => ?_)
    · (repeat (first | (with_reducible refine T_al ?_; intro _) | ((with_reducible apply T_st); (focus rfl); (focus exact updA); (focus simp); simp only [List.set, Nat.zero_add, Nat.reduceAdd])))
      rename_i b1
      try (dsimp only [check_Report_block_b, Zet0, Zet1, Zet2, Zet3, Zet4, Zet5, Zet6, Zet7, Zet8, Zet9, Zet10, Zet11, Zet12])
      simp only [Bool.not_true]
      (repeat (first | with_reducible refine T_tick ?_ | with_reducible refine T_brF ?_ | ((with_reducible apply T_ldI); (focus rfl); (focus exact hasA); (focus rfl)) | ((with_reducible apply T_ldP); (focus rfl); (focus exact hasA); (focus rfl))))
      refine class_Words_c ?_
      rw [t1]
      (repeat (first | with_reducible refine T_chk0 ?_ | ((with_reducible apply T_chk); (focus rfl); (focus exact hasA); (focus rfl))))
      refine T_bring (X := Rpt br r) (by exact frmA) ?_
      refine check_add_c ?_
      have e1 : (oHead s.c (64 * g) (cellN b k i : Nat)).1 = o := by rw [ho.1]
      rw [e1] at hN
      refine T_drop1 (by exact frmA : Frm _ (pt b1 (.cells [.int .i64 o.1, .int .i64 o.2].toArray 68)) _) ?_
      exact T.perm (by ac_rfl) (hN fun _ => ⟨o, ho⟩)
    · (repeat (first | (with_reducible refine T_al ?_; intro _) | ((with_reducible apply T_st); (focus rfl); (focus exact updA); (focus simp); simp only [List.set, Nat.zero_add, Nat.reduceAdd])))
      rename_i b1
      try (dsimp only [check_Report_block_b, Zet0, Zet1, Zet2, Zet3, Zet4, Zet5, Zet6, Zet7, Zet8, Zet9, Zet10, Zet11, Zet12])
      simp only [Bool.not_false]
      (repeat (first | with_reducible refine T_brT ?_ | ((with_reducible apply T_st); (focus rfl); (focus exact updA); (focus simp); simp only [List.set, Nat.zero_add, Nat.reduceAdd])))
      refine T_drop1 (by exact frmA : Frm _ (pt b1 (.cells [.int .i64 o.1, .int .i64 o.2].toArray 68)) _) ?_
      exact T.perm (by ac_rfl) (hR hu hno)
end
end
section
set_option maxRecDepth 100000
set_option maxHeartbeats 2000000
def clsB (b k i : Nat) : List Int := (List.range i).map fun j => ((cellN b k j : Nat) : Int)
def okC (b k : Nat) (pre : List Int) (x : Int) : Prop := ∃ i, i < cn k ∧ x = (cellN b k i : Nat) ∧ pre = clsB b k i
theorem clsB_succ (b k i : Nat) : clsB b k (i + 1) = clsB b k i ++ [((cellN b k i : Nat) : Int)] := by unfold clsB; rw [List.range_succ, List.map_append]; rfl
theorem clsB_len (b k i : Nat) : (clsB b k i).length = i := by simp [clsB]
def cellsR (g : Nat) (s : St) (b k : Nat) : Nat → Rp → Rp
  | 0, r => r
  | i + 1, r => cellR g s b k i (cellsR g s b k i r)
section
variable {B : World} {P R : SL} {t : K}
theorem cells_All_1_c {l g b k bk bg bb : Nat} {t1 t2 t3 : TypeId} {I : List Int → SL} {J : SL} (hg : g ≤ 2 ^ 20) (hk : k < 32) (hb : 1 ≤ b) (hb2 : b < g)
    (h1 : ∀ pre, Has (I pre) bk (.cells [.int .i64 k].toArray t1)) (h2 : ∀ pre, Has (I pre) bg (.cells [.int .i64 g].toArray t2)) (h3 : ∀ pre, Has (I pre) bb (.cells [.int .i64 b].toArray t3))
    (hy : Yld B Tryz.prog l (fun x : Int => #[.int .i64 x]) (okC b k) I J) {kk : Unit → K} (hn : T B (I (clsB b k (cn k))) (kk ())) (h0 : T B J (kk ())) : T B (I []) (c_cells_All_1 ⟨.yield l, #[], #[]⟩ ⟨bk, 0, none⟩ ⟨bg, 0, none⟩ ⟨bb, 0, none⟩ kk) := by
  refine T_of (cells_All_1_ok _ _ _ _ kk) ?_
  obtain ⟨t1, t2, t3, t4, t5, t6, t7, t8⟩ := cls_tab k hk
  refine T_ldI (n := k) rfl (h1 []) rfl ?_
  refine class_Cells_c ?_
  rw [t2]
  refine T_lpX (fun m _ => I (clsB b k (cn k - m))) (fun m (z : Int × Unit) => m ≤ cn k ∧ z.1 = ((cn k - m : Nat) : Int)) (cn k) (by rw [Nat.sub_self]; rfl) ⟨Nat.le_refl _, by rw [Nat.sub_self]; rfl⟩ ?_
  rintro m ⟨z, u⟩ c ⟨hm, hz⟩ hc
  simp only at hz
  subst hz
  (repeat' (with_reducible refine T_brD (fun _ => ?_) (fun _ => ?_)))
  · rename_i hlt
    obtain ⟨i, hi⟩ : ∃ i, i = cn k - m := ⟨_, rfl⟩
    have hlt2 : i < cn k := by omega
    rw [← hi]
    refine T_ldI (n := g) rfl (h2 _) rfl ?_
    refine T_ldI (n := k) rfl (h1 _) rfl ?_
    refine T_ldI (n := b) rfl (h3 _) rfl ?_
    refine cells_Address_c (by omega) ?_
    rw [cellAt_eq hk hb hb2 hlt2]
    (repeat' (first | with_reducible refine T_brT ?_ | with_reducible refine T_brD (fun _ => ?_) (fun _ => ?_)))
    · exfalso; omega
    refine T_yield (x := ((cellN b k i : Nat) : Int)) hy ⟨i, hlt2, rfl, rfl⟩ ?_ ?_
    · refine T_brF ?_
      rw [w64 (by omega) (by omega), ← clsB_succ]
      have e1 : cn k - (cn k - (i + 1)) = i + 1 := by omega
      have := hc (cn k - (i + 1)) (((i : Nat) : Int) + 1, ()) (by omega) ⟨by omega, by rw [e1]; simp⟩
      rw [e1] at this
      exact this
    · exact T_brT h0
  · have : m = 0 := by omega
    subst this
    exact hn
theorem cells_All_c {g k b : Int} {kk : Fv → K} (hk : ∀ bg bk bb, T B (R * pt bg (.cells [.int .i64 g].toArray 43) * pt bk (.cells [.int .i64 k].toArray 3) * pt bb (.cells [.int .i64 b].toArray 3)) (kk ⟨.func 231, #[], #[.pointer (some ⟨bk, 0, none⟩), .pointer (some ⟨bg, 0, none⟩), .pointer (some ⟨bb, 0, none⟩)]⟩)) : T B R (c_cells_All g k b kk) := by
  refine T_of (cells_All_ok _ _ _ kk) ?_
  (repeat ((with_reducible refine T_al ?_; intro _)))
  exact hk _ _ _
end
def S9 (a d g : Nat) (s : St) (m : Nat) (fm : FM) (br : Nat) (k : Nat) (b5 b6 b7 b9 b10 b11 : Nat) (r : Rp) (r0 r1 : Int) : SL := Al a d g s * MpF ei eb m fm * Rpt br r * Bxs b5 b6 b7 b9 b10 b11 br a m k r0 r1
/-- a block of small objects is told -/
def blkR (g : Nat) (s : St) (b k : Nat) (r : Rp) : Rp := { cellsR g s b k (cn k) r with s := (cellsR g s b k (cn k) r).s + 1, w := (cellsR g s b k (cn k) r).w + (512 - (cn k : Int) * cw k) }
def Good (g : Nat) (s : St) (x : Nat) : Prop := s.U x = true → ∃ o, PlOk s.c (64 * g) s.hs g (x : Int) o
def Bad (g : Nat) (s : St) (x : Nat) : Prop := s.U x = true ∧ ∀ o, ¬ PlOk s.c (64 * g) s.hs g (x : Int) o
section
variable {B : World} {P R : SL} {t : K}
theorem check_block_c {a d g b k m br : Nat} {s : St} {fm : FM} (inv : Inv g s.hs s.U s.L) (hk : k < 32) (hb : 1 ≤ b) (hb2 : b < g) (hh : hd s.hs b = (1, (k : Int), 0)) (hfm : FreeM g s fm) {r : Rp} {kk : Int × Int → K}
    (h0 : (∀ i, i < cn k → Good g s (cellN b k i)) → T B (R * Al a d g s * MpF ei eb m fm * Rpt br (blkR g s b k r)) (kk (0, 0)))
    (h1 : ∀ x r', (∃ i, i < cn k ∧ Bad g s (cellN b k i)) → T B (R * Al a d g s * MpF ei eb m fm * Rpt br r') (kk (x, 22))) :
    T B (R * Al a d g s * MpF ei eb m fm * Rpt br r) (c_check_Report_block (da br) (da a) (some m) b k kk) := by
  obtain ⟨t1, t2, t3, t4, t5, t6, t7, t8⟩ := cls_tab k hk
  have hg := inv.big
  intro w hw
  refine (callsIn_wide (n := 9)).1 (callsIn_of_wp_marks Tryz.func168 rfl trivial ?_ rfl)
  -- the boxes
  obtain ⟨T1, hT1⟩ : ∃ T1 : Tup [(5, .addr), (6, .addr), (7, .addr), (9, .addr), (10, .addr), (11, .addr)] → K, T1 = fun z w => ∃ b5 b6 b7 b9 b10 b11, z = (⟨b5, 0, none⟩, ⟨b6, 0, none⟩, ⟨b7, 0, none⟩, ⟨b9, 0, none⟩, ⟨b10, 0, none⟩, ⟨b11, 0, none⟩, ()) ∧ Sat B (R * S9 a d g s m fm br k b5 b6 b7 b9 b10 b11 r 0 0) w := ⟨_, rfl⟩
  refine rk_seq [(5, .addr), (6, .addr), (7, .addr), (9, .addr), (10, .addr), (11, .addr)] [3]
    (t := alK (.cells #[.pointer (da br)] 212) fun b5 => alK (.cells #[.pointer (da a)] 25) fun b6 => alK (.cells #[.map (some m)] 156) fun b7 => alK (.cells #[.int .i64 k] 3) fun b9 => alK (.cells #[.int .i64 0] 3) fun b10 => alK (.cells #[.int .i64 0] 52) fun b11 => T1 (⟨b5, 0, none⟩, ⟨b6, 0, none⟩, ⟨b7, 0, none⟩, ⟨b9, 0, none⟩, ⟨b10, 0, none⟩, ⟨b11, 0, none⟩, ())) T1
    (RefK.plain [] (by kernel_rfl)) (agree0 (n := 86) (args := #[.pointer (da br), .pointer (da a), .map (some m), .int .i64 b, .int .i64 k]) (by simp)) ?_ (by kernel_rfl) ?_
  · subst hT1
    refine (T_al fun b5 => T_al fun b6 => T_al fun b7 => T_al fun b9 => T_al fun b10 => T_al fun b11 w hw => ⟨b5, b6, b7, b9, b10, b11, rfl, hw.perm ?_⟩) w hw
    unfold S9 Bxs
    ac_rfl
  subst hT1
  rintro z a1 w1 ha1 ⟨b5, b6, b7, b9, b10, b11, rfl, hw1⟩
  refine wpIn_seq ?_
  -- the sequence
  obtain ⟨T2, hT2⟩ : ∃ T2 : Tup [(23, .func)] → K, T2 = fun z w => ∃ bg bk bb, z = (⟨.func 231, #[], #[.pointer (some ⟨bk, 0, none⟩), .pointer (some ⟨bg, 0, none⟩), .pointer (some ⟨bb, 0, none⟩)]⟩, ()) ∧ Sat B (R * S9 a d g s m fm br k b5 b6 b7 b9 b10 b11 r 0 0 * pt bg (.cells [.int .i64 g].toArray 43) * pt bk (.cells [.int .i64 k].toArray 3) * pt bb (.cells [.int .i64 b].toArray 3)) w := ⟨_, rfl⟩
  refine rk_seq [(23, .func)] [5, 6, 7, 9, 10, 11]
    (t := tick fun _ => ldP ⟨b6, 0, none⟩ fun x16 => nn x16 fun x17 => ldP (Addr.add x17 0) fun x19 => ldI .i64 ⟨b9, 0, none⟩ fun x21 => c_bman_Manager_Geometry x19 fun x20 => chk [.cell ⟨b9, 0, none⟩ (.int .i64 x21)] fun _ => c_cells_All x20 x21 b fun x23 => T2 (x23, ())) T2
    (RefK.draw [] [0, 1, 3, 7, 15, 0, 0, 127] [0, 1, 2, 3, 5, 6, 4, 7] [0, 1, 2, 3, 4, 5, 6, 7] (by kernel_rfl) (by kernel_rfl)) ha1 ?_ (by kernel_rfl) ?_
  · subst hT2
    have hT : T B (R * S9 a d g s m fm br k b5 b6 b7 b9 b10 b11 r 0 0) (tick fun _ => ldP ⟨b6, 0, none⟩ fun x16 => nn x16 fun x17 => ldP (Addr.add x17 0) fun x19 => ldI .i64 ⟨b9, 0, none⟩ fun x21 => c_bman_Manager_Geometry x19 fun x20 => chk [.cell ⟨b9, 0, none⟩ (.int .i64 x21)] fun _ => c_cells_All x20 x21 b fun x23 w => ∃ bg bk bb, (x23, ()) = ((⟨.func 231, #[], #[.pointer (some ⟨bk, 0, none⟩), .pointer (some ⟨bg, 0, none⟩), .pointer (some ⟨bb, 0, none⟩)]⟩, ()) : Fv × Unit) ∧ Sat B (R * S9 a d g s m fm br k b5 b6 b7 b9 b10 b11 r 0 0 * pt bg (.cells [.int .i64 g].toArray 43) * pt bk (.cells [.int .i64 k].toArray 3) * pt bb (.cells [.int .i64 b].toArray 3)) w) := by
      unfold S9 Bxs
      simp only [← sep_assoc]
      unfold da
      (repeat (first | with_reducible refine T_nn ?_ | with_reducible refine T_tick ?_ | ((with_reducible apply T_ldP); (focus rfl); (focus exact hasA); (focus rfl))))
      refine T_bring (X := Al a d g s) (by exact frmA) ?_
      refine Al_open fun mm u f => ?_
      unfold da
      (repeat (first | ((with_reducible apply T_ldI); (focus rfl); (focus exact hasA); (focus rfl)) | ((with_reducible apply T_ldP); (focus rfl); (focus exact hasA); (focus rfl))))
      refine T_bring (X := Mg mm d g s.hs s.F) (by exact frmA) ?_
      refine bman_Geometry_c ?_
      (repeat (first | with_reducible refine T_chk0 ?_ | ((with_reducible apply T_chk); (focus rfl); (focus exact hasA); (focus rfl))))
      refine cells_All_c fun bg bk bb => ?_
      refine T.perm (Q := R * MpF ei eb m fm * Rpt br r * pt b5 (.cells [.pointer (some ⟨br, 0, none⟩)].toArray 212) * pt b6 (.cells [.pointer (some ⟨a, 0, none⟩)].toArray 25) * pt b7 (.cells [.map (some m)].toArray 156) * pt b9 (.cells [.int .i64 k].toArray 3) * pt b10 (.cells [.int .i64 0].toArray 3) * pt b11 (.cells [.int .i64 0].toArray 52) * pt bg (.cells [.int .i64 g].toArray 43) * pt bk (.cells [.int .i64 k].toArray 3) * pt bb (.cells [.int .i64 b].toArray 3) * LDx d (64 * g) s.c * Mg mm d g s.hs s.F * Bm u (512 * g) s.U * Fl f s.L * pt a (.cells [.pointer (da mm), .pointer (da d), .int .i64 g, .pointer (da u), .pointer (da f)].toArray 47)) (by unfold da; ac_rfl) ?_
      refine Al_close ?_
      intro w hw
      refine ⟨bg, bk, bb, rfl, hw.perm ?_⟩
      ac_rfl
    exact hT w1 hw1
  subst hT2
  rintro z a2 w2 ha2 ⟨bg, bk, bb, rfl, hw2⟩
  refine wpIn_block ?_
  have eg : ∀ args w, (callFunc 231 args).run Tryz.prog w = .ok (.enter 231 args) w := fun args w => callable_run (by kernel_rfl) args w
  obtain ⟨RR, hRR⟩ : ∃ RR, RR = R * pt bg (.cells [.int .i64 g].toArray 43) * pt bk (.cells [.int .i64 k].toArray 3) * pt bb (.cells [.int .i64 b].toArray 3) := ⟨_, rfl⟩
  refine wp_rangeF (B := B) (n := 9) (β := Int) (by omega) (ha2.rho (x := .tmp 23) (by kernel_rfl)) eg (fun x => #[.int .i64 x]) (fun _ => rfl) (okC b k)
    (fun pre => RR * S9 a d g s m fm br k b5 b6 b7 b9 b10 b11 (cellsR g s b k pre.length r) 0 0 * pu (∀ i, i < pre.length → Good g s (cellN b k i)))
    (ex fun q : Rp × Int => RR * S9 a d g s m fm br k b5 b6 b7 b9 b10 b11 q.1 q.2 22 * pu (∃ i, i < cn k ∧ Bad g s (cellN b k i))) (clsB b k (cn k)) ?start
    (fun x a => Agree [] 86 [(12, .int .i64 x), (5, .pointer (some ⟨b5, 0, none⟩)), (6, .pointer (some ⟨b6, 0, none⟩)), (7, .pointer (some ⟨b7, 0, none⟩)), (9, .pointer (some ⟨b9, 0, none⟩)), (10, .pointer (some ⟨b10, 0, none⟩)), (11, .pointer (some ⟨b11, 0, none⟩))] a) ?seq ?assign ?body ?done ?ret
  case start =>
    refine Sat.puI (fun i hi => absurd hi (Nat.not_lt_zero i)) (hw2.perm ?_)
    rw [hRR]; show _ = R * _ * _ * _ * S9 a d g s m fm br k b5 b6 b7 b9 b10 b11 r 0 0; ac_rfl
  case seq =>
    intro l X X' hy W hW
    have hhas : ∀ (Y : SL) (b0 : Nat) (o : Obj), Has RR b0 o → Has (RR * Y) b0 o := fun Y b0 o h => h.init
    have hT := cells_All_1_c (kk := fun _ w' => Sat B ((RR * S9 a d g s m fm br k b5 b6 b7 b9 b10 b11 (cellsR g s b k (clsB b k (cn k)).length r) 0 0 * pu (∀ i, i < (clsB b k (cn k)).length → Good g s (cellN b k i))) * X) w' ∨ Sat B ((ex fun q : Rp × Int => RR * S9 a d g s m fm br k b5 b6 b7 b9 b10 b11 q.1 q.2 22 * pu (∃ i, i < cn k ∧ Bad g s (cellN b k i))) * X') w')
      (bk := bk) (bg := bg) (bb := bb) (t1 := 3) (t2 := 43) (t3 := 3) hg hk hb hb2 (fun pre => ?_) (fun pre => ?_) (fun pre => ?_) hy (fun w h => .inl h) (fun w h => .inr h) W hW
    · refine callsIn_wide.2 (Calls.mono hT ?_)
      rintro e W' ⟨x, rfl, h⟩
      exact ⟨⟨_, rfl⟩, h⟩
    all_goals (refine Has.init (Has.init (Has.init ?_)); rw [hRR]; exact hasA)
  case assign =>
    intro m' l x W K hK
    exact rk_assign (p := 24) (v := .int .i64 x) [(12, .int .i64)] [5, 6, 7, 9, 10, 11] (x, ()) ha2 (by decide) (RefK.plain [] (by kernel_rfl)) (by kernel_rfl) (fun a' ha' => hK a' ha') (by simp)
  case body =>
    intro m' l pre x W X a' ha' hx hs
    obtain ⟨i, hi, rfl, rfl⟩ := hx
    simp only [clsB_len] at hs
    have hT : T B (RR * S9 a d g s m fm br k b5 b6 b7 b9 b10 b11 (cellsR g s b k i r) 0 0 * X * pu (∀ j, j < i → Good g s (cellN b k j)))
        (check_Report_block_b ⟨b5, 0, none⟩ ⟨b6, 0, none⟩ ⟨b7, 0, none⟩ ⟨b9, 0, none⟩ ⟨b10, 0, none⟩ ⟨b11, 0, none⟩ (cellN b k i : Nat)
          (fun w => Sat B ((RR * S9 a d g s m fm br k b5 b6 b7 b9 b10 b11 (cellsR g s b k (clsB b k i ++ [((cellN b k i : Nat) : Int)]).length r) 0 0 * pu (∀ j, j < (clsB b k i ++ [((cellN b k i : Nat) : Int)]).length → Good g s (cellN b k j))) * X) w)
          (fun w => Sat B ((ex fun q : Rp × Int => RR * S9 a d g s m fm br k b5 b6 b7 b9 b10 b11 q.1 q.2 22 * pu (∃ i, i < cn k ∧ Bad g s (cellN b k i))) * X) w)) := by
      refine T_pu fun hgood => ?_
      refine T.perm (Q := RR * X * Al a d g s * MpF ei eb m fm * Rpt br (cellsR g s b k i r) * Bxs b5 b6 b7 b9 b10 b11 br a m k 0 0) (by unfold S9; ac_rfl) ?_
      refine check_cell_c inv hk hb hb2 hh hfm hi (fun hg2 w hw => ?_) (fun hu hno w hw => ?_)
      · rw [← clsB_succ]
        simp only [clsB_len]
        have h2 : Sat B (RR * S9 a d g s m fm br k b5 b6 b7 b9 b10 b11 (cellsR g s b k (i + 1) r) 0 0 * X) w := hw.perm (by unfold S9; show _ = RR * (Al a d g s * MpF ei eb m fm * Rpt br (cellR g s b k i (cellsR g s b k i r)) * _) * X; ac_rfl)
        refine (Sat.puI (φ := ∀ j, j < i + 1 → Good g s (cellN b k j)) (fun j hj => ?_) h2).perm (by ac_rfl)
        by_cases e : j = i
        · subst e; exact hg2
        · exact hgood j (by omega)
      · rw [ex_sep]
        refine ex_sat (cellsR g s b k i r, ((cellN b k i : Nat) : Int)) ?_
        have h2 : Sat B (RR * S9 a d g s m fm br k b5 b6 b7 b9 b10 b11 (cellsR g s b k i r) ((cellN b k i : Nat) : Int) 22 * X) w := hw.perm (by unfold S9; ac_rfl)
        exact (Sat.puI (φ := ∃ i, i < cn k ∧ Bad g s (cellN b k i)) ⟨i, hi, hu, hno⟩ h2).perm (by ac_rfl)
    exact check_Report_block_b_ok _ _ _ _ _ _ _ _ _ (some l) m' [] _ a' W ha' (hT W (hs.perm (by ac_rfl))) fun e E' a'' w' _ _ h => by
      cases e <;> first | exact .inl ⟨rfl, h⟩ | exact .inr ⟨rfl, h⟩ | exact h.elim
  case ret =>
    intro D W hs
    rw [ex_sep] at hs
    obtain ⟨⟨r', x⟩, hs⟩ := sat_ex hs
    have haD : Agree [{ target := .collected D, args := #[] }] 86 _ { a2 with defers := { target := .collected D, args := #[] } :: a2.defers } := ⟨by rw [ha2.1], ha2.2.1, ha2.2.2⟩
    have key : T B (RR * S9 a d g s m fm br k b5 b6 b7 b9 b10 b11 r' x 22 * pt D (.deferred (some [])) * pu (∃ i, i < cn k ∧ Bad g s (cellN b k i))) (fun w => LeavesInM Fence.wide 9 Tryz.prog Tryz.f168 a2.tmps (fun e w' => ∃ x : (RSh.tup [.sc (.int .i64), .sc (.int .i64)]).T, e = .returned ((RSh.tup [.sc (.int .i64), .sc (.int .i64)]).enc x) ∧ kk x w') ({ target := .collected D, args := #[] } :: a2.defers) .returning w) := by
      refine T_pu fun hbad w hw => ?_
      refine leave_T (a := { a2 with defers := { target := .collected D, args := #[] } :: a2.defers }) haD hw ?_
      refine (show T B (RR * S9 a d g s m fm br k b5 b6 b7 b9 b10 b11 r' x 22) (ldI .i64 ⟨b10, 0, none⟩ fun x => ldI .i64 ⟨b11, 0, none⟩ fun y => kk (x, y)) from ?_)
      unfold S9 Bxs
      simp only [← sep_assoc]
      (repeat (((with_reducible apply T_ldI); (focus rfl); (focus exact hasA); (focus rfl))))
      subst hRR
      have := h1 x r' hbad
      refine T.perm (Q := R * Al a d g s * MpF ei eb m fm * Rpt br r' * (pt bg (.cells [.int .i64 g].toArray 43) * pt bk (.cells [.int .i64 k].toArray 3) * pt bb (.cells [.int .i64 b].toArray 3) * Bxs b5 b6 b7 b9 b10 b11 br a m k x 22)) (by unfold Bxs; ac_rfl) this.weak
    exact key W (hs.perm (by ac_rfl))
  case done =>
    intro D W hs
    simp only [clsB_len] at hs
    obtain ⟨rr, hrr⟩ : ∃ rr, rr = cellsR g s b k (cn k) r := ⟨_, rfl⟩
    rw [← hrr] at hs
    have hblk : blkR g s b k r = { rr with s := rr.s + 1, w := rr.w + (512 - (cn k : Int) * cw k) } := by rw [hrr]; rfl
    have haD : Agree [{ target := .collected D, args := #[] }] 86 _ { a2 with defers := { target := .collected D, args := #[] } :: a2.defers } := ⟨by rw [ha2.1], ha2.2.1, ha2.2.2⟩
    obtain ⟨hgood, hs⟩ : (∀ i, i < cn k → Good g s (cellN b k i)) ∧ Sat B (RR * S9 a d g s m fm br k b5 b6 b7 b9 b10 b11 rr 0 0 * pt D (.deferred (some []))) W := by
      have key : T B (RR * S9 a d g s m fm br k b5 b6 b7 b9 b10 b11 rr 0 0 * pt D (.deferred (some [])) * pu (∀ i, i < cn k → Good g s (cellN b k i))) (fun w => (∀ i, i < cn k → Good g s (cellN b k i)) ∧ Sat B (RR * S9 a d g s m fm br k b5 b6 b7 b9 b10 b11 rr 0 0 * pt D (.deferred (some []))) w) := T_pu fun h w hw => ⟨h, hw⟩
      exact key W (hs.perm (by ac_rfl))
    have h14 : T B (RR * S9 a d g s m fm br k b5 b6 b7 b9 b10 b11 rr 0 0 * pt D (.deferred (some []))) (ldP ⟨b5, 0, none⟩ fun x70 => nn x70 fun x71 => ldI .i64 (Addr.add x71 1) fun x73 => nn x70 fun x75 => stK (Addr.add (Addr.add x75 1) 0) (.int .i64 (IntKind.wrap .i64 (x73 + 1))) <| fun w => Sat B (RR * S9 a d g s m fm br k b5 b6 b7 b9 b10 b11 { rr with s := rr.s + 1 } 0 0 * pt D (.deferred (some []))) w) := by
      unfold S9 Bxs Rpt rpL da
      simp only [← sep_assoc]
      (repeat (first | with_reducible refine T_nn ?_ | ((with_reducible apply T_ldI); (focus rfl); (focus exact hasA); (focus rfl)) | ((with_reducible apply T_ldP); (focus rfl); (focus exact hasA); (focus rfl)) | ((with_reducible apply T_st); (focus rfl); (focus exact updA); (focus simp); simp only [List.set, Nat.zero_add, Nat.reduceAdd])))
      rw [wi_l]
      exact fun w hw => hw
    refine rk_seq [] [5, 9, 10, 11] (fun _ w => Sat B (RR * S9 a d g s m fm br k b5 b6 b7 b9 b10 b11 { rr with s := rr.s + 1 } 0 0 * pt D (.deferred (some []))) w) (RefK.plain [] (by kernel_rfl)) haD (h14 W hs) (by kernel_rfl) ?_
    rintro _ a3 w3 ha3 hw3
    have h15 : T B (RR * S9 a d g s m fm br k b5 b6 b7 b9 b10 b11 { rr with s := rr.s + 1 } 0 0 * pt D (.deferred (some []))) (tick fun _ => ldP ⟨b5, 0, none⟩ fun x77 => nn x77 fun x78 => ldI .i64 (Addr.add x78 6) fun x80 => ldI .i64 ⟨b9, 0, none⟩ fun x81 => c_class_Waste x81 fun x82 => chk [.cell (Addr.add x78 6) (.int .i64 x80), .cell ⟨b5, 0, none⟩ (.pointer x77)] fun _ => nn x77 fun x84 => stK (Addr.add (Addr.add x84 6) 0) (.int .i64 (IntKind.wrap .i64 (x80 + x82))) <| fun w => Sat B (RR * S9 a d g s m fm br k b5 b6 b7 b9 b10 b11 (blkR g s b k r) 0 0 * pt D (.deferred (some []))) w) := by
      rw [hblk]
      unfold S9 Bxs Rpt rpL da
      simp only [← sep_assoc]
      (repeat (first | with_reducible refine T_nn ?_ | with_reducible refine T_tick ?_ | ((with_reducible apply T_ldI); (focus rfl); (focus exact hasA); (focus rfl)) | ((with_reducible apply T_ldP); (focus rfl); (focus exact hasA); (focus rfl))))
      refine class_Waste_c ?_
      rw [if_pos (by omega), t1, t2]
      (repeat (first | with_reducible refine T_nn ?_ | with_reducible refine T_chk0 ?_ | ((with_reducible apply T_st); (focus rfl); (focus exact updA); (focus simp); simp only [List.set, Nat.zero_add, Nat.reduceAdd]) | ((with_reducible apply T_chk); (focus rfl); (focus exact hasA); (focus rfl))))
      rw [wi_l]
      exact fun w hw => hw
    refine rk_seq [] [10, 11] (fun _ w => Sat B (RR * S9 a d g s m fm br k b5 b6 b7 b9 b10 b11 (blkR g s b k r) 0 0 * pt D (.deferred (some []))) w) (RefK.draw [] [0, 1, 3, 7, 0, 16, 63, 127, 255, 511] [0, 1, 2, 3, 4, 5, 6, 7, 8, 9] [0, 1, 2, 3, 4, 5, 6, 7, 8, 9] (by kernel_rfl) (by kernel_rfl)) ha3 (h15 w3 hw3) (by kernel_rfl) ?_
    rintro _ a4 w4 ha4 hw4
    have h16 : T B (RR * S9 a d g s m fm br k b5 b6 b7 b9 b10 b11 (blkR g s b k r) 0 0 * pt D (.deferred (some []))) (stK (Addr.add ⟨b10, 0, none⟩ 0) (.int .i64 0) <| stK (Addr.add ⟨b11, 0, none⟩ 0) (.int .i64 0) <| fun w => Sat B (RR * S9 a d g s m fm br k b5 b6 b7 b9 b10 b11 (blkR g s b k r) 0 0 * pt D (.deferred (some []))) w) := by
      unfold S9 Bxs
      simp only [← sep_assoc]
      (repeat (((with_reducible apply T_st); (focus rfl); (focus exact updA); (focus simp); simp only [List.set, Nat.zero_add, Nat.reduceAdd])))
      exact fun w hw => hw
    refine rk_seq [] [10, 11] (fun _ w => Sat B (RR * S9 a d g s m fm br k b5 b6 b7 b9 b10 b11 (blkR g s b k r) 0 0 * pt D (.deferred (some []))) w) (RefK.plain [] (by kernel_rfl)) ha4 (h16 w4 hw4) (by kernel_rfl) ?_
    rintro _ a5 w5 ha5 hw5
    refine wpIn_ret ?_
    refine leave_T (r := .tup [.sc (.int .i64), .sc (.int .i64)]) ha5 hw5 ?_
    refine (show T B (RR * S9 a d g s m fm br k b5 b6 b7 b9 b10 b11 (blkR g s b k r) 0 0) (ldI .i64 ⟨b10, 0, none⟩ fun x => ldI .i64 ⟨b11, 0, none⟩ fun y => kk (x, y)) from ?_)
    unfold S9 Bxs
    simp only [← sep_assoc]
    (repeat (((with_reducible apply T_ldI); (focus rfl); (focus exact hasA); (focus rfl))))
    subst hRR
    have := h0 hgood
    refine T.perm (Q := R * Al a d g s * MpF ei eb m fm * Rpt br (blkR g s b k r) * (pt bg (.cells [.int .i64 g].toArray 43) * pt bk (.cells [.int .i64 k].toArray 3) * pt bb (.cells [.int .i64 b].toArray 3) * Bxs b5 b6 b7 b9 b10 b11 br a m k 0 0)) (by unfold Bxs; ac_rfl) this.weak
end
end
end Go.Proofs.YtdgcbapclnnkkaaGreat.X
