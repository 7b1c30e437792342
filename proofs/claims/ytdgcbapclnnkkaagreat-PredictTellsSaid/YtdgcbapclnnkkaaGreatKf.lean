/- Part 6 of the proof that the law holds for every input: the theorems of this part. Conditions: each theorem bears its own; the last has none. -/
import Derived.Test.YtdgcbapclnnkkaaGreatKe
import Derived.RangeFuncNested
import Derived.RangeFuncBound
import Derived.RangeFuncCalls
import Derived.RangeFuncLeaves
import Derived.Shelf.Abstract
import Derived.Shelf.RegionOpen
import Derived.WalkKit
import Derived.OwnWalkIn
import Derived.TacticsInMore
import Derived.LoopNIn
import Derived.LoopIn
import Derived.Test.YtdgcbapclnnkkaaGreatRows
import Derived.ProofKit
import Derived.OpenShut
import Derived.JoinedCond
import Derived.ReadAgain
import Derived.Carry
set_option linter.all false
section
/- Contracts: where an object is placed. Conditions: at most 2^20 blocks; the device goes on. -/
set_option linter.unusedVariables false
set_option maxRecDepth 4000
set_option maxHeartbeats 1000000
namespace Go.Proofs.YtdgcbapclnnkkaaGreat.X
open Go
/-- an object stands at an address -/
def PlOk (c : List Int) (n : Nat) (hs : List Hd) (g at_ : Int) (o : Ob) : Prop := oHead c n at_ = (o, 0) ∧ 1 ≤ blockOf g at_ ∧ blockOf g at_ < hs.length ∧
  ((∃ k : Nat, k < 32 ∧ kOf (oSize o) = ((k : Int), true) ∧ (cellOf g k at_).2 = true ∧ hd hs (blockOf g at_).toNat = (1, (k : Int), 0)) ∨
   (kOf (oSize o) = (0, false) ∧ ∃ m : Nat, WholeP hs (blockOf g at_).toNat m ∧ at_ = first g (blockOf g at_) ∧ (m : Int) = oBlocks o))
section
variable {B : World} {P R : SL} {t : K}
theorem Placed_c {d n : Nat} {c : List Int} {g at_ : Int} {hs : List Hd} {x : Sl} (hg : 0 ≤ g) (hg2 : g ≤ 2 ^ 20) (hl : hs.length ≤ 2 ^ 20) (hx : Rd R x 3 (hds hs)) {kk : Ob × Bool → K}
    (h1 : ∀ o, PlOk c n hs g at_ o → T B (R * LDx d n c) (kk (o, true))) (h0 : (∀ o, ¬ PlOk c n hs g at_ o) → ∀ o, T B (R * LDx d n c) (kk (o, false))) :
    T B (R * LDx d n c) (c_alloc_Placed (da d) g x at_ kk) := by
  refine T_of (alloc_Placed_ok _ g x at_ kk) ?_
  refine T_rdlen hx.init fun hxn => ?_
  rw [hds_len] at hxn
  have hxl : x.n = hs.length := by omega
  (repeat (first | ((with_reducible apply T_ldI); (focus rfl); (focus exact hasA); (focus rfl)) | (with_reducible refine T_al ?_; intro _)))
  refine geom_BlockOf_c (by omega) (by omega) ?_
  (repeat' (first | with_reducible refine T_brT ?_ | ((with_reducible apply T_ldI); (focus rfl); (focus exact hasA); (focus rfl)) | ((with_reducible apply T_st); (focus rfl); (focus exact updA); (focus simp); simp only [List.set, Nat.zero_add, Nat.reduceAdd]) | with_reducible refine T_brD (fun _ => ?_) (fun _ => ?_)))
  · rename_i b3 b4 hlt
    refine T_drop1 .last (T_drop1 .last ?_)
    exact h0 (fun o ho => by have := ho.2.1; omega) _
  · rename_i b3 b4 hn1 hlt
    refine T_drop1 .last (T_drop1 .last ?_)
    exact h0 (fun o ho => by have := ho.2.2.1; omega) _
  rename_i b3 b4 hb1 hb2
  obtain ⟨b, hb⟩ := Int.eq_ofNat_of_zero_le (show 0 ≤ blockOf g at_ by omega)
  have hlt : b < hs.length := by omega
  have hhd : hd hs b = hs[b] := getD_eq hlt _
  refine T_bring (X := LDx d n c) (.init (.init .last)) ?_
  refine LDx_open fun la => ?_
  refine object_Head_c ?_
  refine LDx_close ?_
  generalize hoh : oHead c n at_ = oe
  obtain ⟨⟨o1, o2⟩, e⟩ := oe
  simp only
  (repeat' (first | ((with_reducible apply T_ldI); (focus rfl); (focus exact hasA); (focus rfl)) | (with_reducible refine T_al ?_; intro _) | ((with_reducible apply T_st); (focus rfl); (focus exact updA); (focus simp); simp only [List.set, Nat.zero_add, Nat.reduceAdd]) | with_reducible refine T_brNE (fun _ => ?_) (fun _ => ?_)))
  · rename_i b2 hne
    refine T_drop1 .last ?_
    refine T_drop1 (.init .last) (T_drop1 (.init .last) ?_)
    exact h0 (fun o ho => by rw [ho.1] at hoh; simp only [Prod.mk.injEq] at hoh; exact hne hoh.2.symm) _
  rename_i b2 he
  subst he
  rw [hb]
  refine T_ixH (l := hs) hx.init.init.init.init (by omega) (by rw [Int.toNat_natCast]; exact hlt) fun a ha => ?_
  simp only [Int.toNat_natCast] at ha
  refine T_ldAt ha rfl ?_
  refine T_ldAt ha rfl ?_
  refine T_ldAt ha rfl ?_
  (repeat (first | ((with_reducible apply T_ldI); (focus rfl); (focus exact hasA); (focus rfl)) | (with_reducible refine T_al ?_; intro _) | ((with_reducible apply T_st); (focus rfl); (focus exact updA); (focus simp); simp only [List.set, Nat.zero_add, Nat.reduceAdd])))
  refine ohead_Small_c ?_
  by_cases hs1 : 1 ≤ oSize (o1, o2) ∧ oSize (o1, o2) ≤ 256
  · obtain ⟨k, k1, k2, k3⟩ := kOf_small hs1.1 hs1.2
    rw [k2]
    (repeat (first | with_reducible refine T_brT ?_ | ((with_reducible apply T_ldI); (focus rfl); (focus exact hasA); (focus rfl))))
    refine cells_At_c (by omega) (by omega) ?_
    generalize hce : cellOf g k at_ = ce
    obtain ⟨⟨c1, c2⟩, cb⟩ := ce
    have hno : (cb = true → hs[b] = (1, (k : Int), 0) → False) → ∀ o, ¬ PlOk c n hs g at_ o := by
      intro hn o ho
      obtain ⟨g1, g2, g3, g4⟩ := ho
      rw [hoh] at g1
      simp only [Prod.mk.injEq, and_true] at g1
      subst g1
      rcases g4 with ⟨k', h1', h2', h3', h4'⟩ | ⟨h2', _⟩
      · rw [k2] at h2'
        simp only [Prod.mk.injEq, Int.natCast_inj, and_true] at h2'
        subst h2'
        rw [hce] at h3'
        rw [hb, Int.toNat_natCast, hhd] at h4'
        exact hn h3' h4'
      · rw [k2] at h2'; simp at h2'
    cases cb
    · (repeat (first | with_reducible refine T_tick ?_ | with_reducible refine T_brF ?_ | ((with_reducible apply T_ldI); (focus rfl); (focus exact hasA); (focus rfl)) | (with_reducible refine T_al ?_; intro _) | ((with_reducible apply T_st); (focus rfl); (focus exact updA); (focus simp); simp only [List.set, Nat.zero_add, Nat.reduceAdd])))
      refine T_bring (X := LDx d n c) (by exact frmA) ?_
      repeat refine T_drop1 (.init .last) ?_
      exact h0 (hno fun h => by cases h) _
    · (repeat (first | with_reducible refine T_tick ?_ | with_reducible refine T_brT ?_ | with_reducible refine T_chk0 ?_ | ((with_reducible apply T_ldI); (focus rfl); (focus exact hasA); (focus rfl)) | (with_reducible refine T_al ?_; intro _) | ((with_reducible apply T_st); (focus rfl); (focus exact updA); (focus simp); simp only [List.set, Nat.zero_add, Nat.reduceAdd]) | ((with_reducible apply T_chk); (focus rfl); (focus exact hasA); (focus rfl))))
      refine T_bring (X := LDx d n c) (by exact frmA) ?_
      repeat refine T_drop1 (.init .last) ?_
      by_cases hq : hs[b] = (1, (k : Int), 0)
      · rw [hq]
        simp only [BEq.rfl, Bool.and_true]
        exact h1 (o1, o2) ⟨hoh, by omega, by omega, .inl ⟨k, k1, k2, by rw [hce], by rw [hb, Int.toNat_natCast, hhd, hq]⟩⟩
      · have : (hs[b].1 == 1 && (hs[b].2.1 == (k : Int) && (hs[b].2.2 == 0 && true))) = false := by
          cases hc2 : (hs[b].1 == 1 && (hs[b].2.1 == (k : Int) && (hs[b].2.2 == 0 && true))) with
          | false => rfl
          | true =>
            simp only [Bool.and_eq_true, beq_iff_eq, Bool.and_true] at hc2
            exact absurd (Prod.ext hc2.1 (Prod.ext hc2.2.1 hc2.2.2)) hq
        rw [this]
        exact h0 (hno fun _ h => hq h) _
  · have k2 := kOf_large hs1
    rw [k2]
    (repeat (with_reducible refine T_brF ?_))
    have hno : (∀ m : Nat, WholeP hs b m → at_ = first g (b : Int) → (m : Int) = oBlocks (o1, o2) → False) → ∀ o, ¬ PlOk c n hs g at_ o := by
      intro hn o ho
      obtain ⟨g1, g2, g3, g4⟩ := ho
      rw [hoh] at g1
      simp only [Prod.mk.injEq, and_true] at g1
      subst g1
      rcases g4 with ⟨k', h1', h2', h3', h4'⟩ | ⟨h2', m, h3', h4', h5'⟩
      · rw [k2] at h2'; simp at h2'
      · rw [hb] at h3' h4'
        exact hn m h3' h4' h5'
    refine bhead_Whole_c (hs := hs) (by omega) (by omega) hx.init.init.init.init.init (fun bb m e1 hw => ?_) (fun hw => ?_)
    · have e2 : bb = b := by omega
      subst e2
      (repeat (first | with_reducible refine T_tick ?_ | with_reducible refine T_brT ?_ | ((with_reducible apply T_ldI); (focus rfl); (focus exact hasA); (focus rfl))))
      refine geom_First_c (by omega) ?_
      (repeat' (first | with_reducible refine T_chk0 ?_ | ((with_reducible apply T_ldI); (focus rfl); (focus exact hasA); (focus rfl)) | ((with_reducible apply T_st); (focus rfl); (focus exact updA); (focus simp); simp only [List.set, Nat.zero_add, Nat.reduceAdd]) | ((with_reducible apply T_chk); (focus rfl); (focus exact hasA); (focus rfl)) | with_reducible refine T_brE (fun _ => ?_) (fun _ => ?_)))
      · rename_i hf
        refine ohead_Blocks_c ?_
        (repeat (first | with_reducible refine T_chk0 ?_ | ((with_reducible apply T_ldI); (focus rfl); (focus exact hasA); (focus rfl)) | ((with_reducible apply T_st); (focus rfl); (focus exact updA); (focus simp); simp only [List.set, Nat.zero_add, Nat.reduceAdd]) | ((with_reducible apply T_chk); (focus rfl); (focus exact hasA); (focus rfl))))
        refine T_bring (X := LDx d n c) (by exact frmA) ?_
        repeat refine T_drop1 (.init .last) ?_
        by_cases hq : (m : Int) = oBlocks (o1, o2)
        · rw [← hq]
          simp only [BEq.rfl]
          exact h1 (o1, o2) ⟨hoh, by omega, by omega, .inr ⟨k2, m, by rw [hb]; exact hw, by rw [hb]; exact hf, hq⟩⟩
        · have : ((m : Int) == oBlocks (o1, o2)) = false := by simpa using hq
          rw [this]
          exact h0 (hno fun m' h1' h2' h3' => hq (by have := hw.uniq h1'; subst this; exact h3')) _
      · rename_i hf
        refine T_bring (X := LDx d n c) (by exact frmA) ?_
        repeat refine T_drop1 (.init .last) ?_
        exact h0 (hno fun m' h1' h2' h3' => hf h2') _
    · (repeat (first | with_reducible refine T_tick ?_ | with_reducible refine T_brF ?_ | ((with_reducible apply T_ldI); (focus rfl); (focus exact hasA); (focus rfl)) | ((with_reducible apply T_st); (focus rfl); (focus exact updA); (focus simp); simp only [List.set, Nat.zero_add, Nat.reduceAdd])))
      refine T_bring (X := LDx d n c) (by exact frmA) ?_
      repeat refine T_drop1 (.init .last) ?_
      exact h0 (hno fun m' h1' h2' h3' => hw b m' rfl h1') _
theorem Place_c {a d g : Nat} {s : St} {at_ : Int} (inv : Inv g s.hs s.U s.L) {kk : Ob × Bool → K}
    (h1 : ∀ o, PlOk s.c (64 * g) s.hs g at_ o → T B (R * Al a d g s) (kk (o, true))) (h0 : (∀ o, ¬ PlOk s.c (64 * g) s.hs g at_ o) → ∀ o, T B (R * Al a d g s) (kk (o, false))) :
    T B (R * Al a d g s) (c_alloc_Allocator_Place (da a) at_ kk) := by
  refine T_of (alloc_Allocator_Place_ok _ at_ kk) ?_
  have hg := inv.big
  have hl := inv.len
  refine Al_open fun m u f => ?_
  unfold da
  (repeat (first | with_reducible refine T_nn ?_ | with_reducible refine T_tick ?_ | ((with_reducible apply T_ldI); (focus rfl); (focus exact hasA); (focus rfl)) | ((with_reducible apply T_ldP); (focus rfl); (focus exact hasA); (focus rfl)) | (with_reducible refine T_al ?_; intro _)))
  rename_i b0
  refine T_bring (X := Mg m d g s.hs s.F) (by exact frmA) ?_
  refine Mg_open fun tt x tie => ?_
  unfold da
  (repeat (((with_reducible apply T_ldP); (focus rfl); (focus exact hasA); (focus rfl))))
  refine T_bring (X := Tab tt d g s.hs) (by exact frmA) ?_
  refine blocks_All_c (by omega) fun sl => ?_
  (repeat (first | with_reducible refine T_chk0 ?_ | ((with_reducible apply T_chk); (focus rfl); (focus exact hasA); (focus rfl))))
  refine T_bring (X := LDx d (64 * g) s.c) (by exact frmA) ?_
  have cl : ∀ (o : Ob) (b : Bool), T B (R * Al a d g s) (kk (o, b)) → T B (R * Bm u (512 * g) s.U * Fl f s.L * pt a (.cells [.pointer (some ⟨m, 0, none⟩), .pointer (some ⟨d, 0, none⟩), .int .i64 g, .pointer (some ⟨u, 0, none⟩), .pointer (some ⟨f, 0, none⟩)].toArray 47) * pt b0 (.cells [.int .i64 o.1, .int .i64 o.2].toArray 68) * Idx x g s.F * pt m (.cells [.pointer (some ⟨tt, 0, none⟩), .pointer (some ⟨x, 0, none⟩), .int .i64 g].toArray 51) * Tab tt d g s.hs * vec 143 3 sl (hds s.hs) * LDx d (64 * g) s.c) (kk (o, b)) := by
    intro o b h
    have h2 := Al_close (m := m) (u := u) (f := f) h
    have h3 : T B (R * LDx d (64 * g) s.c * Bm u (512 * g) s.U * Fl f s.L * pt a (.cells [.pointer (da m), .pointer (da d), .int .i64 g, .pointer (da u), .pointer (da f)].toArray 47) * Mg m d g s.hs s.F) (kk (o, b)) := T.perm (by ac_rfl) h2
    have h4 := Mg_close (a := tt) (x := x) tie h3
    refine T_drop1 (.init .last) ?_
    refine T_drop1 (by exact frmA : Frm _ (pt b0 (.cells [.int .i64 o.1, .int .i64 o.2].toArray 68)) _) ?_
    exact T.perm (by unfold da; ac_rfl) h4
  refine Placed_c (by omega) (by omega) (by omega) (Rd.vec (E := 143) (s := sl) .last) (fun o ho => ?_) (fun hno o => ?_)
  · (repeat (first | ((with_reducible apply T_ldI); (focus rfl); (focus exact hasA); (focus rfl)) | ((with_reducible apply T_st); (focus rfl); (focus exact updA); (focus simp); simp only [List.set, Nat.zero_add, Nat.reduceAdd])))
    exact T.perm (by ac_rfl) (cl o true (h1 o ho))
  · (repeat (first | ((with_reducible apply T_ldI); (focus rfl); (focus exact hasA); (focus rfl)) | ((with_reducible apply T_st); (focus rfl); (focus exact updA); (focus simp); simp only [List.set, Nat.zero_add, Nat.reduceAdd])))
    exact T.perm (by ac_rfl) (cl o false (h0 hno o))
end
end Go.Proofs.YtdgcbapclnnkkaaGreat.X
end
section
/- Contracts: objects given back. Conditions: at most 2^20 blocks; the device goes on. -/
set_option linter.unusedVariables false
set_option maxRecDepth 4000
set_option maxHeartbeats 1000000
namespace Go.Proofs.YtdgcbapclnnkkaaGreat.X
open Go
theorem Inv.freeS {g : Nat} {hs : List Hd} {U : Nat → Bool} {L L' : Nat → List Int} (h : Inv g hs U L) {k x : Nat} (hk : k < 32) (hc : SmCell g hs k x) (hu : U x = true) (hp : (accL L' k 4).Perm ((x : Int) :: accL L k 4)) (ho : ∀ j, j < 32 → j ≠ k → (accL L' j 4).Perm (accL L j 4)) :
    Inv g hs (uDrop U x) L' := by
  refine ⟨h.len, h.two, h.big, h.right, h.zero, h.whole, h.cont, fun z hz => ?_, ⟨fun j hj => ?_, fun j hj y => ?_⟩⟩
  · unfold uDrop at hz
    simp only [Bool.and_eq_true] at hz
    exact h.used z hz.2
  · by_cases e : j = k
    · subst e
      rw [hp.nodup_iff, List.nodup_cons]
      refine ⟨fun hm => ?_, h.free.nd j hj⟩
      obtain ⟨x', e1, _, h2⟩ := (h.free.mem j hj _).1 hm
      have : x = x' := by omega
      subst this
      rw [hu] at h2; cases h2
    · exact (ho j hj e).nodup_iff.2 (h.free.nd j hj)
  · by_cases e : j = k
    · subst e
      rw [hp.mem_iff, List.mem_cons, h.free.mem j hj]
      constructor
      · rintro (rfl | ⟨x', rfl, h1, h2⟩)
        · exact ⟨x, rfl, hc, by unfold uDrop; simp⟩
        · exact ⟨x', rfl, h1, by unfold uDrop; simp [h2]⟩
      · rintro ⟨x', rfl, h1, h2⟩
        by_cases e : x' = x
        · subst e; exact .inl rfl
        · right
          refine ⟨x', rfl, h1, ?_⟩
          unfold uDrop at h2
          simpa [e] using h2
    · rw [(ho j hj e).mem_iff, h.free.mem j hj]
      constructor
      · rintro ⟨x', rfl, h1, h2⟩
        exact ⟨x', rfl, h1, by unfold uDrop; simp [h2]⟩
      · rintro ⟨x', rfl, h1, h2⟩
        refine ⟨x', rfl, h1, ?_⟩
        have hne : x' ≠ x := fun e2 => e (SmCell.k hj hk h1 (e2 ▸ hc))
        unfold uDrop at h2
        simpa [hne] using h2
theorem Inv.freeL {g : Nat} {hs : List Hd} {U : Nat → Bool} {L : Nat → List Int} (h : Inv g hs U L) {b n : Nat} (hb : 1 ≤ b) (hw : WholeP hs b n) : Inv g (splice hs b (List.replicate n (0, 0, 0))) (uDrop U (b * 512)) L := by
  have hl := h.len
  have hfit : b + (List.replicate n ((0, 0, 0) : Hd)).length ≤ hs.length := by simp; exact hw.2.1
  have hhd : ∀ i, hd (splice hs b (List.replicate n (0, 0, 0))) i = if b ≤ i ∧ i < b + n then (0, 0, 0) else hd hs i := by
    intro i
    unfold hd
    rw [splice_getD hfit, List.length_replicate]
    by_cases e : b ≤ i ∧ i < b + n
    · rw [if_pos e, if_pos e, List.getD_eq_getElem?_getD, List.getElem?_replicate]; split <;> rfl
    · rw [if_neg e, if_neg e]
  have hw' : ∀ {b0 n0}, WholeP hs b0 n0 → b0 ≠ b → WholeP (splice hs b (List.replicate n (0, 0, 0))) b0 n0 := by
    intro b0 n0 hw0 hne
    refine hw0.keep (splice_length hfit) fun i h1 h2 => ?_
    rw [hhd, if_neg]
    intro e
    rcases hw0.kind h1 h2 with ⟨h3, h4⟩ | ⟨h3, h4⟩ <;> rcases hw.kind e.1 e.2 with ⟨h5, h6⟩ | ⟨h5, h6⟩
    · omega
    · omega
    · omega
    · have e1 := hw0.2.2.2.2 (i - b0) (by omega) (by omega)
      have e2 := hw.2.2.2.2 (i - b) (by omega) (by omega)
      rw [show b0 + (i - b0) = i by omega] at e1
      rw [show b + (i - b) = i by omega] at e2
      rw [e1] at e2
      simp only [Prod.mk.injEq] at e2
      omega
  have hsm : ∀ j x, SmCell g (splice hs b (List.replicate n (0, 0, 0))) j x ↔ SmCell g hs j x := by
    intro j x
    constructor
    · rintro ⟨b', i, h1, h2, h3, h4, rfl⟩
      rw [hhd] at h3
      by_cases e : b ≤ b' ∧ b' < b + n
      · rw [if_pos e] at h3; simp at h3
      · rw [if_neg e] at h3; exact ⟨b', i, h1, h2, h3, h4, rfl⟩
    · rintro ⟨b', i, h1, h2, h3, h4, rfl⟩
      refine ⟨b', i, h1, h2, ?_, h4, rfl⟩
      rw [hhd, if_neg]
      · exact h3
      · intro e
        rcases hw.kind e.1 e.2 with ⟨_, h6⟩ | ⟨_, h6⟩ <;> (rw [h3] at h6; simp at h6)
  refine ⟨by rw [splice_length hfit]; exact hl, h.two, h.big, fun x hx => ?_, ?_, fun b0 hb0 => ?_, fun b0 hb0 => ?_, fun x hx => ?_, ⟨h.free.nd, fun j hj y => ?_⟩⟩
  · unfold splice at hx
    simp only [List.mem_append] at hx
    rcases hx with (hx | hx) | hx
    · exact h.right x (List.mem_of_mem_take hx)
    · rw [List.eq_of_mem_replicate hx]; exact .inl rfl
    · exact h.right x (List.mem_of_mem_drop hx)
  · rw [hhd, if_neg (by omega)]; exact h.zero
  · rw [hhd] at hb0
    by_cases e : b ≤ b0 ∧ b0 < b + n
    · rw [if_pos e] at hb0; simp at hb0
    · rw [if_neg e] at hb0
      obtain ⟨n', hw0⟩ := h.whole b0 hb0
      exact ⟨n', hw' hw0 (fun e2 => e (by have := hw.1; omega))⟩
  · rw [hhd] at hb0
    by_cases e : b ≤ b0 ∧ b0 < b + n
    · rw [if_pos e] at hb0; simp at hb0
    · rw [if_neg e] at hb0
      obtain ⟨b1, n', hw0, h1, h2⟩ := h.cont b0 hb0
      refine ⟨b1, n', hw' hw0 (fun e2 => ?_), h1, h2⟩
      subst e2
      have := hw.uniq hw0
      omega
  · unfold uDrop at hx
    simp only [Bool.and_eq_true, bne_iff_ne, ne_eq] at hx
    rcases h.used x hx.2 with ⟨j, hj, hc⟩ | ⟨b0, n0, h1, hw0, h2⟩
    · exact .inl ⟨j, hj, (hsm j x).2 hc⟩
    · exact .inr ⟨b0, n0, h1, hw' hw0 (fun e => hx.1 (by omega)), h2⟩
  · rw [h.free.mem j hj]
    constructor
    · rintro ⟨x, rfl, h1, h2⟩
      exact ⟨x, rfl, (hsm j x).2 h1, by unfold uDrop; simp [h2]⟩
    · rintro ⟨x, rfl, h1, h2⟩
      have h1 := (hsm j x).1 h1
      refine ⟨x, rfl, h1, ?_⟩
      have hne : x ≠ b * 512 := by
        intro e
        obtain ⟨b', i, g1, g2, g3, g4, g5⟩ := h1
        have e3 := cellN_blk (b := b') hj g4
        have : b' = b := by omega
        subst this
        have := hw.2.2.1
        unfold hd at g3
        rw [g3] at this; simp at this
      unfold uDrop at h2
      simpa [hne] using h2
/-- what a giving back turns -/
structure FreeR (g : Nat) (s s' : St) (x : Nat) : Prop where
  inv : Inv g s'.hs s'.U s'.L
  was : s.U x = true
  u : s'.U = uDrop s.U x
  from_ : (∃ k : Nat, k < 32 ∧ SmCell g s.hs k x ∧ s'.hs = s.hs ∧ s'.F = s.F ∧ s'.c = s.c ∧ (accL s'.L k 4).Perm ((x : Int) :: accL s.L k 4) ∧ ∀ j, j < 32 → j ≠ k → (accL s'.L j 4).Perm (accL s.L j 4)) ∨
    (∃ b n : Nat, x = b * 512 ∧ 1 ≤ b ∧ WholeP s.hs b n ∧ s'.hs = splice s.hs b (List.replicate n (0, 0, 0)) ∧ s'.c = wrH s.c b (List.replicate n (0, 0, 0)) ∧ s'.L = s.L)
theorem blockOf_nat {g a : Int} (h : 1 ≤ blockOf g a) : ∃ x : Nat, a = x ∧ blockOf g a = ((x / 512 : Nat) : Int) ∧ a < g * 512 ∧ 512 ≤ x := by
  unfold blockOf at h ⊢
  split at h
  · omega
  · rename_i hh
    obtain ⟨x, rfl⟩ := Int.eq_ofNat_of_zero_le (show 0 ≤ a by omega)
    refine ⟨x, rfl, by rw [if_neg hh]; omega, by omega, by omega⟩
theorem cellOf_sm {g : Nat} {hs : List Hd} {k : Nat} {a : Int} (hk : k < 32) (hb : 1 ≤ blockOf g a) (hc : (cellOf g k a).2 = true) (hh : hd hs (blockOf g a).toNat = (1, (k : Int), 0)) : ∃ x : Nat, a = x ∧ SmCell g hs k x := by
  obtain ⟨x, rfl, h1, h2, h3⟩ := blockOf_nat hb
  obtain ⟨t1, t2, t3, t4, t5, t6, t7, t8⟩ := cls_tab k hk
  refine ⟨x, rfl, ?_⟩
  unfold cellOf at hc
  rw [if_neg (by omega)] at hc
  simp only [decide_eq_true_eq] at hc
  rw [h1] at hc hh
  rw [Int.toNat_natCast] at hh
  unfold cellAt at hc
  split at hc
  · omega
  · rename_i hn
    simp only [t1, t2] at hc hn
    have e : (x : Int) % 512 / (cw k : Int) = ((x % 512 / cw k : Nat) : Int) := by simp
    rw [e] at hc hn
    refine ⟨x / 512, x % 512 / cw k, by omega, by omega, hh, by omega, ?_⟩
    unfold cellN
    have : ((x / 512 : Nat) : Int) * 512 + ((x % 512 / cw k : Nat) : Int) * (cw k : Int) = ((x / 512 * 512 + x % 512 / cw k * cw k : Nat) : Int) := by simp
    rw [this] at hc
    omega
section
variable {B : World} {P R : SL} {t : K}
theorem Free_c {a d g : Nat} {s : St} (inv : Inv g s.hs s.U s.L) {m x : Int} {kk : Int → K}
    (hM : ((∀ o, ¬ PlOk s.c (64 * g) s.hs g x o) ∨ has s.U x = false) → T B (R * Al a d g s) (kk 42))
    (h1 : ∀ (n : Nat) s' o, x = n → PlOk s.c (64 * g) s.hs g x o → FreeR g s s' n → T B (R * Al a d g s') (kk 0)) :
    T B (R * Al a d g s) (c_alloc_Allocator_Free (da a) m x kk) := by
  refine T_of (alloc_Allocator_Free_ok _ m x kk) ?_
  have hg := inv.big
  have hl := inv.len
  refine Place_c inv (fun o ho => ?_) (fun hno o => ?_)
  · (repeat (first | (with_reducible refine T_al ?_; intro _) | ((with_reducible apply T_st); (focus rfl); (focus exact updA); (focus simp); simp only [List.set, Nat.zero_add, Nat.reduceAdd])))
    rename_i b0
    (dsimp only [alloc_Allocator_Free, alloc_Allocator_Free_s0, alloc_Allocator_Free_s1, alloc_Allocator_Free_s2, alloc_Allocator_Free_s3, alloc_Allocator_Free_s4, alloc_Allocator_Free_s5, alloc_Allocator_Free_s6, alloc_Allocator_Free_s7, alloc_Allocator_Free_s8, alloc_Allocator_Free_s9, alloc_Allocator_Free_s10, alloc_Allocator_Free_s11, alloc_Allocator_Free_s12, alloc_Allocator_Free_s13, alloc_Allocator_Free_s14, alloc_Allocator_Free_s15, alloc_Allocator_Free_s16, alloc_Allocator_Free_s17, alloc_Allocator_Free_s18, alloc_Allocator_Free_s19])
    simp only [Bool.not_true]
    (repeat (with_reducible refine T_brF ?_))
    refine T_bring (X := Al a d g s) (.init .last) ?_
    refine Al_open fun mm u f => ?_
    unfold da
    (repeat (first | with_reducible refine T_nn ?_ | ((with_reducible apply T_ldP); (focus rfl); (focus exact hasA); (focus rfl))))
    refine T_bring (X := Bm u (512 * g) s.U) (.init (.init .last)) ?_
    refine bitmap_Has_c ?_
    have cl : ∀ t, T B (R * Al a d g s) t → T B (R * pt b0 (.cells [.int .i64 o.1, .int .i64 o.2].toArray 68) * LDx d (64 * g) s.c * Mg mm d g s.hs s.F * Fl f s.L * pt a (.cells [.pointer (some ⟨mm, 0, none⟩), .pointer (some ⟨d, 0, none⟩), .int .i64 g, .pointer (some ⟨u, 0, none⟩), .pointer (some ⟨f, 0, none⟩)].toArray 47) * Bm u (512 * g) s.U) t := by
      intro t h
      refine T_drop1 (by exact frmA : Frm _ (pt b0 (.cells [.int .i64 o.1, .int .i64 o.2].toArray 68)) _) ?_
      exact T.perm (by unfold da; ac_rfl) (Al_close (m := mm) (u := u) (f := f) h)
    cases hu : has s.U x
    · simp only [Bool.not_false]
      (repeat (with_reducible refine T_brT ?_))
      exact cl _ (hM (.inr hu))
    simp only [Bool.not_true]
    (repeat (first | with_reducible refine T_brF ?_ | ((with_reducible apply T_ldI); (focus rfl); (focus exact hasA); (focus rfl))))
    refine ohead_Small_c ?_
    rw [show ((o.1, o.2) : Ob) = o from rfl]
    obtain ⟨g1, g2, g3, g4⟩ := ho
    have hhu := hu
    unfold has at hu
    simp only [Bool.and_eq_true, decide_eq_true_eq] at hu
    rcases g4 with ⟨k, k1, k2, k3, k4⟩ | ⟨k2, n, k3, k4, k5⟩
    · obtain ⟨n, rfl, hc⟩ := cellOf_sm k1 g2 k3 k4
      rw [Int.toNat_natCast] at hu
      rw [k2]
      (dsimp only [alloc_Allocator_Free, alloc_Allocator_Free_s0, alloc_Allocator_Free_s1, alloc_Allocator_Free_s2, alloc_Allocator_Free_s3, alloc_Allocator_Free_s4, alloc_Allocator_Free_s5, alloc_Allocator_Free_s6, alloc_Allocator_Free_s7, alloc_Allocator_Free_s8, alloc_Allocator_Free_s9, alloc_Allocator_Free_s10, alloc_Allocator_Free_s11, alloc_Allocator_Free_s12, alloc_Allocator_Free_s13, alloc_Allocator_Free_s14, alloc_Allocator_Free_s15, alloc_Allocator_Free_s16, alloc_Allocator_Free_s17, alloc_Allocator_Free_s18, alloc_Allocator_Free_s19])
      simp only [Bool.not_true]
      (repeat (first | with_reducible refine T_nn ?_ | with_reducible refine T_brF ?_ | ((with_reducible apply T_ldP); (focus rfl); (focus exact hasA); (focus rfl))))
      have hL : ∀ i, i < 160 → (s.L i).length ≤ 2 ^ 30 := fun i hi => by have := inv.free.lens hg i hi; omega
      have hnf : ¬ FHas s.L k ((n : Nat) : Int) := by
        intro hf
        obtain ⟨x', e1, _, h2⟩ := (inv.free.mem k k1 _).1 (mem_accL.2 hf)
        have : n = x' := by omega
        subst this
        rw [hu.2] at h2; cases h2
      refine bitmap_Drop_c (fun h => by rw [hhu] at h; cases h) (fun _ _ => ?_)
      rw [Int.toNat_natCast]
      have fin : ∀ L', (accL L' k 4).Perm ((n : Int) :: accL s.L k 4) → (∀ j, j < 32 → j ≠ k → (accL L' j 4).Perm (accL s.L j 4)) →
          T B (R * pt b0 (.cells [.int .i64 o.1, .int .i64 o.2].toArray 68) * LDx d (64 * g) s.c * Mg mm d g s.hs s.F * pt a (.cells [.pointer (some ⟨mm, 0, none⟩), .pointer (some ⟨d, 0, none⟩), .int .i64 g, .pointer (some ⟨u, 0, none⟩), .pointer (some ⟨f, 0, none⟩)].toArray 47) * Bm u (512 * g) (uDrop s.U n) * Fl f L') (kk 0) := by
        intro L' hp ho
        have h2 := h1 n { s with U := uDrop s.U n, L := L' } o rfl ⟨g1, g2, g3, .inl ⟨k, k1, k2, k3, k4⟩⟩ ⟨inv.freeS k1 hc hu.2 hp ho, hu.2, rfl, .inl ⟨k, k1, hc, rfl, rfl, rfl, hp, ho⟩⟩
        refine T_drop1 (by exact frmA : Frm _ (pt b0 (.cells [.int .i64 o.1, .int .i64 o.2].toArray 68)) _) ?_
        exact T.perm (by unfold da; ac_rfl) (Al_close (m := mm) (u := u) (f := f) h2)
      have push : T B (R * pt b0 (.cells [.int .i64 o.1, .int .i64 o.2].toArray 68) * LDx d (64 * g) s.c * Mg mm d g s.hs s.F * pt a (.cells [.pointer (some ⟨mm, 0, none⟩), .pointer (some ⟨d, 0, none⟩), .int .i64 g, .pointer (some ⟨u, 0, none⟩), .pointer (some ⟨f, 0, none⟩)].toArray 47) * Bm u (512 * g) (uDrop s.U n) * Fl f s.L) (c_free_Lists_Push (da f) k n fun x74 => kk x74) := by
        refine free_Push_c hL k1 (fun h => absurd h hnf) fun _ => ?_
        obtain ⟨p1, p2⟩ := accL_turn (L := s.L) (L' := setN s.L k (s.L k ++ [(n : Int)])) (m := 0) (by omega) k1 (fun i h1 _ => setN_ne _ _ h1) (l := [(n : Int)]) (l' := []) (by
          rw [setN_same, setN_ne _ _ (show ix 0 k ≠ k by unfold ix; omega), List.append_nil, List.append_assoc, List.append_assoc]
          exact List.Perm.append_left _ List.perm_append_comm)
        rw [List.append_nil] at p1
        exact fin _ (p1.symm.trans (List.perm_append_singleton _ _)) (fun j hj hjk => by rw [p2 j hj hjk])
      (repeat' (first | with_reducible refine T_nn ?_ | with_reducible refine T_brT ?_ | ((with_reducible apply T_ldP); (focus rfl); (focus exact hasA); (focus rfl)) | with_reducible refine T_brD (fun _ => ?_) (fun _ => ?_)))
      · refine T.perm (by ac_rfl) push
      · refine T.perm (by ac_rfl) push
      · rename_i hm1 hm2
        obtain ⟨m0, rfl⟩ := Int.eq_ofNat_of_zero_le (show 0 ≤ m by omega)
        refine T_bring (X := Fl f s.L) (by exact frmA) ?_
        refine free_Put_c hL (by omega) k1 (fun h => absurd h hnf) fun _ L' ht hp => ?_
        obtain ⟨p1, p2⟩ := accL_turn (L := s.L) (L' := L') (by omega) k1 ht (l := [(n : Int)]) (l' := []) (by
          rw [List.append_nil]
          exact (List.perm_append_singleton _ _).trans hp.symm)
        rw [List.append_nil] at p1
        exact T.perm (by ac_rfl) (fin _ (p1.symm.trans (List.perm_append_singleton _ _)) (fun j hj hjk => by rw [p2 j hj hjk]))
    · obtain ⟨y, rfl, hb1, hb2, hb3⟩ := blockOf_nat g2
      rw [Int.toNat_natCast] at hu
      rw [hb1, Int.toNat_natCast] at k3
      have hyb : y = y / 512 * 512 := by
        rw [hb1] at k4
        unfold first at k4
        split at k4 <;> omega
      have hyb1 : 1 ≤ y / 512 := by omega
      rw [k2]
      (dsimp only [alloc_Allocator_Free, alloc_Allocator_Free_s0, alloc_Allocator_Free_s1, alloc_Allocator_Free_s2, alloc_Allocator_Free_s3, alloc_Allocator_Free_s4, alloc_Allocator_Free_s5, alloc_Allocator_Free_s6, alloc_Allocator_Free_s7, alloc_Allocator_Free_s8, alloc_Allocator_Free_s9, alloc_Allocator_Free_s10, alloc_Allocator_Free_s11, alloc_Allocator_Free_s12, alloc_Allocator_Free_s13, alloc_Allocator_Free_s14, alloc_Allocator_Free_s15, alloc_Allocator_Free_s16, alloc_Allocator_Free_s17, alloc_Allocator_Free_s18, alloc_Allocator_Free_s19])
      simp only [Bool.not_false]
      (repeat (first | with_reducible refine T_nn ?_ | with_reducible refine T_tick ?_ | with_reducible refine T_brT ?_ | ((with_reducible apply T_ldI); (focus rfl); (focus exact hasA); (focus rfl)) | ((with_reducible apply T_ldP); (focus rfl); (focus exact hasA); (focus rfl))))
      refine geom_BlockOf_c (by omega) (by omega) ?_
      rw [hb1]
      (repeat (first | with_reducible refine T_chk0 ?_ | ((with_reducible apply T_chk); (focus rfl); (focus exact hasA); (focus rfl))))
      refine T_bring (X := LDx d (64 * g) s.c) (by exact frmA) ?_
      refine T_bring (X := Mg mm d g s.hs s.F) (by exact frmA) ?_
      refine bman_Release_c (nn := n) rfl hyb1 (.inr k3) fun F' tie' => ?_
      (repeat' (first | with_reducible refine T_nn ?_ | ((with_reducible apply T_ldP); (focus rfl); (focus exact hasA); (focus rfl)) | with_reducible refine T_brNE (fun _ => ?_) (fun _ => ?_)))
      · rename_i h; exact absurd rfl h
      refine T_bring (X := Bm u (512 * g) s.U) (by exact frmA) ?_
      refine bitmap_Drop_c (fun h => by rw [hhu] at h; cases h) (fun _ _ => ?_)
      rw [Int.toNat_natCast]
      have hinv := inv.freeL hyb1 k3
      rw [← hyb] at hinv
      have h2 := h1 y { s with hs := splice s.hs (y / 512) (List.replicate n (0, 0, 0)), F := F', c := wrH s.c (y / 512) (List.replicate n (0, 0, 0)), U := uDrop s.U y } o rfl ⟨g1, g2, g3, .inr ⟨k2, n, by rw [hb1, Int.toNat_natCast]; exact k3, k4, k5⟩⟩ ⟨hinv, hu.2, rfl, .inr ⟨y / 512, n, hyb, hyb1, k3, rfl, rfl, rfl⟩⟩
      refine T_drop1 (by exact frmA : Frm _ (pt b0 (.cells [.int .i64 o.1, .int .i64 o.2].toArray 68)) _) ?_
      exact T.perm (by unfold da; ac_rfl) (Al_close (m := mm) (u := u) (f := f) h2)
  · (repeat (first | (with_reducible refine T_al ?_; intro _) | ((with_reducible apply T_st); (focus rfl); (focus exact updA); (focus simp); simp only [List.set, Nat.zero_add, Nat.reduceAdd])))
    (dsimp only [alloc_Allocator_Free, alloc_Allocator_Free_s0, alloc_Allocator_Free_s1, alloc_Allocator_Free_s2, alloc_Allocator_Free_s3, alloc_Allocator_Free_s4, alloc_Allocator_Free_s5, alloc_Allocator_Free_s6, alloc_Allocator_Free_s7, alloc_Allocator_Free_s8, alloc_Allocator_Free_s9, alloc_Allocator_Free_s10, alloc_Allocator_Free_s11, alloc_Allocator_Free_s12, alloc_Allocator_Free_s13, alloc_Allocator_Free_s14, alloc_Allocator_Free_s15, alloc_Allocator_Free_s16, alloc_Allocator_Free_s17, alloc_Allocator_Free_s18, alloc_Allocator_Free_s19])
    simp only [Bool.not_false]
    (repeat (with_reducible refine T_brT ?_))
    refine T_drop1 .last ?_
    exact hM (.inl hno)
end
end Go.Proofs.YtdgcbapclnnkkaaGreat.X
end
section
/- The addresses of a set, one behind the other: the iterator's walk. Conditions: limits below 2^40. -/
set_option linter.unusedVariables false
set_option maxRecDepth 100000
set_option maxHeartbeats 2000000
namespace Go.Proofs.YtdgcbapclnnkkaaGreat.X
open Go Go.RowKit Go.Shelf
attribute [local go_sem] Oper.semAt_some
def Nxt (U : Nat → Bool) (lim : Nat) (a : Int) (r : Int × Bool) : Prop :=
  (r = (0, false) ∧ ∀ x : Nat, a ≤ x → U x = false) ∨ (∃ x : Nat, r = ((x : Int), true) ∧ a ≤ x ∧ x < lim ∧ U x = true ∧ ∀ y : Nat, a ≤ y → y < x → U y = false)
/-- the addresses of a set below one -/
def uBel (U : Nat → Bool) (n : Nat) : List Int := ((List.range n).filter fun x => U x).map fun (x : Nat) => (x : Int)
theorem uBel_skip {U : Nat → Bool} {a : Nat} : ∀ {n : Nat}, a ≤ n → (∀ y, a ≤ y → y < n → U y = false) → uBel U n = uBel U a := by
  intro n
  induction n with
  | zero => intro h _; have : a = 0 := by omega
            subst this; rfl
  | succ n ih =>
    intro h hy
    by_cases e : a = n + 1
    · rw [e]
    · rw [← ih (by omega) fun y h1 h2 => hy y h1 (by omega)]
      unfold uBel
      rw [List.range_succ, List.filter_append]
      simp [hy n (by omega) (by omega)]
theorem uBel_len {U : Nat → Bool} {n : Nat} : (uBel U n).length ≤ n := by
  unfold uBel
  rw [List.length_map]
  exact Nat.le_trans (List.length_filter_le _ _) (by simp)
theorem uBel_hit {U : Nat → Bool} {x : Nat} (h : U x = true) : uBel U (x + 1) = uBel U x ++ [(x : Int)] := by
  unfold uBel
  rw [List.range_succ, List.filter_append]
  simp [h]
theorem all1_in (l Bx s lim n : Nat) (hn1 : 1 ≤ n) (U : Nat → Bool) (J : List Int → World → Prop) (hlim : lim ≤ 2 ^ 40) (hoff : ∀ x, lim ≤ x → U x = false)
    (hbox : ∀ pre W, J pre W → W.cell? ⟨Bx, 0, none⟩ = some (.pointer (some ⟨s, 0, none⟩)))
    (hN : ∀ pre W (a : Int), J pre W → Calls Tryz.prog 189 #[.pointer (some ⟨s, 0, none⟩), .int .i64 a] W fun e W' => ∃ r : Int × Bool, e = .returned (.tuple #[.int .i64 r.1, .bool r.2]) ∧ Nxt U lim a r ∧ J pre W')
    (hY : ∀ m (x : Nat) W, J (uBel U x) W → x < lim → YieldAt Fence.wide m Tryz.prog l #[.int .i64 x] W fun e W' => e = .returned (.bool true) ∧ J (uBel U x ++ [(x : Int)]) W')
    (W : World) (h0 : J [] W) :
    CallsIn Fence.wide n Tryz.prog 188 #[.func (.yield l) #[] #[], .pointer (some ⟨Bx, 0, none⟩)] W fun e W' => (∃ v, e = .returned v) ∧ J (uBel U lim) W' := by
  refine callsIn_of_wp Tryz.func188 rfl trivial ?_ rfl
  simp only [Tryz.ntmps188, List.size_toArray, List.length_cons, List.length_nil, Nat.reduceAdd, Nat.reduceSub, Array.replicate_succ, Array.replicate_zero, List.push_toArray, List.append_toArray, List.nil_append, List.cons_append]
  have hb := hbox [] W h0
  have hf189 : Fence.wide.fn 189 := trivial
  gi_wp2_with (gi_at_call 189; refine (callsIn_wide.2 (hN [] W 0 h0)).mono ?_; rintro e w' ⟨r, rfl, hr, hJ⟩)
  gi_loopw [3, 4] (fun p q wr => ∃ (a : Nat) (r : Int × Bool), p = .int .i64 r.1 ∧ q = .bool r.2 ∧ Nxt U lim a r ∧ a ≤ lim ∧ J (uBel U a) wr)
    (fun p q wr => match p, q with | .int _ x, .bool true => lim - x.toNat | _, _ => 0)
  case atStart =>
    exact ⟨0, r, rfl, rfl, hr, by omega, hJ⟩
  case round =>
    obtain ⟨a, r, rfl, rfl, hr, ha, hJ⟩ := hrel
    rcases hr with ⟨rfl, hz⟩ | ⟨x, rfl, h1, h2, h3, h4⟩
    · gi_wp2
      go_end0
      refine ⟨⟨_, rfl⟩, ?_⟩
      rw [uBel_skip (a := a) ha fun y h1 h2 => hz y (by omega)]
      exact hJ
    · have hJ' : J (uBel U x) wr := by
        rw [uBel_skip (a := a) (by omega) fun y h5 h6 => h4 y (by omega) h6]; exact hJ
      obtain ⟨fn, tmps, assign, body, hy, hR⟩ := hY (n - 1) x wr hJ' h2
      gi_wp2
      refine hR.mono ?_
      rintro e W3 ⟨rfl, hJ3⟩
      rw [← uBel_hit h3] at hJ3
      have hb3 := hbox _ W3 hJ3
      gi_wp2_with (gi_at_call 189; refine (callsIn_wide.2 (hN _ W3 (((x + 1 : Nat) : Int)) hJ3)).mono ?_; rintro e w' ⟨r', rfl, hr', hJ4⟩)
      go_roundw
      case rel => exact ⟨x + 1, r', rfl, rfl, hr', by omega, hJ4⟩
      case measure =>
        rcases hr' with ⟨rfl, _⟩ | ⟨x', rfl, h5, h6, _, _⟩
        · simp; omega
        · simp; omega
end Go.Proofs.YtdgcbapclnnkkaaGreat.X
end
section
/- Contracts: the addresses of a set, as a list. Conditions: limits below 2^40. -/
set_option linter.unusedVariables false
set_option maxRecDepth 100000
set_option maxHeartbeats 2000000
namespace Go.Proofs.YtdgcbapclnnkkaaGreat.X
open Go Go.RowKit Go.Shelf
attribute [local go_sem] Oper.semAt_some
theorem all_in (n : Nat) (p0 : Option Addr) (w : World) :
    CallsIn Fence.wide n Tryz.prog 130 #[.pointer p0] w fun e w' => e = .returned (.func (.func 188) #[] #[.pointer (some ⟨w.heap.size, 0, none⟩)]) ∧ w' = w.alloc (.cells #[.pointer p0] 44) := by
  refine callsIn_of_wp Tryz.func130 rfl trivial ?_ rfl
  simp only [Tryz.ntmps130, List.size_toArray, List.length_cons, List.length_nil, Nat.reduceAdd, Nat.reduceSub, Array.replicate_succ, Array.replicate_zero, List.push_toArray, List.append_toArray, List.nil_append, List.cons_append]
  gi_wp2
  go_ret
  exact ⟨rfl, rfl⟩
theorem wpListIn_append_run {F : Fence} {n : Nat} {P : Program} (w : World) {ops : Array Oper} {rest : List Oper} {o : Oper} {a : Act} {Q : Exit → Act → World → Prop}
    (hg : o.guard = none) (s x : Operand) (t : TypeId) (hop : o.op = Op.call { callee := Callee.builtin Builtin.append, args := #[s, x], argTypes := #[t, t] })
    (v v2 v' : Value) (w' : World) (hs : a.eval s = v) (hx : a.eval x = v2) (hrun : (Builtin.append_ #[t, t] o.type #[v, v2]).run P w = .ok v' w') (hK : wpListIn F n P ops Q rest (a.put o.dst v') w') :
    wpListIn F n P ops Q (o :: rest) a w := by
  refine wpListIn_plain hg fun K hK' => ?_
  unfold Oper.wpIn
  refine ⟨?_, ?_⟩
  · simp [Oper.about, hop, resolve, Target.leads, Sem.run_pure]
  · rw [Oper.semAt_plain F _ _ (by rw [hop]; intro c hc'; cases hc')]
    simp [execOp, hop, resolve, invoke, builtin, hs, hx, hrun, Result.andThen]
    exact hK' _ _ hK
section
variable {B : World} {P R : SL} {t : K}
theorem Bm_ok {s lim : Nat} {U : Nat → Bool} (h : lim ≤ 2 ^ 40 → (∀ x, lim ≤ x → U x = false) → T B (R * Bm s lim U) t) : T B (R * Bm s lim U) t :=
  Bm_open fun q ws m ok => Bm_close ok (h ok.big ok.off)
theorem Sat.perm {Q : SL} {w : World} (e : P = Q) (h : Sat B P w) : Sat B Q w := e ▸ h
theorem putObj_sat {w : World} {r : Nat} {o o' : Obj} (s : Sat B (R * pt r o) w) : Sat B (R * pt r o') (w.putObj r o') := by
  have hr := (s.has (b := r) (o := o) Has.last).1
  have hlt : r < w.heap.size := (Array.getElem?_eq_some_iff.1 hr).1
  refine s.upd Upd.last (World.putObj_heap_same hlt) (fun x hx => World.putObj_heap_other hx) rfl rfl rfl (by simp)
theorem sat_ex {α : Type} {X : α → SL} {w : World} (h : Sat B (ex X) w) : ∃ x, Sat B (X x) w := by
  obtain ⟨⟨g, ⟨x, hx⟩, hb⟩, k⟩ := h
  exact ⟨x, ⟨g, hx, hb⟩, k⟩
theorem ex_sat {α : Type} {X : α → SL} {w : World} (x : α) (h : Sat B (X x) w) : Sat B (ex X) w := by
  obtain ⟨⟨g, hx, hb⟩, k⟩ := h
  exact ⟨⟨g, ⟨x, hx⟩, hb⟩, k⟩
/-- a range over a function whose rounds go on: what stands between two rounds is told by an assertion -/
theorem wp_rangeS {Pg : Program} {β : Type} {g : Operand} {ps : Array Tmp} {assign body : Code} {Q : Exit → Act → World → Prop} {a : Act} {w : World} {n gf : Nat} {lb : Array Value} (hn : 1 ≤ n)
    (hg : a.eval g = .func (.func gf) #[] lb) (eg : ∀ args w, (callFunc gf args).run Pg w = .ok (.enter gf args) w) (enc : β → Array Value) (hps : ∀ x, (enc x).size = ps.size) (ok : List β → β → Prop)
    (I : List β → SL) (all : List β) (h0 : Sat B (I []) w) (a₁ : β → Act)
    (hseq : ∀ (l : Nat) (X : SL), (∀ m pre x W, Sat B (I pre * X) W → ok pre x → YieldAt Fence.wide m Pg l (enc x) W fun e W' => e = .returned (.bool true) ∧ Sat B (I (pre ++ [x]) * X) W') →
      ∀ W, Sat B (I [] * X) W → CallsIn Fence.wide (n - 1) Pg gf (#[.func (.yield l) #[] #[]] ++ lb) W fun e W' => (∃ v, e = .returned v) ∧ Sat B (I all * X) W')
    (hassign : ∀ (m l : Nat) (x : β) (W : World) (K : Act → World → Prop), K (a₁ x) W → assign.wpIn (Fence.wide.inRound l) m Pg (Exit.then K (fun _ _ _ => False)) { tmps := (ps.zip (enc x)).foldl (fun t (p, v) => t.setIfInBounds p v) a.tmps, defers := [] } W)
    (hbody : ∀ (m l : Nat) (pre : List β) (x : β) (W : World) (X : SL), ok pre x → Sat B (I pre * X) W → body.wpIn (Fence.wide.inRound l) m Pg (fun e _ W' => e = .normal ∧ Sat B (I (pre ++ [x]) * X) W') (a₁ x) W)
    (hdone : ∀ (D : Nat) (W : World), Sat B (I all * pt D (.deferred (some []))) W → Q .normal { a with defers := { target := .collected D, args := #[] } :: a.defers } W) :
    (Code.rangeFunc g ps assign body).wpIn Fence.wide n Pg Q a w := by
  refine wpIn_rangeFunc ?_
  intro fn hfn
  rw [show Fence.wide.round = none from rfl]
  obtain ⟨rec, hrec⟩ : ∃ rec : LoopState → Option Code → Loop, rec = fun st pe => { state := st, pending := pe, fn, tmps := a.tmps, params := ps, assign, body, defers := w.heap.size } := ⟨_, rfl⟩
  have s1 : Sat B (I [] * pt w.heap.size (.deferred (some []))) (w.alloc (.deferred (some []))) := h0.alloc
  have s2 : Sat B (I [] * pt w.heap.size (.deferred (some [])) * pt (w.heap.size + 1) (.loop (rec .ready none))) ((w.alloc (.deferred (some []))).alloc (.loop (rec .ready none))) := by
    have := s1.alloc (o := .loop (rec .ready none))
    rwa [World.size_alloc] at this
  obtain ⟨W1, hW1⟩ : ∃ W1, (w.alloc (.deferred (some []))).alloc (.loop (rec .ready none)) = W1 := ⟨_, rfl⟩
  rw [hW1] at s2
  have sw : ∀ o (W : World) (Y : SL), Sat B (Y * (pt w.heap.size (.deferred (some [])) * pt (w.heap.size + 1) o)) W ↔ Sat B (Y * pt w.heap.size (.deferred (some [])) * pt (w.heap.size + 1) o) W := fun o W Y => by rw [sep_assoc]
  refine ⟨w.heap.size + 1, [{ target := .collected w.heap.size, args := #[] }], W1, { target := .fn (.func gf) lb, args := #[.func (.yield (w.heap.size + 1)) #[] #[]] }, W1, gf,
    #[.func (.yield (w.heap.size + 1)) #[] #[]] ++ lb, W1, ?_, ?_, fun _ _ => trivial, ?_, fun _ => hn, ?_⟩
  · rw [← hW1, hrec]; exact run_enterLoop_outer _ _ _ _ _
  · simp only [resolve, hg]
    simp [go_sem]
  · simp [invoke, go_sem, eg]
  · refine (hseq (w.heap.size + 1) (pt w.heap.size (.deferred (some [])) * pt (w.heap.size + 1) (.loop (rec .ready none))) ?_ W1 ((sw _ _ _).2 s2)).mono ?_
    · intro m pre x W hs hx
      rw [sw] at hs
      have hl : W.heap[w.heap.size + 1]? = some (.loop (rec .ready none)) := (hs.has Has.last).1
      have hy := run_yield (P := Pg) (args := enc x) hl (by rw [hrec]; exact hps x)
      rw [hrec] at hy
      refine ⟨fn, _, assign, body, hy, roundIn_of_wpIn hfn (hassign _ _ x W _ ⟨_, run_beginRound hl (by rw [hrec]), ?_⟩)⟩
      have hs2 := putObj_sat (o' := .loop { rec .ready none with state := .busy }) hs
      rw [← sw] at hs2
      refine wpIn_mono (hbody _ _ pre x _ _ hx hs2) ?_
      rintro e a3 W3 ⟨rfl, hs3⟩
      rw [sw] at hs3
      have hl3 : W3.heap[w.heap.size + 1]? = some (.loop { rec .ready none with state := .busy }) := (hs3.has Has.last).1
      have hend := run_endRound (P := Pg) none hl3
      refine ⟨_, _, hend, rfl, ?_⟩
      have hs4 := putObj_sat (o' := .loop (rec .ready none)) hs3
      rw [sw]
      rw [hrec] at hs4 ⊢
      exact hs4
    · rintro e W2 ⟨⟨v, rfl⟩, hs⟩
      rw [sw] at hs
      have hl : W2.heap[w.heap.size + 1]? = some (.loop (rec .ready none)) := (hs.has Has.last).1
      refine ⟨none, _, by have := run_endLoop (P := Pg) hl (by rw [hrec]; simp); rw [hrec] at this; exact this, ?_⟩
      exact hdone _ _ (putObj_sat hs).left
theorem bitmap_List_c {s lim : Nat} {U : Nat → Bool} {k : Sl → K} (hk : ∀ out, T B (R * Bm s lim U * vec 3 1 out (ints (uBel U lim))) (k out)) : T B (R * Bm s lim U) (c_bitmap_Set_List (da s) k) := by
  refine Bm_ok fun hlim hoff => ?_
  intro w hw
  unfold c_bitmap_Set_List cl
  refine (callsIn_wide (n := 9)).1 (callsIn_of_wp_marks Tryz.func67 rfl trivial ?_ rfl)
  simp only [Tryz.ntmps67, List.size_toArray, List.length_cons, List.length_nil, Nat.reduceAdd, Nat.reduceSub, Array.replicate_succ, Array.replicate_zero, List.push_toArray, List.append_toArray, List.nil_append, List.cons_append]
  have hf130 : Fence.wide.fn 130 := trivial
  gi_wp2_with (gi_at_call 130; refine (all_in (9 - 1) _ _).mono ?_; rintro e w' ⟨rfl, rfl⟩)
  have s1 := hw.alloc (o := .cells [Value.slice none 0 0].toArray 27)
  have s2 := s1.alloc (o := .cells [Value.pointer (da s)].toArray 44)
  have hsz : ({ w with heap := w.heap.push (.cells [Value.slice none 0 0].toArray 27) } : World).heap.size = w.heap.size + 1 := by simp
  rw [hsz] at s2
  generalize hbx : w.heap.size + 1 = bx at *
  generalize hbo : w.heap.size = bo at *
  have s2 : Sat B (R * Bm s lim U * pt bo (.cells [Value.slice none 0 0].toArray 27) * pt bx (.cells [Value.pointer (da s)].toArray 44)) ((w.alloc (.cells #[Value.slice none 0 0] 27)).alloc (.cells #[Value.pointer (da s)] 44)) := s2
  generalize ((w.alloc (.cells #[Value.slice none 0 0] 27)).alloc (.cells #[Value.pointer (da s)] 44)) = w2 at *
  have eg : ∀ args w, (callFunc 188 args).run Tryz.prog w = .ok (.enter 188 args) w := enters_of Tryz.func188 (by kernel_rfl) rfl
  refine wp_rangeS (B := B) (n := 9) (β := Int) (lb := #[.pointer (some ⟨bx, 0, none⟩)]) (by omega) rfl eg (fun x => #[.int .i64 x]) (fun _ => rfl) (fun pre x => ∃ n : Nat, x = n ∧ n < lim ∧ pre = uBel U n)
    (fun pre => ex fun out : Sl => R * Bm s lim U * pt bx (.cells [Value.pointer (da s)].toArray 44) * pt bo (.cells [out.v].toArray 27) * vec 3 1 out (ints pre)) (uBel U lim) ?start
    (fun x => { tmps := #[Value.pointer (da s), undef, Value.slice none 0 0, Value.pointer (some { block := bo, off := 0 }), Value.int .i64 x, Value.pointer (da s), Value.func (Fn.func 188) #[] #[Value.pointer (some { block := bx, off := 0 })], Value.int .i64 x, undef, undef, undef, undef, undef], defers := [] }) ?seq ?assign ?body ?done
  case start =>
    refine ex_sat ⟨none, 0, 0⟩ ?_
    refine vec_none rfl rfl ?_
    exact s2.perm (by ac_rfl)
  case seq =>
    intro l X hY W hW
    refine all1_in l bx s lim (9 - 1) (by omega) U (fun pre W => Sat B ((ex fun out : Sl => R * Bm s lim U * pt bx (.cells [Value.pointer (da s)].toArray 44) * pt bo (.cells [out.v].toArray 27) * vec 3 1 out (ints pre)) * X) W) hlim hoff ?_ ?_ ?_ W hW
    · intro pre W hs
      rw [ex_sep] at hs
      obtain ⟨out, hs⟩ := sat_ex hs
      refine hs.cell (b := bx) (l := [Value.pointer (da s)]) (ty := 44) (fz := (0, 0)) (by exact hasA) rfl
    · intro pre W a hs
      rw [ex_sep] at hs
      obtain ⟨out, hs⟩ := sat_ex hs
      have hT : T B (R * pt bx (.cells [Value.pointer (da s)].toArray 44) * pt bo (.cells [out.v].toArray 27) * vec 3 1 out (ints pre) * X * Bm s lim U)
          (c_bitmap_Set_Next (da s) a fun r w' => Nxt U lim a r ∧ Sat B ((ex fun out : Sl => R * Bm s lim U * pt bx (.cells [Value.pointer (da s)].toArray 44) * pt bo (.cells [out.v].toArray 27) * vec 3 1 out (ints pre)) * X) w') := by
        have close : ∀ w', Sat B (R * pt bx (.cells [Value.pointer (da s)].toArray 44) * pt bo (.cells [out.v].toArray 27) * vec 3 1 out (ints pre) * X * Bm s lim U) w' → Sat B ((ex fun out : Sl => R * Bm s lim U * pt bx (.cells [Value.pointer (da s)].toArray 44) * pt bo (.cells [out.v].toArray 27) * vec 3 1 out (ints pre)) * X) w' := by
          intro w' h
          rw [ex_sep]
          exact ex_sat out (h.perm (by ac_rfl))
        refine bitmap_Next_c (fun hz w' h => ⟨.inl ⟨rfl, hz⟩, close w' h⟩) (fun x h1 h2 h3 h4 w' h => ⟨.inr ⟨x, rfl, h1, h3, h2, h4⟩, close w' h⟩)
      have hC := hT W (hs.perm (by ac_rfl))
      unfold c_bitmap_Set_Next cl at hC
      refine Calls.mono hC ?_
      rintro e W' ⟨r, rfl, h1, h2⟩
      exact ⟨r, rfl, h1, h2⟩
    · intro m x W hs hx
      exact hY m _ x W hs ⟨x, rfl, hx, rfl⟩
  case assign =>
    intro m l x W K hK
    gi_wp2
    exact hK
  case body =>
    intro m l pre x W X hx hs
    rw [ex_sep] at hs
    obtain ⟨out, hs⟩ := sat_ex hs
    have hc : W.cell? ⟨bo, 0, none⟩ = some out.v := hs.cell (b := bo) (l := [out.v]) (ty := 27) (fz := (0, 0)) (by exact hasA) rfl
    have hlen : pre.length + 1 ≤ 2 ^ 40 := by
      obtain ⟨n, _, h1, rfl⟩ := hx
      have := @uBel_len U n
      omega
    have hap : T B (R * Bm s lim U * pt bx (.cells [Value.pointer (da s)].toArray 44) * pt bo (.cells [out.v].toArray 27) * X * vec 3 1 out (ints pre) * pt W.heap.size (.cells [Value.int .i64 x].toArray 3))
        (semT Tryz.prog (Builtin.append_ #[27, 27] 27 #[out.v, .slice (some ⟨W.heap.size, 0, none⟩) 1 1]) (.one (.sc .slice)) fun s' w' => Sat B (R * Bm s lim U * pt bx (.cells [Value.pointer (da s)].toArray 44) * pt bo (.cells [out.v].toArray 27) * X * vec 3 1 s' (ints pre ++ [Value.int .i64 x])) w') :=
      T_app1b (new := [Value.int .i64 x]) kd_int rfl rfl (by rw [ints_len]; omega) fun s' w' h => h
    have hap2 := hap (W.alloc (.cells #[Value.int .i64 x] 3)) (Sat.alloc (hs.perm (by ac_rfl)))
    unfold semT at hap2
    generalize hrun : (Builtin.append_ #[27, 27] 27 #[out.v, .slice (some ⟨W.heap.size, 0, none⟩) 1 1]).run Tryz.prog (W.alloc (.cells #[Value.int .i64 x] 3)) = res at hap2
    cases res <;> simp only at hap2 <;> (try exact hap2.elim)
    rename_i v W'
    obtain ⟨s', rfl, hs'⟩ := hap2
    have hc' : W'.cell? ⟨bo, 0, none⟩ = some out.v := hs'.cell (b := bo) (l := [out.v]) (ty := 27) (fz := (0, 0)) (by exact hasA) rfl
    have hb' : W'.heap[bo]? = some (.cells [out.v].toArray 27) := (hs'.has (b := bo) (o := .cells [out.v].toArray 27) (by exact hasA)).1
    have hf' : W'.frozen? ⟨bo, 0, none⟩ = false := by simp [World.frozen?, hb']
    gi_wp2_with (gi_at_builtin; refine wpListIn_append_run _ rfl _ _ _ rfl _ _ _ _ rfl rfl hrun ?_)
    have hst := (T_st (a := ⟨bo, 0, none⟩) (v := s'.v) (i := 0) (l := [out.v]) (ty := 27) (b := bo) (t := fun w' => Sat B ((ex fun out : Sl => R * Bm s lim U * pt bx (.cells [Value.pointer (da s)].toArray 44) * pt bo (.cells [out.v].toArray 27) * vec 3 1 out (ints (pre ++ [x]))) * X) w') rfl (by exact updA) (by simp) fun w' h => by
      rw [ex_sep]
      refine ex_sat s' (h.perm ?_)
      rw [ints_append]
      show R * Bm s lim U * pt bx _ * pt bo (.cells [s'.v].toArray 27) * X * vec 3 1 s' (ints pre ++ ints [x]) = _
      ac_rfl) W' hs'
    exact hst.2.2
  case done =>
    intro D W hs
    rw [ex_sep] at hs
    obtain ⟨out, hs⟩ := sat_ex hs
    have hK : W.heap[D]? = some (.deferred (some [])) := (hs.has Has.last).1
    have hc : W.cell? ⟨bo, 0, none⟩ = some out.v := hs.cell (b := bo) (l := [out.v]) (ty := 27) (fz := (0, 0)) (by exact hasA) rfl
    gi_wp2
    refine ⟨by simp, .inl ⟨_, _, rfl, run_takeDeferred hK, ?_⟩⟩
    refine ⟨_, results_tmp rfl _ _ _, out, rfl, ?_⟩
    have hs2 := (putObj_sat (o' := .deferred none) hs).left
    refine hk out _ ?_
    have hs3 : Sat B (R * Bm s lim U * vec 3 1 out (ints (uBel U lim)) * (pt bx (.cells [Value.pointer (da s)].toArray 44) * pt bo (.cells [out.v].toArray 27))) (W.putObj D (.deferred none)) := hs2.perm (by ac_rfl)
    exact hs3.left
end
end Go.Proofs.YtdgcbapclnnkkaaGreat.X
end
section
/- Contracts: an allocator begun; what it tells. Conditions: at most 2^20 blocks; the device goes on. -/
set_option linter.unusedVariables false
set_option maxRecDepth 4000
set_option maxHeartbeats 1000000
namespace Go.Proofs.YtdgcbapclnnkkaaGreat.X
open Go
def hs0 (g : Nat) : List Hd := List.replicate g (0, 0, 0)
theorem hd_hs0 (g b : Nat) : hd (hs0 g) b = (0, 0, 0) := by
  unfold hd hs0
  rw [List.getD_eq_getElem?_getD, List.getElem?_replicate]; split <;> rfl
theorem Inv.begun {g : Nat} (h1 : 2 ≤ g) (h2 : g ≤ 2 ^ 20) : Inv g (hs0 g) (fun _ => false) (fun _ => []) := by
  have hno : ∀ k x, ¬ SmCell g (hs0 g) k x := by
    rintro k x ⟨b, i, _, _, h3, _⟩
    rw [hd_hs0] at h3; simp at h3
  refine ⟨by simp [hs0], h1, h2, fun x hx => ?_, hd_hs0 g 0, fun b hb => ?_, fun b hb => ?_, fun x hx => (by cases hx), ⟨fun k _ => ?_, fun k _ y => ?_⟩⟩
  · rw [List.eq_of_mem_replicate hx]; exact .inl rfl
  · rw [hd_hs0] at hb; simp at hb
  · rw [hd_hs0] at hb; simp at hb
  · simp [accL]
  · simp only [accL, List.append_nil, List.not_mem_nil, false_iff]
    rintro ⟨x, _, h3, _⟩
    exact hno k x h3
section
variable {B : World} {P R : SL} {t : K}
theorem alloc_New_c {d m g : Nat} {c : List Int} {F : RF} (h1 : 2 ≤ g) (h2 : g ≤ 2 ^ 20) {kk : Option Addr × Int → K}
    (hk : ∀ a, T B (R * Al a d g ⟨hs0 g, F, c, fun _ => false, fun _ => []⟩) (kk (da a, 0))) : T B (R * LDx d (64 * g) c * Mg m d g (hs0 g) F) (c_alloc_New (da d) (da m) ⟨none, 0, 0⟩ kk) := by
  refine T_of (alloc_New_ok _ _ _ kk) ?_
  refine bman_Geometry_c ?_
  refine T_bring (X := LDx d (64 * g) c) (.init .last) ?_
  refine LDx_open fun la => ?_
  refine LLen_c fun hl hn => ?_
  refine LDx_close ?_
  have e1 : ((8 * (64 * g) : Nat) : Int) = ((512 * g : Nat) : Int) := by omega
  rw [e1]
  refine bitmap_New_c (by omega) fun u => ?_
  refine free_New_c fun f => ?_
  (repeat ((with_reducible refine T_al ?_; intro _)))
  rename_i a
  (dsimp only [alloc_New, alloc_New_s0, alloc_New_s1, alloc_New_s2, alloc_New_s3, alloc_New_s4, alloc_New_s5, alloc_New_l6, alloc_New_s7, alloc_New_s8, alloc_New_s9, alloc_New_s10, alloc_New_s11, alloc_New_s12, alloc_New_s13, alloc_New_s14, alloc_New_s15, alloc_New_s16, alloc_New_l17, alloc_New_s18, alloc_New_s19, alloc_New_s20])
  have cl : ∀ t, T B (R * Al a d g ⟨hs0 g, F, c, fun _ => false, fun _ => []⟩) t → T B (R * Mg m d g (hs0 g) F * LDx d (64 * g) c * Bm u (512 * g) (fun _ => false) * Fl f (fun _ => []) * pt a (.cells [.pointer (da m), .pointer (da d), .int .i64 g, .pointer (da u), .pointer (da f)].toArray 47)) t :=
    fun t h => T.perm (by ac_rfl) (Al_close (a := a) (m := m) (u := u) (f := f) (d := d) (g := g) (R := R) (s := ⟨hs0 g, F, c, fun _ => false, fun _ => []⟩) h)
  have hk := cl _ (hk a)
  clear cl
  generalize hX : R * Mg m d g (hs0 g) F * LDx d (64 * g) c * Bm u (512 * g) (fun _ => false) * Fl f (fun _ => []) * pt a (.cells [.pointer (da m), .pointer (da d), .int .i64 g, .pointer (da u), .pointer (da f)].toArray 47) = X at *
  refine T_lpX (fun _ _ => X) (fun n (z : Int × Unit) => z.1 = 0 ∧ n = 0) 0 rfl ⟨rfl, rfl⟩ ?_
  rintro n ⟨z, uu⟩ cc ⟨e, rfl⟩ hc
  simp only at e
  subst e
  clear hc
  (repeat' (with_reducible refine T_brD (fun _ => ?_) (fun _ => ?_)))
  · rename_i h; simp at h
  refine T_lpX (fun _ _ => X) (fun n (z : Int × Unit) => ∃ i : Nat, z.1 = i ∧ 1 ≤ i ∧ n = g - i) (g - 1) rfl ⟨1, rfl, by omega, rfl⟩ ?_
  rintro n ⟨z, uu⟩ cc ⟨i, e1, e2, e3⟩ hc
  simp only at e1
  subst e1 e3
  have hnx := hc (g - (i + 1)) (IntKind.wrap .i64 ((i : Int) + 1), ())
  clear hc
  subst hX
  refine T_bring (X := Mg m d g (hs0 g) F) (by exact frmA) ?_
  refine Mg_open fun tt x tie => ?_
  unfold da
  (repeat (first | with_reducible refine T_nn ?_ | ((with_reducible apply T_ldP); (focus rfl); (focus exact hasA); (focus rfl))))
  refine T_bring (X := Tab tt d g (hs0 g)) (by exact frmA) ?_
  refine blocks_Len_c ?_
  have hlen : (hs0 g).length = g := by simp [hs0]
  rw [hlen]
  (repeat' (first | with_reducible refine T_nn ?_ | ((with_reducible apply T_ldP); (focus rfl); (focus exact hasA); (focus rfl)) | with_reducible refine T_brD (fun _ => ?_) (fun _ => ?_)))
  · rename_i hlt
    refine blocks_Get_c ?_
    rw [if_neg (by omega), Int.toNat_natCast, show (hs0 g).getD i (0, 0, 0) = (0, 0, 0) from hd_hs0 g i]
    (repeat' (first | ((with_reducible apply T_ldI); (focus rfl); (focus exact hasA); (focus rfl)) | (with_reducible refine T_al ?_; intro _) | ((with_reducible apply T_st); (focus rfl); (focus exact updA); (focus simp); simp only [List.set, Nat.zero_add, Nat.reduceAdd]) | with_reducible refine T_brE (fun _ => ?_) (fun _ => ?_)))
    · rename_i h; exact absurd h (by decide)
    rename_i b hne
    by_cases hb : i < g
    · have := hnx (by omega) ⟨i + 1, w64 (by omega) (by omega), by omega, rfl⟩
      refine T_drop1 .last ?_
      have h2 : T B (R * LDx d (64 * g) c * Bm u (512 * g) (fun _ => false) * Fl f (fun _ => []) * pt a (.cells [.pointer (da m), .pointer (da d), .int .i64 g, .pointer (da u), .pointer (da f)].toArray 47) * Mg m d g (hs0 g) F) (cc (IntKind.wrap .i64 ((i : Int) + 1), ())) := T.perm (by ac_rfl) this
      have h3 := Mg_close (a := tt) (x := x) tie h2
      exact T.perm (by unfold da; ac_rfl) h3
    · exfalso; omega
  · have h2 : T B (R * LDx d (64 * g) c * Bm u (512 * g) (fun _ => false) * Fl f (fun _ => []) * pt a (.cells [.pointer (da m), .pointer (da d), .int .i64 g, .pointer (da u), .pointer (da f)].toArray 47) * Mg m d g (hs0 g) F) (kk (da a, 0)) := T.perm (by ac_rfl) hk
    have h3 := Mg_close (a := tt) (x := x) tie h2
    exact T.perm (by unfold da; ac_rfl) h3
theorem Objects_c {a d g : Nat} {s : St} {kk : Sl → K} (hk : ∀ sl, T B (R * Al a d g s * vec 3 1 sl (ints (uBel s.U (512 * g)))) (kk sl)) : T B (R * Al a d g s) (c_alloc_Allocator_Objects (da a) kk) := by
  refine T_of (alloc_Allocator_Objects_ok _ kk) ?_
  refine Al_open fun m u f => ?_
  unfold da
  (repeat (first | with_reducible refine T_nn ?_ | ((with_reducible apply T_ldP); (focus rfl); (focus exact hasA); (focus rfl))))
  refine T_bring (X := Bm u (512 * g) s.U) (by exact frmA) ?_
  refine bitmap_List_c fun sl => ?_
  have h2 : T B (R * vec 3 1 sl (ints (uBel s.U (512 * g))) * Al a d g s) (kk sl) := T.perm (by ac_rfl) (hk sl)
  exact T.perm (by unfold da; ac_rfl) (Al_close (m := m) (u := u) (f := f) h2)
theorem FreeCells_c {a d g k : Nat} {s : St} (inv : Inv g s.hs s.U s.L) (hk2 : k < 32) {kk : Sl → K} (hk : ∀ sl, T B (R * Al a d g s * vec 3 1 sl (ints (sortI (accL s.L k 4)))) (kk sl)) : T B (R * Al a d g s) (c_alloc_Allocator_FreeCells (da a) k kk) := by
  refine T_of (alloc_Allocator_FreeCells_ok _ k kk) ?_
  refine Al_open fun m u f => ?_
  unfold da
  (repeat (first | with_reducible refine T_nn ?_ | ((with_reducible apply T_ldP); (focus rfl); (focus exact hasA); (focus rfl))))
  refine T_bring (X := Fl f s.L) (by exact frmA) ?_
  refine free_List_c (fun i hi => by have := inv.free.lens inv.big i hi; omega) hk2 fun sl => ?_
  have h2 : T B (R * vec 3 1 sl (ints (sortI (accL s.L k 4))) * Al a d g s) (kk sl) := T.perm (by ac_rfl) (hk sl)
  exact T.perm (by unfold da; ac_rfl) (Al_close (m := m) (u := u) (f := f) h2)
theorem bman_Runs_c {m d g : Nat} {hs : List Hd} {F : RF} {k : Sl → K} (hk : ∀ s l, Cov F l → l.Pairwise (fun p q => p.1 ≤ q.1) → T B (R * Mg m d g hs F * vec 152 2 s (prs l)) (k s)) : T B (R * Mg m d g hs F) (c_bman_Manager_Runs (da m) k) := by
  refine T_of (bman_Manager_Runs_ok _ k) ?_
  refine Mg_open fun a x ok => ?_
  unfold da
  (repeat (first | with_reducible refine T_nn ?_ | ((with_reducible apply T_ldP); (focus rfl); (focus exact hasA); (focus rfl))))
  refine T_bring (X := Idx x g F) (.init .last) ?_
  refine runs_List_c ok.ok fun sl l hc hso => ?_
  have h2 : T B (R * vec 152 2 sl (prs l) * Mg m d g hs F) (k sl) := T.perm (by ac_rfl) (hk sl l hc hso)
  exact T.perm (by unfold da; ac_rfl) (Mg_close (a := a) (x := x) ok h2)
end
end Go.Proofs.YtdgcbapclnnkkaaGreat.X
end
section
/- How often there will be room: plain facts. Conditions: at most 2^20 blocks. -/
set_option linter.unusedVariables false
set_option maxRecDepth 4000
set_option maxHeartbeats 1000000
namespace Go.Proofs.YtdgcbapclnnkkaaGreat.X
open Go
def sumD (b : Int) : List (Int × Int) → Int | [] => 0 | p :: l => p.2 / b + sumD b l
theorem sumI_perm {l l' : List (Int × Int)} (h : l.Perm l') : sumI l = sumI l' := by
  induction h with
  | nil => rfl
  | cons x _ ih => simp only [sumI, ih]
  | swap x y l => simp only [sumI]; omega
  | trans _ _ h1 h2 => exact h1.trans h2
theorem sumD_perm {b : Int} {l l' : List (Int × Int)} (h : l.Perm l') : sumD b l = sumD b l' := by
  induction h with
  | nil => rfl
  | cons x _ ih => simp only [sumD, ih]
  | swap x y l => simp only [sumD]; omega
  | trans _ _ h1 h2 => exact h1.trans h2
theorem Cov.nodup {F : RF} {l : List (Int × Int)} (h : Cov F l) : l.Nodup :=
  List.Pairwise.of_map (·.1) (fun a b h e => h (by rw [e])) h.1
theorem Cov.perm {F : RF} {l l' : List (Int × Int)} (h : Cov F l) (h' : Cov F l') : l.Perm l' :=
  (List.perm_ext_iff_of_nodup h.nodup h'.nodup).2 fun p => by
    obtain ⟨a, b⟩ := p
    rw [← h.2, ← h'.2]
theorem Cov.pick {F : RF} {l : List (Int × Int)} (h : Cov F l) {b q : Int} (hb : F b = some q) : ∃ r, l.Perm ((b, q) :: r) ∧ Cov (delF F b) r := by
  have hm := (h.2 b q).1 hb
  refine ⟨l.erase (b, q), List.perm_cons_erase hm, ?_, fun key v => ?_⟩
  · have hn := h.1
    rw [((List.perm_cons_erase hm).map (·.1)).nodup_iff] at hn
    simp only [List.map_cons, List.nodup_cons] at hn
    exact hn.2
  · unfold delF
    rw [List.Nodup.mem_erase_iff h.nodup, ← h.2]
    have hn := h.1
    rw [((List.perm_cons_erase hm).map (·.1)).nodup_iff] at hn
    simp only [List.map_cons, List.nodup_cons] at hn
    by_cases e : key = b
    · rw [if_pos e]
      constructor
      · intro h; cases h
      · rintro ⟨h1, h2⟩
        rw [e, hb] at h2
        simp only [Option.some.injEq] at h2
        exact absurd (by rw [e, h2]) h1
    · rw [if_neg e]
      constructor
      · intro hk; exact ⟨fun he => e (by simp only [Prod.mk.injEq] at he; exact he.1), hk⟩
      · exact fun h => h.2
/-- the runs behind a taking -/
theorem Cov.take {lim : Int} {F : RF} (ok : RunsOk lim F) {l l' : List (Int × Int)} {b n q : Int} (h : Cov F l) (hb : F b = some q) (hn : 1 ≤ n) (hq : n ≤ q) (h' : Cov (takeF F b n q) l') :
    sumI l' = sumI l - n ∧ sumD n l' = sumD n l - 1 := by
  obtain ⟨r, hp, hr⟩ := h.pick hb
  have hrng := ok.rng _ _ hb
  by_cases hlt : n < q
  · have hcov : Cov (takeF F b n q) ((b + n, q - n) :: r) := by
      have hnot : (b + n) ∉ r.map (·.1) := by
        intro hm
        obtain ⟨p, hp2, he⟩ := List.mem_map.1 hm
        have h2 := (hr.2 p.1 p.2).2 hp2
        obtain ⟨_, h3⟩ := delF_some h2
        rw [he] at h3
        have := ok.sep _ _ _ _ hb h3 (by omega)
        omega
      refine ⟨by rw [List.map_cons, List.nodup_cons]; exact ⟨hnot, hr.1⟩, fun key v => ?_⟩
      unfold takeF
      rw [if_pos hlt]
      unfold updF
      rw [List.mem_cons]
      by_cases e : key = b + n
      · rw [if_pos e]
        constructor
        · intro h; left; simp only [Option.some.injEq] at h; rw [e, h]
        · rintro (h | h)
          · simp only [Prod.mk.injEq] at h; rw [h.2]
          · exact absurd (List.mem_map.2 ⟨_, h, e⟩) hnot
      · rw [if_neg e, hr.2]
        constructor
        · exact .inr
        · rintro (h | h)
          · simp only [Prod.mk.injEq] at h; exact absurd h.1 e
          · exact h
    have hp2 := h'.perm hcov
    rw [sumI_perm hp2, sumD_perm hp2, sumI_perm hp, sumD_perm hp]
    simp only [sumI, sumD]
    refine ⟨by omega, ?_⟩
    have : (q - n) / n = q / n - 1 := by
      rw [show q - n = q + (-1) * n by omega, Int.add_mul_ediv_right _ _ (by omega)]; omega
    omega
  · have hqn : q = n := by omega
    have hcov : Cov (takeF F b n q) r := by unfold takeF; rw [if_neg hlt]; exact hr
    have hp2 := h'.perm hcov
    rw [sumI_perm hp2, sumD_perm hp2, sumI_perm hp, sumD_perm hp]
    simp only [sumI, sumD, hqn]
    refine ⟨by omega, ?_⟩
    rw [Int.ediv_self (by omega)]; omega
theorem sumD_le {n : Int} (hn : 1 ≤ n) : ∀ {l : List (Int × Int)}, (∀ p ∈ l, 0 ≤ p.2) → 0 ≤ sumD n l ∧ sumD n l ≤ sumI l := by
  intro l
  induction l with
  | nil => intro _; simp [sumD, sumI]
  | cons p l ih =>
    intro h
    simp only [sumD, sumI]
    have h1 := h p (by simp)
    have h2 := ih fun q hq => h q (by simp [hq])
    have h3 := Int.ediv_nonneg h1 (show 0 ≤ n by omega)
    have h4 := Int.ediv_le_self (b := n) h1
    omega
/-- numbers of blocks -/
theorem countP_or {α : Type} {p q : α → Bool} : ∀ {l : List α}, (∀ x ∈ l, ¬ (p x = true ∧ q x = true)) → l.countP (fun x => p x || q x) = l.countP p + l.countP q := by
  intro l
  induction l with
  | nil => intro _; rfl
  | cons x l ih =>
    intro h
    have h1 := h x (by simp)
    have ih := ih fun y hy => h y (by simp [hy])
    rw [List.countP_cons, List.countP_cons, List.countP_cons, ih]
    cases hp : p x <;> cases hq : q x <;> simp_all <;> omega
theorem countP_rng {g s n : Nat} (h : s + n ≤ g) : (List.range g).countP (fun x => decide (s ≤ x ∧ x < s + n)) = n := by
  have key : ∀ g, (List.range g).countP (fun x => decide (s ≤ x ∧ x < s + n)) = min g (s + n) - min g s := by
    intro g
    induction g with
    | zero => simp
    | succ g ih =>
      rw [List.range_succ, List.countP_append, ih, List.countP_cons, List.countP_nil]
      by_cases h1 : s ≤ g ∧ g < s + n
      · rw [decide_eq_true h1]; simp; omega
      · rw [decide_eq_false h1]; simp; omega
  rw [key]; omega
theorem sumI_count {lim : Nat} {F : RF} (ok : RunsOk lim F) : ∀ {l : List (Int × Int)}, Sub F l → sumI l = ((List.range lim).countP (fun (x : Nat) => l.any fun p => decide (p.1 ≤ (x : Int) ∧ (x : Int) < p.1 + p.2)) : Nat) := by
  intro l
  induction l with
  | nil =>
    intro _
    simp [sumI, List.countP_eq_zero]
  | cons p l ih =>
    intro h
    have hn := h.nd
    rw [List.map_cons, List.nodup_cons] at hn
    have ih := ih ⟨hn.2, fun q hq => h.mem q (by simp [hq])⟩
    have hp := h.mem p (by simp)
    have hr := ok.rng _ _ hp
    simp only [List.any_cons]
    rw [countP_or]
    · simp only [sumI]
      obtain ⟨a, ha⟩ := Int.eq_ofNat_of_zero_le (show 0 ≤ p.1 by omega)
      obtain ⟨b, hb⟩ := Int.eq_ofNat_of_zero_le (show 0 ≤ p.2 by omega)
      have e1 : (List.range lim).countP (fun (x : Nat) => decide (p.1 ≤ (x : Int) ∧ (x : Int) < p.1 + p.2)) = b := by
        rw [← countP_rng (g := lim) (s := a) (n := b) (by omega)]
        congr 1; funext x
        rw [decide_eq_decide]; omega
      rw [e1, ih]; omega
    · rintro x _ ⟨h1, h2⟩
      simp only [decide_eq_true_eq, List.any_eq_true] at h1 h2
      obtain ⟨q, hq, h3, h4⟩ := h2
      have hq2 := h.mem q (by simp [hq])
      have hne : p.1 ≠ q.1 := fun e => hn.1 (List.mem_map.2 ⟨q, hq, e.symm⟩)
      rcases Int.lt_or_gt_of_ne hne with hh | hh
      · have := ok.sep _ _ _ _ hp hq2 hh; omega
      · have := ok.sep _ _ _ _ hq2 hp hh; omega
theorem Cov.sub {F : RF} {l : List (Int × Int)} (h : Cov F l) : Sub F l := ⟨h.1, fun p hp => (h.2 p.1 p.2).2 hp⟩
/-- free blocks, told by the headers -/
def nFree (hs : List Hd) (g : Nat) : Nat := (List.range g).countP fun x => decide (1 ≤ x ∧ (hd hs x).1 = 0)
theorem sumI_free {g : Nat} {hs : List Hd} {F : RF} (tie : Tie g hs F) {l : List (Int × Int)} (h : Cov F l) : sumI l = nFree hs g := by
  rw [sumI_count tie.ok h.sub]
  unfold nFree
  congr 1
  refine List.countP_congr fun x hx => ?_
  have hx := List.mem_range.1 hx
  have := tie.fr (x : Int)
  simp only [List.any_eq_true, decide_eq_true_eq, Int.toNat_natCast] at this ⊢
  constructor
  · rintro ⟨p, hp, h1, h2⟩
    have := this.1 ⟨p.1, p.2, (h.2 p.1 p.2).2 hp, h1, h2⟩
    exact ⟨by omega, this.2.2⟩
  · rintro ⟨h1, h2⟩
    obtain ⟨s, q, h3, h4, h5⟩ := this.2 ⟨by omega, by omega, h2⟩
    exact ⟨(s, q), (h.2 s q).1 h3, h4, h5⟩
/-- cells and blocks that are free, of a class: no more than there are cells -/
theorem cells_bound {g : Nat} {hs : List Hd} {U : Nat → Bool} {L : Nat → List Int} (inv : Inv g hs U L) {k : Nat} (hk : k < 32) : (accL L k 4).length + nFree hs g * cn k ≤ (g - 1) * cn k := by
  have hnd := inv.free.nd k hk
  have hmem := inv.free.mem k hk
  have key : ∀ n, n ≤ g → (accL L k 4).countP (fun (y : Int) => decide (y < 512 * (n : Int))) + (List.range n).countP (fun x => decide (1 ≤ x ∧ (hd hs x).1 = 0)) * cn k ≤ (n - 1) * cn k := by
    intro n
    induction n with
    | zero =>
      intro _
      have : (accL L k 4).countP (fun (y : Int) => decide (y < 512 * ((0 : Nat) : Int))) = 0 := by
        rw [List.countP_eq_zero]
        intro y hy
        obtain ⟨x, rfl, _⟩ := (hmem y).1 hy
        simp
      rw [this]; simp
    | succ n ih =>
      intro hn
      have ih := ih (by omega)
      have hsplit : (accL L k 4).countP (fun (y : Int) => decide (y < 512 * ((n + 1 : Nat) : Int))) = (accL L k 4).countP (fun (y : Int) => decide (y < 512 * (n : Int))) + (accL L k 4).countP (fun (y : Int) => decide (512 * (n : Int) ≤ y ∧ y < 512 * ((n + 1 : Nat) : Int))) := by
        rw [← countP_or]
        · congr 1; funext y
          rw [Bool.eq_iff_iff]; simp; omega
        · rintro y _ ⟨h1, h2⟩
          simp only [decide_eq_true_eq] at h1 h2
          omega
      rw [hsplit, List.range_succ, List.countP_append, List.countP_cons, List.countP_nil]
      -- cells in one block
      have hblk : (accL L k 4).countP (fun (y : Int) => decide (512 * (n : Int) ≤ y ∧ y < 512 * ((n + 1 : Nat) : Int))) ≤ cn k := by
        rw [List.countP_eq_length_filter]
        have h1 : (((accL L k 4).filter fun y => decide (512 * (n : Int) ≤ y ∧ y < 512 * ((n + 1 : Nat) : Int))).map fun y => (y.toNat % 512) / cw k).Nodup := by
          refine List.Pairwise.map _ (fun a b hab => ?_) (List.Pairwise.and_mem.1 (hnd.filter _))
          obtain ⟨ha, hb, hab⟩ := hab
          simp only [List.mem_filter, decide_eq_true_eq] at ha hb
          obtain ⟨x, rfl, ⟨b1, i1, g1, g2, g3, g4, rfl⟩, _⟩ := (hmem a).1 ha.1
          obtain ⟨x', rfl, ⟨b2, i2, g1', g2', g3', g4', rfl⟩, _⟩ := (hmem b).1 hb.1
          have r1 := cellN_rng (b := b1) hk g4
          have r2 := cellN_rng (b := b2) hk g4'
          obtain ⟨_, _, t3, _⟩ := cls_tab k hk
          have e1 : b1 = n := by omega
          have e2 : b2 = n := by omega
          subst e1 e2
          have m1 : ∀ i, i < cn k → ((cellN b2 k i : Nat) : Int).toNat % 512 / cw k = i := by
            intro i hi
            have r := cellN_rng (b := b2) hk hi
            rw [Int.toNat_natCast]
            have : cellN b2 k i % 512 = i * cw k := by unfold cellN at r ⊢; omega
            rw [this, Nat.mul_div_cancel _ (by omega)]
          rw [m1 i1 g4, m1 i2 g4']
          intro e; subst e; exact hab rfl
        have := nodup_lt_len (cn k) _ h1 (fun z hz => by
          obtain ⟨y, hy, rfl⟩ := List.mem_map.1 hz
          simp only [List.mem_filter, decide_eq_true_eq] at hy
          obtain ⟨x, rfl, ⟨b1, i1, g1, g2, g3, g4, rfl⟩, _⟩ := (hmem y).1 hy.1
          have r := cellN_rng (b := b1) hk g4
          obtain ⟨_, _, t3, _⟩ := cls_tab k hk
          rw [Int.toNat_natCast]
          have : cellN b1 k i1 % 512 = i1 * cw k := by unfold cellN at r ⊢; omega
          rw [this, Nat.mul_div_cancel _ (by omega)]; exact g4)
        simpa using this
      have hzero : ¬ (1 ≤ n ∧ (hd hs n).1 = 1) → (accL L k 4).countP (fun (y : Int) => decide (512 * (n : Int) ≤ y ∧ y < 512 * ((n + 1 : Nat) : Int))) = 0 := by
        intro hno
        rw [List.countP_eq_zero]
        intro y hy hh
        simp only [decide_eq_true_eq] at hh
        obtain ⟨x, rfl, ⟨b1, i1, g1, g2, g3, g4, rfl⟩, _⟩ := (hmem y).1 hy
        have r1 := cellN_rng (b := b1) hk g4
        obtain ⟨_, _, t3, _⟩ := cls_tab k hk
        have e1 : b1 = n := by omega
        subst e1
        exact hno ⟨g1, by rw [g3]⟩
      by_cases h0 : 1 ≤ n
      · have e : (n + 1 - 1) * cn k = (n - 1) * cn k + cn k := by
          rw [show n + 1 - 1 = (n - 1) + 1 by omega, Nat.add_mul, Nat.one_mul]
        by_cases hf : (hd hs n).1 = 0
        · rw [hzero (by omega), decide_eq_true ⟨h0, hf⟩]
          simp only [if_true, Nat.zero_add, Nat.add_zero]
          rw [Nat.add_mul, Nat.one_mul]; omega
        · rw [decide_eq_false (fun h => hf h.2)]
          simp only [Bool.false_eq_true, if_false, Nat.zero_add, Nat.add_zero]
          omega
      · have : n = 0 := by omega
        subst this
        rw [hzero (by omega)]
        simp only [decide_eq_false (show ¬ (1 ≤ 0 ∧ (hd hs 0).1 = 0) by omega)]
        simpa using ih
  have := key g (by omega)
  have e : (accL L k 4).countP (fun (y : Int) => decide (y < 512 * (g : Int))) = (accL L k 4).length := by
    rw [List.countP_eq_length]
    intro y hy
    obtain ⟨x, rfl, ⟨b1, i1, g1, g2, g3, g4, rfl⟩, _⟩ := (hmem y).1 hy
    have r1 := cellN_rng (b := b1) hk g4
    simp only [decide_eq_true_eq]
    obtain ⟨_, _, t3, _⟩ := cls_tab k hk
    omega
  rw [e] at this
  exact this
end Go.Proofs.YtdgcbapclnnkkaaGreat.X
end
section
/- Printed by a program of this session (gen.py): the functions of the dump over typed primitives, and that they serve for the model's code. No condition. -/
set_option maxRecDepth 100000
set_option linter.unusedVariables false
namespace Go.Proofs.YtdgcbapclnnkkaaGreat.X
open Go
@[reducible] def predict_Object_s0 (k : (Int → K)) (x4 : Int) : K :=
  k x4
@[reducible] def predict_Object_s1 (a : (Option Addr)) (k : (Int → K)) (o_1 : Addr) : K :=
  ldI .i64 (Addr.add o_1 0) fun x31_0 =>
  ldI .i64 (Addr.add o_1 1) fun x31_1 =>
  c_ohead_Object_Blocks (x31_0, x31_1) fun x32 =>
  c_predict_Large a x32 fun x33 =>
  predict_Object_s0 k x33
@[reducible] def predict_Object_s2 (k : (Int → K)) (x4_1 : Int) : K :=
  k x4_1
@[reducible] def predict_Object_s3 (a : (Option Addr)) (k : (Int → K)) (k_1 : Int) : K :=
  c_predict_Small a k_1 fun x29 =>
  predict_Object_s2 k x29
@[reducible] def predict_Object_s4 (a : (Option Addr)) (k : (Int → K)) (o_1 : Addr) (k_1 : Int) (x26 : Bool) : K :=
  brK x26
  (predict_Object_s3 a k k_1)
  (predict_Object_s1 a k o_1)
@[reducible] def predict_Object_s5 (a : (Option Addr)) (k : (Int → K)) (o_1 : Addr) (k_1 : Int) (small : Bool) : K :=
  predict_Object_s4 a k o_1 k_1 small
@[reducible] def predict_Object_s6 (a : (Option Addr)) (k : (Int → K)) (o_1 : Addr) : K :=
  ldI .i64 (Addr.add o_1 0) fun x22_0 =>
  ldI .i64 (Addr.add o_1 1) fun x22_1 =>
  c_ohead_Object_Small (x22_0, x22_1) fun x23 =>
  predict_Object_s5 a k o_1 x23.1 x23.2
@[reducible] def predict_Object_s7 (k : (Int → K)) (x4_2 : Int) : K :=
  k x4_2
@[reducible] def predict_Object_s8 (a : (Option Addr)) (k : (Int → K)) (o_1 : Addr) (x20 : Bool) : K :=
  brK x20
  (predict_Object_s7 k 0)
  (predict_Object_s6 a k o_1)
@[reducible] def predict_Object_s9 (a : (Option Addr)) (k : (Int → K)) (o_1 : Addr) : K :=
  tick fun _ =>
  ldI .i64 (Addr.add o_1 0) fun x7_0 =>
  ldI .i64 (Addr.add o_1 1) fun x7_1 =>
  c_ohead_Object_Size (x7_0, x7_1) fun x8 =>
  brK (x8 == 0)
  (predict_Object_s8 a k o_1 true)
  (ldI .i64 (Addr.add o_1 0) fun x11_0 =>
  ldI .i64 (Addr.add o_1 1) fun x11_1 =>
  nn a fun x14 =>
  ldP (Addr.add x14 0) fun x16 =>
  c_ohead_Object_Size (x11_0, x11_1) fun x12 =>
  chk [.cell (Addr.add x14 0) (.pointer x16)] fun _ =>
  c_bman_Manager_Geometry x16 fun x17 =>
  c_geom_Geometry_Most x17 fun x18 =>
  predict_Object_s8 a k o_1 (decide (x12 > x18)))
@[reducible] def predict_Object (a : (Option Addr)) (o : (Int × Int)) : M Int := fun k =>
  alK (.cells #[.int .i64 o.1, .int .i64 o.2] 68) fun b =>
  predict_Object_s9 a k ⟨b, 0, none⟩
theorem predict_Object_ok (a : (Option Addr)) (o : (Int × Int)) (k : Int → K) (w : World) (hyp_ : predict_Object a o k w) : c_predict_Object a o k w :=
  cl_of (P := Tryz.prog) Tryz.func31 rfl (by kernel_rfl)
  (RefK.seq [(3, .addr)] [0] (fun z_ => [(3, .pointer (some z_.1)), (0, .pointer a)]) (fun z_ => predict_Object_s9 a k z_.1) (by kernel_rfl) (fun _ => by kernel_rfl)
  (RefK.plain [] (by kernel_rfl))
  (fun ⟨o_1, _⟩ => RefK.seq [] [0, 3] (fun z_ => [(0, .pointer a), (3, .pointer (some o_1))]) (fun z_ => predict_Object_s6 a k o_1) (by kernel_rfl) (fun _ => by kernel_rfl)
  (RefK.seq [(20, .bool)] [0, 3] (fun z_ => [(20, .bool z_.1), (0, .pointer a), (3, .pointer (some o_1))]) (fun z_ => predict_Object_s8 a k o_1 z_.1) (by kernel_rfl) (fun _ => by kernel_rfl)
  (RefK.draw [3] [0, 1, 3, 7, 15, 31, 15, 79, 207, 463, 1023, 2047, 4095, 8191] [0, 1, 2, 3, 4, 6, 7, 8, 9, 5, 10, 11, 12, 13] [0, 1, 2, 3, 4, 5, 6, 7, 8, 9, 10, 11, 12, 13] (by kernel_rfl) (by kernel_rfl))
  (fun ⟨x20, _⟩ => RefK.cond (b := x20) (t1 := predict_Object_s7 k 0) (t2 := predict_Object_s6 a k o_1) (by kernel_rfl) (by kernel_rfl) (fun w h => brK_spec w h) (RefK.seq [(4, .int .i64)] [] (fun z_ => [(4, .int .i64 z_.1)]) (fun z_ => predict_Object_s7 k z_.1) (by kernel_rfl) (fun _ => by kernel_rfl)
  (RefK.plain [] (by kernel_rfl))
  (fun ⟨x4_2, _⟩ => RefK.ret (by kernel_rfl))) (RefK.skip (by kernel_rfl))))
  (fun _ => RefK.seq [] [0, 3] (fun z_ => [(0, .pointer a), (3, .pointer (some o_1))]) (fun z_ => predict_Object_s1 a k o_1) (by kernel_rfl) (fun _ => by kernel_rfl)
  (RefK.seq [(5, .int .i64), (6, .bool)] [0, 3] (fun z_ => [(5, .int .i64 z_.1), (6, .bool z_.2.1), (0, .pointer a), (3, .pointer (some o_1))]) (fun z_ => predict_Object_s5 a k o_1 z_.1 z_.2.1) (by kernel_rfl) (fun _ => by kernel_rfl)
  (RefK.plain [] (by kernel_rfl))
  (fun ⟨k_1, small, _⟩ => RefK.seq [(26, .bool)] [0, 3, 5] (fun z_ => [(26, .bool z_.1), (0, .pointer a), (3, .pointer (some o_1)), (5, .int .i64 k_1)]) (fun z_ => predict_Object_s4 a k o_1 k_1 z_.1) (by kernel_rfl) (fun _ => by kernel_rfl)
  (RefK.plain [] (by kernel_rfl))
  (fun ⟨x26, _⟩ => RefK.cond (b := x26) (t1 := predict_Object_s3 a k k_1) (t2 := predict_Object_s1 a k o_1) (by kernel_rfl) (by kernel_rfl) (fun w h => brK_spec w h) (RefK.seq [(4, .int .i64)] [] (fun z_ => [(4, .int .i64 z_.1)]) (fun z_ => predict_Object_s2 k z_.1) (by kernel_rfl) (fun _ => by kernel_rfl)
  (RefK.plain [] (by kernel_rfl))
  (fun ⟨x4_1, _⟩ => RefK.ret (by kernel_rfl))) (RefK.skip (by kernel_rfl)))))
  (fun _ => RefK.seq [(4, .int .i64)] [] (fun z_ => [(4, .int .i64 z_.1)]) (fun z_ => predict_Object_s0 k z_.1) (by kernel_rfl) (fun _ => by kernel_rfl)
  (RefK.plain [] (by kernel_rfl))
  (fun ⟨x4, _⟩ => RefK.ret (by kernel_rfl)))))) hyp_
@[reducible] def predict_Words_s0 (k : ((Int × Int) → K)) (x2 : Int) (x3 : Int) : K :=
  k (x2, x3)
@[reducible] def predict_Words_s1 (k : ((Int × Int) → K)) (best_1 : Int) (which_1 : Int) : K :=
  predict_Words_s0 k best_1 which_1
@[reducible] def predict_Words_s2 (x8_1 : Int) (c : ((Int × Int × Int × Unit) → K)) (best_3 : Int) (which_3 : Int) : K :=
  c (best_3, which_3, (IntKind.wrap .i64 (x8_1 + 1)), ())
@[reducible] def predict_Words_s3 (best_2 : Int) (which_2 : Int) (x8_1 : Int) (c : ((Int × Int × Int × Unit) → K)) (k_1 : Int) (n : Int) (x19 : Bool) : K :=
  brK x19
  (predict_Words_s2 x8_1 c n k_1)
  (predict_Words_s2 x8_1 c best_2 which_2)
@[reducible] def predict_Words_s4 (best_2 : Int) (which_2 : Int) (x8_1 : Int) (c : ((Int × Int × Int × Unit) → K)) (k_1 : Int) (n : Int) : K :=
  predict_Words_s3 best_2 which_2 x8_1 c k_1 n (decide (n > best_2))
@[reducible] def predict_Words_s5 (a : (Option Addr)) (best_2 : Int) (which_2 : Int) (x8_1 : Int) (c : ((Int × Int × Int × Unit) → K)) (k_1 : Int) : K :=
  c_predict_Small a k_1 fun x13 =>
  c_class_Words k_1 fun x15 =>
  predict_Words_s4 best_2 which_2 x8_1 c k_1 (IntKind.wrap .i64 (x13 * x15))
@[reducible] def predict_Words_s6 (a : (Option Addr)) (k : ((Int × Int) → K)) (best_2 : Int) (which_2 : Int) (x8_1 : Int) (c : ((Int × Int × Int × Unit) → K)) (x9 : Bool) : K :=
  brK x9
  (predict_Words_s5 a best_2 which_2 x8_1 c x8_1)
  (predict_Words_s1 k best_2 which_2)
@[reducible] def predict_Words_l7 (a : (Option Addr)) (k : ((Int × Int) → K)) (best_2 : Int) (which_2 : Int) (x8_1 : Int) (c : ((Int × Int × Int × Unit) → K)) : K :=
  predict_Words_s6 a k best_2 which_2 x8_1 c (decide (x8_1 < 32))
@[reducible] def predict_Words_s8 (a : (Option Addr)) (k : ((Int × Int) → K)) (best : Int) (which : Int) (x8 : Int) : K :=
  lp (fun (z_ : (Int × Int × Int × Unit)) c_ => predict_Words_l7 a k z_.1 z_.2.1 z_.2.2.1 c_) (best, which, x8, ())
@[reducible] def predict_Words_s9 (a : (Option Addr)) (k : ((Int × Int) → K)) (best : Int) (which : Int) : K :=
  predict_Words_s8 a k best which 0
@[reducible] def predict_Words (a : (Option Addr)) : M (Int × Int) := fun k =>
  predict_Words_s9 a k 0 0
theorem predict_Words_ok (a : (Option Addr)) (k : (Int × Int) → K) (w : World) (hyp_ : predict_Words a k w) : c_predict_Words a k w :=
  cl_of (P := Tryz.prog) Tryz.func37 rfl (by kernel_rfl)
  (RefK.seq [] [0] (fun z_ => [(0, .pointer a)]) (fun z_ => predict_Words_s9 a k 0 0) (by kernel_rfl) (fun _ => by kernel_rfl)
  (RefK.plain [] (by kernel_rfl))
  (fun _ => RefK.seq [(4, .int .i64), (5, .int .i64)] [0] (fun z_ => [(4, .int .i64 z_.1), (5, .int .i64 z_.2.1), (0, .pointer a)]) (fun z_ => predict_Words_s9 a k z_.1 z_.2.1) (by kernel_rfl) (fun _ => by kernel_rfl)
  (RefK.plain [] (by kernel_rfl))
  (fun ⟨best, which, _⟩ => RefK.seq [(4, .int .i64), (5, .int .i64)] [] (fun z_ => [(4, .int .i64 z_.1), (5, .int .i64 z_.2.1)]) (fun z_ => predict_Words_s1 k z_.1 z_.2.1) (by kernel_rfl) (fun _ => by kernel_rfl)
  (RefK.seq [(8, .int .i64)] [0, 4, 5] (fun z_ => [(8, .int .i64 z_.1), (0, .pointer a), (4, .int .i64 best), (5, .int .i64 which)]) (fun z_ => predict_Words_s8 a k best which z_.1) (by kernel_rfl) (fun _ => by kernel_rfl)
  (RefK.plain [] (by kernel_rfl))
  (fun ⟨x8, _⟩ => RefK.block (RefK.loop [(4, .int .i64), (5, .int .i64), (8, .int .i64)] [0] (fun z_ => [(4, .int .i64 z_.1), (5, .int .i64 z_.2.1), (8, .int .i64 z_.2.2.1), (0, .pointer a)]) (fun (z_ : (Int × Int × Int × Unit)) c_ => predict_Words_l7 a k z_.1 z_.2.1 z_.2.2.1 c_) (best, which, x8, ()) (by kernel_rfl) (fun _ => by kernel_rfl) (by kernel_rfl) (by kernel_rfl)
  (fun ⟨best_2, which_2, x8_1, _⟩ c => RefK.seq [(9, .bool)] [0, 4, 5, 8] (fun z_ => [(9, .bool z_.1), (0, .pointer a), (4, .int .i64 best_2), (5, .int .i64 which_2), (8, .int .i64 x8_1)]) (fun z_ => predict_Words_s6 a k best_2 which_2 x8_1 c z_.1) (by kernel_rfl) (fun _ => by kernel_rfl)
  (RefK.plain [] (by kernel_rfl))
  (fun ⟨x9, _⟩ => RefK.seq [] [0, 4, 5, 8] (fun z_ => [(0, .pointer a), (4, .int .i64 best_2), (5, .int .i64 which_2), (8, .int .i64 x8_1)]) (fun z_ => predict_Words_s5 a best_2 which_2 x8_1 c x8_1) (by kernel_rfl) (fun _ => by kernel_rfl)
  (RefK.cond (b := x9) (t1 := predict_Words_s5 a best_2 which_2 x8_1 c x8_1) (t2 := predict_Words_s1 k best_2 which_2) (by kernel_rfl) (by kernel_rfl) (fun w h => brK_spec w h) (RefK.skip (by kernel_rfl)) (RefK.exit (by kernel_rfl)))
  (fun _ => RefK.seq [(4, .int .i64), (5, .int .i64)] [0, 8] (fun z_ => [(4, .int .i64 z_.1), (5, .int .i64 z_.2.1), (0, .pointer a), (8, .int .i64 x8_1)]) (fun z_ => predict_Words_s2 x8_1 c z_.1 z_.2.1) (by kernel_rfl) (fun _ => by kernel_rfl)
  (RefK.block (RefK.seq [(6, .int .i64)] [0, 4, 5, 8] (fun z_ => [(6, .int .i64 z_.1), (0, .pointer a), (4, .int .i64 best_2), (5, .int .i64 which_2), (8, .int .i64 x8_1)]) (fun z_ => predict_Words_s5 a best_2 which_2 x8_1 c z_.1) (by kernel_rfl) (fun _ => by kernel_rfl)
  (RefK.plain [] (by kernel_rfl))
  (fun ⟨k_1, _⟩ => RefK.seq [(7, .int .i64)] [0, 4, 5, 6, 8] (fun z_ => [(7, .int .i64 z_.1), (0, .pointer a), (4, .int .i64 best_2), (5, .int .i64 which_2), (6, .int .i64 k_1), (8, .int .i64 x8_1)]) (fun z_ => predict_Words_s4 best_2 which_2 x8_1 c k_1 z_.1) (by kernel_rfl) (fun _ => by kernel_rfl)
  (RefK.plain [] (by kernel_rfl))
  (fun ⟨n, _⟩ => RefK.seq [(19, .bool)] [0, 4, 5, 6, 7, 8] (fun z_ => [(19, .bool z_.1), (0, .pointer a), (4, .int .i64 best_2), (5, .int .i64 which_2), (6, .int .i64 k_1), (7, .int .i64 n), (8, .int .i64 x8_1)]) (fun z_ => predict_Words_s3 best_2 which_2 x8_1 c k_1 n z_.1) (by kernel_rfl) (fun _ => by kernel_rfl)
  (RefK.plain [] (by kernel_rfl))
  (fun ⟨x19, _⟩ => RefK.cond (b := x19) (t1 := predict_Words_s2 x8_1 c n k_1) (t2 := predict_Words_s2 x8_1 c best_2 which_2) (by kernel_rfl) (by kernel_rfl) (fun w h => brK_spec w h) (RefK.plain [] (by kernel_rfl)) (RefK.skip (by kernel_rfl)))))))
  (fun ⟨best_3, which_3, _⟩ => RefK.plain [] (by kernel_rfl))))))))
  (fun ⟨best_1, which_1, _⟩ => RefK.seq [(2, .int .i64), (3, .int .i64)] [] (fun z_ => [(2, .int .i64 z_.1), (3, .int .i64 z_.2.1)]) (fun z_ => predict_Words_s0 k z_.1 z_.2.1) (by kernel_rfl) (fun _ => by kernel_rfl)
  (RefK.plain [] (by kernel_rfl))
  (fun ⟨x2, x3, _⟩ => RefK.ret (by kernel_rfl)))))) hyp_
@[reducible] def predict_Greatest_s0 (k : (Int → K)) (x2 : Int) : K :=
  k x2
@[reducible] def predict_Greatest_s1 (k : (Int → K)) (x2_1 : Int) : K :=
  k x2_1
@[reducible] def predict_Greatest_s2 (k : (Int → K)) (k_2 : Int) : K :=
  c_class_Words k_2 fun x25 =>
  predict_Greatest_s1 k x25
@[reducible] def predict_Greatest_s3 (k : (Int → K)) (k_2 : Int) (c : ((Int × Unit) → K)) (x23 : Bool) : K :=
  brK x23
  (predict_Greatest_s2 k k_2)
  (c ((IntKind.wrap .i64 (k_2 - 1)), ()))
@[reducible] def predict_Greatest_s4 (a : (Option Addr)) (k : (Int → K)) (k_2 : Int) (c : ((Int × Unit) → K)) : K :=
  c_alloc_Allocator_FreeCells a k_2 fun x21 =>
  predict_Greatest_s3 k k_2 c (decide (((x21.n : Nat) : Int) > 0))
@[reducible] def predict_Greatest_s5 (a : (Option Addr)) (k : (Int → K)) (k_2 : Int) (c : ((Int × Unit) → K)) (x16 : Bool) : K :=
  brK x16
  (predict_Greatest_s4 a k k_2 c)
  (predict_Greatest_s0 k 0)
@[reducible] def predict_Greatest_l6 (a : (Option Addr)) (k : (Int → K)) (k_2 : Int) (c : ((Int × Unit) → K)) : K :=
  predict_Greatest_s5 a k k_2 c (decide (k_2 ≥ 0))
@[reducible] def predict_Greatest_s7 (a : (Option Addr)) (k : (Int → K)) (k_1 : Int) : K :=
  lp (fun (z_ : (Int × Unit)) c_ => predict_Greatest_l6 a k z_.1 c_) (k_1, ())
@[reducible] def predict_Greatest_s8 (k : (Int → K)) (x2_2 : Int) : K :=
  k x2_2
@[reducible] def predict_Greatest_s9 (a : (Option Addr)) (k : (Int → K)) (n : Int) (x11 : Bool) : K :=
  brK x11
  (predict_Greatest_s8 k (min2I (IntKind.wrap .i64 (n * 512)) 16448))
  (predict_Greatest_s7 a k 31)
@[reducible] def predict_Greatest_s10 (a : (Option Addr)) (k : (Int → K)) (n : Int) : K :=
  predict_Greatest_s9 a k n (decide (n > 0))
@[reducible] def predict_Greatest_s11 (a : (Option Addr)) (k : (Int → K)) : K :=
  nn a fun x6 =>
  ldP (Addr.add x6 0) fun x8 =>
  c_bman_Manager_Longest x8 fun x9 =>
  predict_Greatest_s10 a k x9
@[reducible] def predict_Greatest (a : (Option Addr)) : M Int := fun k =>
  predict_Greatest_s11 a k
theorem predict_Greatest_ok (a : (Option Addr)) (k : Int → K) (w : World) (hyp_ : predict_Greatest a k w) : c_predict_Greatest a k w :=
  cl_of (P := Tryz.prog) Tryz.func39 rfl (by kernel_rfl)
  (RefK.seq [] [0] (fun z_ => [(0, .pointer a)]) (fun z_ => predict_Greatest_s11 a k) (by kernel_rfl) (fun _ => by kernel_rfl)
  (RefK.plain [] (by kernel_rfl))
  (fun _ => RefK.seq [] [0] (fun z_ => [(0, .pointer a)]) (fun z_ => predict_Greatest_s7 a k 31) (by kernel_rfl) (fun _ => by kernel_rfl)
  (RefK.seq [(3, .int .i64)] [0] (fun z_ => [(3, .int .i64 z_.1), (0, .pointer a)]) (fun z_ => predict_Greatest_s10 a k z_.1) (by kernel_rfl) (fun _ => by kernel_rfl)
  (RefK.plain [] (by kernel_rfl))
  (fun ⟨n, _⟩ => RefK.seq [(11, .bool)] [0, 3] (fun z_ => [(11, .bool z_.1), (0, .pointer a), (3, .int .i64 n)]) (fun z_ => predict_Greatest_s9 a k n z_.1) (by kernel_rfl) (fun _ => by kernel_rfl)
  (RefK.plain [] (by kernel_rfl))
  (fun ⟨x11, _⟩ => RefK.cond (b := x11) (t1 := predict_Greatest_s8 k (min2I (IntKind.wrap .i64 (n * 512)) 16448)) (t2 := predict_Greatest_s7 a k 31) (by kernel_rfl) (by kernel_rfl) (fun w h => brK_spec w h) (RefK.seq [(2, .int .i64)] [] (fun z_ => [(2, .int .i64 z_.1)]) (fun z_ => predict_Greatest_s8 k z_.1) (by kernel_rfl) (fun _ => by kernel_rfl)
  (RefK.plain [] (by kernel_rfl))
  (fun ⟨x2_2, _⟩ => RefK.ret (by kernel_rfl))) (RefK.skip (by kernel_rfl)))))
  (fun _ => RefK.seq [] [] (fun z_ => []) (fun z_ => predict_Greatest_s0 k 0) (by kernel_rfl) (fun _ => by kernel_rfl)
  (RefK.seq [(4, .int .i64)] [0] (fun z_ => [(4, .int .i64 z_.1), (0, .pointer a)]) (fun z_ => predict_Greatest_s7 a k z_.1) (by kernel_rfl) (fun _ => by kernel_rfl)
  (RefK.plain [] (by kernel_rfl))
  (fun ⟨k_1, _⟩ => RefK.block (RefK.loop [(4, .int .i64)] [0] (fun z_ => [(4, .int .i64 z_.1), (0, .pointer a)]) (fun (z_ : (Int × Unit)) c_ => predict_Greatest_l6 a k z_.1 c_) (k_1, ()) (by kernel_rfl) (fun _ => by kernel_rfl) (by kernel_rfl) (by kernel_rfl)
  (fun ⟨k_2, _⟩ c => RefK.seq [] [0, 4] (fun z_ => [(0, .pointer a), (4, .int .i64 k_2)]) (fun z_ => predict_Greatest_s4 a k k_2 c) (by kernel_rfl) (fun _ => by kernel_rfl)
  (RefK.seq [(16, .bool)] [0, 4] (fun z_ => [(16, .bool z_.1), (0, .pointer a), (4, .int .i64 k_2)]) (fun z_ => predict_Greatest_s5 a k k_2 c z_.1) (by kernel_rfl) (fun _ => by kernel_rfl)
  (RefK.plain [] (by kernel_rfl))
  (fun ⟨x16, _⟩ => RefK.cond (b := x16) (t1 := predict_Greatest_s4 a k k_2 c) (t2 := predict_Greatest_s0 k 0) (by kernel_rfl) (by kernel_rfl) (fun w h => brK_spec w h) (RefK.skip (by kernel_rfl)) (RefK.exit (by kernel_rfl))))
  (fun _ => RefK.seq [] [0, 4] (fun z_ => [(0, .pointer a), (4, .int .i64 k_2)]) (fun z_ => c ((IntKind.wrap .i64 (k_2 - 1)), ())) (by kernel_rfl) (fun _ => by kernel_rfl)
  (RefK.block (RefK.seq [(23, .bool)] [0, 4] (fun z_ => [(23, .bool z_.1), (0, .pointer a), (4, .int .i64 k_2)]) (fun z_ => predict_Greatest_s3 k k_2 c z_.1) (by kernel_rfl) (fun _ => by kernel_rfl)
  (RefK.plain [] (by kernel_rfl))
  (fun ⟨x23, _⟩ => RefK.cond (b := x23) (t1 := predict_Greatest_s2 k k_2) (t2 := c ((IntKind.wrap .i64 (k_2 - 1)), ())) (by kernel_rfl) (by kernel_rfl) (fun w h => brK_spec w h) (RefK.seq [(2, .int .i64)] [] (fun z_ => [(2, .int .i64 z_.1)]) (fun z_ => predict_Greatest_s1 k z_.1) (by kernel_rfl) (fun _ => by kernel_rfl)
  (RefK.plain [] (by kernel_rfl))
  (fun ⟨x2_1, _⟩ => RefK.ret (by kernel_rfl))) (RefK.skip (by kernel_rfl)))))
  (fun _ => RefK.plain [] (by kernel_rfl)))))))
  (fun _ => RefK.seq [(2, .int .i64)] [] (fun z_ => [(2, .int .i64 z_.1)]) (fun z_ => predict_Greatest_s0 k z_.1) (by kernel_rfl) (fun _ => by kernel_rfl)
  (RefK.plain [] (by kernel_rfl))
  (fun ⟨x2, _⟩ => RefK.ret (by kernel_rfl)))))) hyp_
@[reducible] def predict_Small_s0 (k : (Int → K)) (x4 : Int) : K :=
  k x4
@[reducible] def predict_Small_s1 (a : (Option Addr)) (k_1 : Int) (k : (Int → K)) : K :=
  tick fun _ =>
  nn a fun x13 =>
  ldP (Addr.add x13 0) fun x15 =>
  c_alloc_Allocator_FreeCells a k_1 fun x10 =>
  chk [.cell (Addr.add x13 0) (.pointer x15)] fun _ =>
  c_bman_Manager_FreeBlocks x15 fun x16 =>
  c_class_Cells k_1 fun x18 =>
  predict_Small_s0 k (IntKind.wrap .i64 (((x10.n : Nat) : Int) + (IntKind.wrap .i64 (x16 * x18))))
@[reducible] def predict_Small_s2 (k : (Int → K)) (x4_1 : Int) : K :=
  k x4_1
@[reducible] def predict_Small_s3 (a : (Option Addr)) (k_1 : Int) (k : (Int → K)) (x7 : Bool) : K :=
  brK x7
  (predict_Small_s2 k 0)
  (predict_Small_s1 a k_1 k)
@[reducible] def predict_Small_s4 (a : (Option Addr)) (k_1 : Int) (k : (Int → K)) : K :=
  c_class_Right k_1 fun x6 =>
  predict_Small_s3 a k_1 k (!x6)
@[reducible] def predict_Small (a : (Option Addr)) (k_1 : Int) : M Int := fun k =>
  predict_Small_s4 a k_1 k
theorem predict_Small_ok (a : (Option Addr)) (k_1 : Int) (k : Int → K) (w : World) (hyp_ : predict_Small a k_1 k w) : c_predict_Small a k_1 k w :=
  cl_of (P := Tryz.prog) Tryz.func42 rfl (by kernel_rfl)
  (RefK.seq [] [0, 1] (fun z_ => [(0, .pointer a), (1, .int .i64 k_1)]) (fun z_ => predict_Small_s4 a k_1 k) (by kernel_rfl) (fun _ => by kernel_rfl)
  (RefK.plain [] (by kernel_rfl))
  (fun _ => RefK.seq [] [0, 1] (fun z_ => [(0, .pointer a), (1, .int .i64 k_1)]) (fun z_ => predict_Small_s1 a k_1 k) (by kernel_rfl) (fun _ => by kernel_rfl)
  (RefK.seq [(7, .bool)] [0, 1] (fun z_ => [(7, .bool z_.1), (0, .pointer a), (1, .int .i64 k_1)]) (fun z_ => predict_Small_s3 a k_1 k z_.1) (by kernel_rfl) (fun _ => by kernel_rfl)
  (RefK.plain [] (by kernel_rfl))
  (fun ⟨x7, _⟩ => RefK.cond (b := x7) (t1 := predict_Small_s2 k 0) (t2 := predict_Small_s1 a k_1 k) (by kernel_rfl) (by kernel_rfl) (fun w h => brK_spec w h) (RefK.seq [(4, .int .i64)] [] (fun z_ => [(4, .int .i64 z_.1)]) (fun z_ => predict_Small_s2 k z_.1) (by kernel_rfl) (fun _ => by kernel_rfl)
  (RefK.plain [] (by kernel_rfl))
  (fun ⟨x4_1, _⟩ => RefK.ret (by kernel_rfl))) (RefK.skip (by kernel_rfl))))
  (fun _ => RefK.seq [(4, .int .i64)] [] (fun z_ => [(4, .int .i64 z_.1)]) (fun z_ => predict_Small_s0 k z_.1) (by kernel_rfl) (fun _ => by kernel_rfl)
  (RefK.draw [] [0, 0, 3, 7, 0, 16, 48, 112, 247, 0, 1015, 2039, 4095, 8191] [0, 1, 4, 5, 6, 7, 9, 2, 3, 8, 10, 11, 12, 13] [0, 1, 2, 3, 4, 5, 6, 7, 8, 9, 10, 11, 12, 13] (by kernel_rfl) (by kernel_rfl))
  (fun ⟨x4, _⟩ => RefK.ret (by kernel_rfl))))) hyp_
@[reducible] def predict_Large_s0 (k : (Int → K)) (x4 : Int) : K :=
  k x4
@[reducible] def predict_Large_s1 (k : (Int → K)) (n_1 : Int) : K :=
  predict_Large_s0 k n_1
@[reducible] def predict_Large_s2 (x16_1 : Int) (c : ((Int × Int × Unit) → K)) (n_3 : Int) : K :=
  c (n_3, (IntKind.wrap .i64 (x16_1 + 1)), ())
@[reducible] def predict_Large_s3 (blocks : Int) (n_2 : Int) (x16_1 : Int) (c : ((Int × Int × Unit) → K)) (s : Addr) : K :=
  ldI .i64 (Addr.add s 1) fun x22 =>
  nz blocks <|
  predict_Large_s2 x16_1 c (IntKind.wrap .i64 (n_2 + (IntKind.wrap .i64 (Int.tdiv x22 blocks))))
@[reducible] def predict_Large_s4 (blocks : Int) (x14 : Sl) (n_2 : Int) (x16_1 : Int) (c : ((Int × Int × Unit) → K)) : K :=
  ixS x14.p x14.n x16_1 2 fun x18 =>
  ldI .i64 (Addr.add x18 0) fun x19_0 =>
  ldI .i64 (Addr.add x18 1) fun x19_1 =>
  alK (.cells #[.int .i64 0, .int .i64 0] 152) fun b =>
  stK (Addr.add ⟨b, 0, none⟩ 0) (.int .i64 x19_0) <|
  stK (Addr.add ⟨b, 0, none⟩ 1) (.int .i64 x19_1) <|
  predict_Large_s3 blocks n_2 x16_1 c ⟨b, 0, none⟩
@[reducible] def predict_Large_s5 (blocks : Int) (k : (Int → K)) (x14 : Sl) (n_2 : Int) (x16_1 : Int) (c : ((Int × Int × Unit) → K)) (x17 : Bool) : K :=
  brK x17
  (predict_Large_s4 blocks x14 n_2 x16_1 c)
  (predict_Large_s1 k n_2)
@[reducible] def predict_Large_l6 (blocks : Int) (k : (Int → K)) (x14 : Sl) (x15 : Int) (n_2 : Int) (x16_1 : Int) (c : ((Int × Int × Unit) → K)) : K :=
  predict_Large_s5 blocks k x14 n_2 x16_1 c (decide (x16_1 < x15))
@[reducible] def predict_Large_s7 (blocks : Int) (k : (Int → K)) (n : Int) (x14 : Sl) (x15 : Int) (x16 : Int) : K :=
  lp (fun (z_ : (Int × Int × Unit)) c_ => predict_Large_l6 blocks k x14 x15 z_.1 z_.2.1 c_) (n, x16, ())
@[reducible] def predict_Large_s8 (a : (Option Addr)) (blocks : Int) (k : (Int → K)) (n : Int) : K :=
  nn a fun x11 =>
  ldP (Addr.add x11 0) fun x13 =>
  c_bman_Manager_Runs x13 fun x14_1 =>
  predict_Large_s7 blocks k n x14_1 ((x14_1.n : Nat) : Int) 0
@[reducible] def predict_Large_s9 (k : (Int → K)) (x4_1 : Int) : K :=
  k x4_1
@[reducible] def predict_Large_s10 (a : (Option Addr)) (blocks : Int) (k : (Int → K)) (x9 : Bool) : K :=
  brK x9
  (predict_Large_s9 k 0)
  (predict_Large_s8 a blocks k 0)
@[reducible] def predict_Large (a : (Option Addr)) (blocks : Int) : M Int := fun k =>
  predict_Large_s10 a blocks k (decide (blocks < 1))
theorem predict_Large_ok (a : (Option Addr)) (blocks : Int) (k : Int → K) (w : World) (hyp_ : predict_Large a blocks k w) : c_predict_Large a blocks k w :=
  cl_of (P := Tryz.prog) Tryz.func43 rfl (by kernel_rfl)
  (RefK.seq [] [0, 1] (fun z_ => [(0, .pointer a), (1, .int .i64 blocks)]) (fun z_ => predict_Large_s10 a blocks k (decide (blocks < 1))) (by kernel_rfl) (fun _ => by kernel_rfl)
  (RefK.plain [] (by kernel_rfl))
  (fun _ => RefK.seq [] [0, 1] (fun z_ => [(0, .pointer a), (1, .int .i64 blocks)]) (fun z_ => predict_Large_s8 a blocks k 0) (by kernel_rfl) (fun _ => by kernel_rfl)
  (RefK.seq [(9, .bool)] [0, 1] (fun z_ => [(9, .bool z_.1), (0, .pointer a), (1, .int .i64 blocks)]) (fun z_ => predict_Large_s10 a blocks k z_.1) (by kernel_rfl) (fun _ => by kernel_rfl)
  (RefK.plain [] (by kernel_rfl))
  (fun ⟨x9, _⟩ => RefK.cond (b := x9) (t1 := predict_Large_s9 k 0) (t2 := predict_Large_s8 a blocks k 0) (by kernel_rfl) (by kernel_rfl) (fun w h => brK_spec w h) (RefK.seq [(4, .int .i64)] [] (fun z_ => [(4, .int .i64 z_.1)]) (fun z_ => predict_Large_s9 k z_.1) (by kernel_rfl) (fun _ => by kernel_rfl)
  (RefK.plain [] (by kernel_rfl))
  (fun ⟨x4_1, _⟩ => RefK.ret (by kernel_rfl))) (RefK.skip (by kernel_rfl))))
  (fun _ => RefK.seq [(5, .int .i64)] [0, 1] (fun z_ => [(5, .int .i64 z_.1), (0, .pointer a), (1, .int .i64 blocks)]) (fun z_ => predict_Large_s8 a blocks k z_.1) (by kernel_rfl) (fun _ => by kernel_rfl)
  (RefK.plain [] (by kernel_rfl))
  (fun ⟨n, _⟩ => RefK.seq [(5, .int .i64)] [] (fun z_ => [(5, .int .i64 z_.1)]) (fun z_ => predict_Large_s1 k z_.1) (by kernel_rfl) (fun _ => by kernel_rfl)
  (RefK.seq [(14, .slice), (15, .int .i64), (16, .int .i64)] [1, 5] (fun z_ => [(14, z_.1.v), (15, .int .i64 z_.2.1), (16, .int .i64 z_.2.2.1), (1, .int .i64 blocks), (5, .int .i64 n)]) (fun z_ => predict_Large_s7 blocks k n z_.1 z_.2.1 z_.2.2.1) (by kernel_rfl) (fun _ => by kernel_rfl)
  (RefK.plain [] (by kernel_rfl))
  (fun ⟨x14, x15, x16, _⟩ => RefK.block (RefK.loop [(5, .int .i64), (16, .int .i64)] [1, 14, 15] (fun z_ => [(5, .int .i64 z_.1), (16, .int .i64 z_.2.1), (1, .int .i64 blocks), (14, x14.v), (15, .int .i64 x15)]) (fun (z_ : (Int × Int × Unit)) c_ => predict_Large_l6 blocks k x14 x15 z_.1 z_.2.1 c_) (n, x16, ()) (by kernel_rfl) (fun _ => by kernel_rfl) (by kernel_rfl) (by kernel_rfl)
  (fun ⟨n_2, x16_1, _⟩ c => RefK.seq [(17, .bool)] [1, 5, 14, 15, 16] (fun z_ => [(17, .bool z_.1), (1, .int .i64 blocks), (5, .int .i64 n_2), (14, x14.v), (15, .int .i64 x15), (16, .int .i64 x16_1)]) (fun z_ => predict_Large_s5 blocks k x14 n_2 x16_1 c z_.1) (by kernel_rfl) (fun _ => by kernel_rfl)
  (RefK.plain [] (by kernel_rfl))
  (fun ⟨x17, _⟩ => RefK.seq [] [1, 5, 14, 15, 16] (fun z_ => [(1, .int .i64 blocks), (5, .int .i64 n_2), (14, x14.v), (15, .int .i64 x15), (16, .int .i64 x16_1)]) (fun z_ => predict_Large_s4 blocks x14 n_2 x16_1 c) (by kernel_rfl) (fun _ => by kernel_rfl)
  (RefK.cond (b := x17) (t1 := predict_Large_s4 blocks x14 n_2 x16_1 c) (t2 := predict_Large_s1 k n_2) (by kernel_rfl) (by kernel_rfl) (fun w h => brK_spec w h) (RefK.skip (by kernel_rfl)) (RefK.exit (by kernel_rfl)))
  (fun _ => RefK.seq [(5, .int .i64)] [1, 14, 15, 16] (fun z_ => [(5, .int .i64 z_.1), (1, .int .i64 blocks), (14, x14.v), (15, .int .i64 x15), (16, .int .i64 x16_1)]) (fun z_ => predict_Large_s2 x16_1 c z_.1) (by kernel_rfl) (fun _ => by kernel_rfl)
  (RefK.block (RefK.seq [(7, .addr)] [1, 5, 14, 15, 16] (fun z_ => [(7, .pointer (some z_.1)), (1, .int .i64 blocks), (5, .int .i64 n_2), (14, x14.v), (15, .int .i64 x15), (16, .int .i64 x16_1)]) (fun z_ => predict_Large_s3 blocks n_2 x16_1 c z_.1) (by kernel_rfl) (fun _ => by kernel_rfl)
  (RefK.plain [] (by kernel_rfl))
  (fun ⟨s, _⟩ => RefK.plain [] (by kernel_rfl))))
  (fun ⟨n_3, _⟩ => RefK.plain [] (by kernel_rfl))))))))
  (fun ⟨n_1, _⟩ => RefK.seq [(4, .int .i64)] [] (fun z_ => [(4, .int .i64 z_.1)]) (fun z_ => predict_Large_s0 k z_.1) (by kernel_rfl) (fun _ => by kernel_rfl)
  (RefK.plain [] (by kernel_rfl))
  (fun ⟨x4, _⟩ => RefK.ret (by kernel_rfl))))))) hyp_
end Go.Proofs.YtdgcbapclnnkkaaGreat.X
end
section
/- Contracts: how often there will be room. Conditions: at most 2^20 blocks; the device goes on. -/
set_option linter.unusedVariables false
set_option maxRecDepth 4000
set_option maxHeartbeats 1000000
namespace Go.Proofs.YtdgcbapclnnkkaaGreat.X
open Go
def fits (g : Nat) (o : Ob) : Prop := oSize o ≠ 0 ∧ oSize o ≤ ((g : Int) - 1) * 512
instance (g : Nat) (o : Ob) : Decidable (fits g o) := by unfold fits; infer_instance
def kN (o : Ob) : Nat := (kOf (oSize o)).1.toNat
def valS (L : Nat → List Int) (k : Nat) (sn : List (Int × Int)) : Int := (accL L k 4).length + sumI sn * cn k
def val (g : Nat) (L : Nat → List Int) (o : Ob) (sn : List (Int × Int)) : Int := if fits g o then (if (kOf (oSize o)).2 = true then valS L (kN o) sn else sumD (oBlocks o) sn) else 0
theorem kOf_cases (o : Ob) (h : oSize o ≠ 0) : (∃ k : Nat, k < 32 ∧ kOf (oSize o) = ((k : Int), true) ∧ oSize o ≤ cw k ∧ kN o = k) ∨ (kOf (oSize o) = (0, false) ∧ 257 ≤ oSize o ∧ 1 ≤ oBlocks o ∧ oBlocks o = (oSize o + 511) / 512) := by
  have hr := oSize_rng o
  by_cases h2 : oSize o ≤ 256
  · obtain ⟨k, k1, k2, k3⟩ := kOf_small (w := oSize o) (by omega) h2
    left
    exact ⟨k, k1, k2, k3, by unfold kN; rw [k2]; simp⟩
  · right
    have hb : oBlocks o = (oSize o + 511) / 512 := by unfold oBlocks; rw [if_neg (by omega)]
    exact ⟨kOf_large (by omega), by omega, by omega, hb⟩
theorem Cov.rng {lim : Int} {F : RF} (ok : RunsOk lim F) {sn : List (Int × Int)} (h : Cov F sn) : ∀ p ∈ sn, 1 ≤ p.2 := fun p hp => (ok.rng _ _ ((h.2 p.1 p.2).2 hp)).2.1
section
variable {B : World} {P R : SL} {t : K}
theorem FreeCells_o {a f k : Nat} {v0 v1 v2 v3 : Value} {L : Nat → List Int} (hL : ∀ i, i < 160 → (L i).length ≤ 2 ^ 30) (hk2 : k < 32) {kk : Sl → K}
    (hk : ∀ sl, T B (R * pt a (.cells [v0, v1, v2, v3, .pointer (da f)].toArray 47) * Fl f L * vec 3 1 sl (ints (sortI (accL L k 4)))) (kk sl)) :
    T B (R * pt a (.cells [v0, v1, v2, v3, .pointer (da f)].toArray 47) * Fl f L) (c_alloc_Allocator_FreeCells (da a) k kk) := by
  refine T_of (alloc_Allocator_FreeCells_ok _ k kk) ?_
  unfold da
  (repeat (first | with_reducible refine T_nn ?_ | ((with_reducible apply T_ldP); (focus rfl); (focus exact hasA); (focus rfl))))
  exact free_List_c hL hk2 fun sl => hk sl
theorem predict_Small_c {a d g k : Nat} {s : St} (inv : Inv g s.hs s.U s.L) (hk2 : k < 32) {kk : Int → K} (hk : ∀ sn, Cov s.F sn → T B (R * Al a d g s) (kk (valS s.L k sn))) : T B (R * Al a d g s) (c_predict_Small (da a) k kk) := by
  refine T_of (predict_Small_ok _ k kk) ?_
  refine class_Right_c ?_
  rw [decide_eq_true (by omega)]
  (dsimp only [predict_Small, predict_Small_s0, predict_Small_s1, predict_Small_s2, predict_Small_s3, predict_Small_s4])
  simp only [Bool.not_true]
  have hlen := inv.free.len inv.big hk2
  obtain ⟨_, t2, _, _, _, _, t7, _⟩ := cls_tab k hk2
  refine Al_open fun m u f => ?_
  unfold da
  (repeat (first | with_reducible refine T_nn ?_ | with_reducible refine T_tick ?_ | with_reducible refine T_brF ?_ | ((with_reducible apply T_ldP); (focus rfl); (focus exact hasA); (focus rfl))))
  refine T.perm (Q := R * LDx d (64 * g) s.c * Mg m d g s.hs s.F * Bm u (512 * g) s.U * pt a (.cells [.pointer (da m), .pointer (da d), .int .i64 g, .pointer (da u), .pointer (da f)].toArray 47) * Fl f s.L) (by unfold da; ac_rfl) ?_
  refine FreeCells_o (fun i hi => by have := inv.free.lens inv.big i hi; omega) hk2 fun sl => ?_
  have hsl : (sortI (accL s.L k 4)).length = (accL s.L k 4).length := List.length_mergeSort _
  refine T_vlen .last fun hn => ?_
  rw [ints_len, Nat.mul_one, hsl] at hn
  (repeat (first | with_reducible refine T_chk0 ?_ | ((with_reducible apply T_chk); (focus rfl); (focus exact hasA); (focus rfl))))
  refine T_bring (X := Mg m d g s.hs s.F) (by exact frmA) ?_
  refine Mg_tie fun tie => ?_
  refine bman_FreeBlocks_c fun sn hc => ?_
  have hs := sumI_free tie hc
  have hb := cells_bound inv hk2
  have hfn : nFree s.hs g ≤ g := by unfold nFree; exact Nat.le_trans List.countP_le_length (by simp)
  have hg := inv.big
  refine class_Cells_c ?_
  rw [t2]
  have e1 : sumI sn * (cn k : Int) = ((nFree s.hs g * cn k : Nat) : Int) := by rw [hs]; simp
  have hm : nFree s.hs g * cn k ≤ 2 ^ 20 * 256 := Nat.mul_le_mul (by omega) t7
  have e2 : IntKind.wrap .i64 (((sl.n : Nat) : Int) + IntKind.wrap .i64 (sumI sn * (cn k : Int))) = valS s.L k sn := by
    unfold valS
    rw [e1, w64 (n := ((nFree s.hs g * cn k : Nat) : Int)) (by omega) (by omega), w64 (by omega) (by omega), hn]
  rw [e2]
  refine T_drop1 (.init .last) ?_
  have h2 := Al_close (m := m) (u := u) (f := f) (hk sn hc)
  exact T.perm (by ac_rfl) h2
theorem predict_Large_c {a d g n : Nat} {s : St} (tie : Tie g s.hs s.F) (hn : 1 ≤ n) (hn2 : 0 ≤ n) {kk : Int → K} (hk : ∀ sn, Cov s.F sn → T B (R * Al a d g s) (kk (sumD n sn))) : T B (R * Al a d g s) (c_predict_Large (da a) n kk) := by
  refine T_of (predict_Large_ok _ n kk) ?_
  (repeat' (with_reducible refine T_brD (fun _ => ?_) (fun _ => ?_)))
  · exfalso; omega
  refine Al_open fun m u f => ?_
  unfold da
  (repeat (first | with_reducible refine T_nn ?_ | ((with_reducible apply T_ldP); (focus rfl); (focus exact hasA); (focus rfl))))
  refine T_bring (X := Mg m d g s.hs s.F) (by exact frmA) ?_
  refine bman_Runs_c fun sl l hc hso => ?_
  have hlen := hc.sub.len tie.ok
  have hpos := hc.rng tie.ok
  have hsum := hc.sub.sum tie.ok
  have hB := tie.big
  (dsimp only [predict_Large, predict_Large_s0, predict_Large_s1, predict_Large_s2, predict_Large_s3, predict_Large_s4, predict_Large_s5, predict_Large_l6, predict_Large_s7, predict_Large_s8, predict_Large_s9, predict_Large_s10])
  have hk := hk l hc
  have h2 := Al_close (m := m) (u := u) (f := f) hk
  refine T_vlen .last fun hn3 => ?_
  rw [prs_len] at hn3
  have hsn : sl.n = l.length := by omega
  generalize hX : R * LDx d (64 * g) s.c * Bm u (512 * g) s.U * Fl f s.L * pt a (.cells [.pointer (some ⟨m, 0, none⟩), .pointer (some ⟨d, 0, none⟩), .int .i64 g, .pointer (some ⟨u, 0, none⟩), .pointer (some ⟨f, 0, none⟩)].toArray 47) * Mg m d g s.hs s.F = X
  have h3 : T B X (kk (sumD n l)) := by subst hX; exact T.perm (by unfold da; ac_rfl) h2
  clear hX h2 hk
  -- partial sums
  have hps : ∀ i, i ≤ l.length → 0 ≤ sumD n (l.take i) ∧ sumD n (l.take i) ≤ 2 ^ 40 := by
    intro i hi
    have h1 := sumD_le (n := n) (l := l.take i) (by omega) fun p hp => by have := hpos p (List.mem_of_mem_take hp); omega
    have h2 : Sub s.F (l.take i) := ⟨(hc.1).sublist ((List.take_sublist i l).map _), fun p hp => hc.sub.mem p (List.mem_of_mem_take hp)⟩
    have h3 := h2.sum tie.ok
    have h4 := h2.len tie.ok
    omega
  have hsn2 : ∀ (l : List (Int × Int)) (p : Int × Int), sumD n (l ++ [p]) = sumD n l + p.2 / n := by
    intro l p
    induction l with
    | nil => simp [sumD]
    | cons q l ih => rw [List.cons_append]; simp only [sumD, ih]; omega
  refine T_lpX (fun _ _ => X * vec 152 2 sl (prs l)) (fun mm (z : Int × Int × Unit) => ∃ i : Nat, z.2.1 = i ∧ i ≤ l.length ∧ mm = l.length - i ∧ z.1 = sumD n (l.take i)) l.length rfl ⟨0, rfl, by omega, rfl, rfl⟩ ?_
  rintro mm ⟨z, i', uu⟩ c ⟨i, e1, e2, e3, e4⟩ hcc
  simp only at e1 e4
  subst e1 e3 e4
  dsimp only
  (repeat' (with_reducible refine T_brD (fun _ => ?_) (fun _ => ?_)))
  · have hlt : i < l.length := by omega
    refine T_ixP (l := l) (Rd.vec .last) (by omega) (by rw [Int.toNat_natCast]; exact hlt) fun y hy => ?_
    simp only [Int.toNat_natCast] at hy
    refine T_ldAt hy rfl ?_
    refine T_ldAt hy rfl ?_
    (repeat (first | ((with_reducible apply T_ldI); (focus rfl); (focus exact hasA); (focus rfl)) | (with_reducible refine T_al ?_; intro _) | ((with_reducible apply T_st); (focus rfl); (focus exact updA); (focus simp); simp only [List.set, Nat.zero_add, Nat.reduceAdd])))
    refine T_nz (by omega) ?_
    have hp := hpos l[i] (List.getElem_mem hlt)
    have h1 := hps (i + 1) (by omega)
    have h0 := hps i e2
    rw [List.take_succ_eq_append_getElem hlt, hsn2] at h1
    have hq := Int.ediv_nonneg (show 0 ≤ l[i].2 by omega) (show (0 : Int) ≤ n by omega)
    have e5 : IntKind.wrap .i64 (sumD n (l.take i) + IntKind.wrap .i64 (Int.tdiv l[i].2 n)) = sumD n (l.take (i + 1)) := by
      rw [Int.tdiv_eq_ediv_of_nonneg (by omega), w64 (n := l[i].2 / n) (by omega) (by omega), w64 (by omega) (by omega), List.take_succ_eq_append_getElem hlt, hsn2]
    refine T_drop1 .last ?_
    rw [e5]
    exact hcc (l.length - (i + 1)) (sumD n (l.take (i + 1)), IntKind.wrap .i64 ((i : Int) + 1), ()) (by omega) ⟨i + 1, w64 (by omega) (by omega), by omega, rfl, rfl⟩
  · have : i = l.length := by omega
    subst this
    rw [List.take_length]
    exact T.weak h3
theorem predict_Object_c {a d g : Nat} {s : St} {o : Ob} (inv : Inv g s.hs s.U s.L) {kk : Int → K} (hk : ∀ sn, Cov s.F sn → T B (R * Al a d g s) (kk (val g s.L o sn))) (hk0 : ¬ fits g o → T B (R * Al a d g s) (kk 0)) : T B (R * Al a d g s) (c_predict_Object (da a) o kk) := by
  refine T_of (predict_Object_ok _ o kk) ?_
  have hg := inv.big
  have hg2 := inv.two
  have hr := oSize_rng o
  (repeat (first | with_reducible refine T_tick ?_ | ((with_reducible apply T_ldI); (focus rfl); (focus exact hasA); (focus rfl)) | (with_reducible refine T_al ?_; intro _)))
  rename_i b
  refine ohead_Size_c ?_
  rw [show ((o.1, o.2) : Ob) = o from rfl]
  refine T_bring (X := Al a d g s) (.init .last) ?_
  (repeat' (first | with_reducible refine T_brT ?_ | ((with_reducible apply T_ldI); (focus rfl); (focus exact hasA); (focus rfl)) | with_reducible refine T_brE (fun _ => ?_) (fun _ => ?_)))
  · rename_i hz
    refine T_drop1 (.init .last) ?_
    exact hk0 (fun h => h.1 hz)
  rename_i hz
  -- behind the tests
  have rest : T B (R * pt b (.cells [.int .i64 o.1, .int .i64 o.2].toArray 68) * Al a d g s) (predict_Object_s8 (da a) kk ⟨b, 0, none⟩ (decide (oSize o > max 0 ((g : Int) - 1) * 512))) := by
    (repeat' (first | ((with_reducible apply T_ldI); (focus rfl); (focus exact hasA); (focus rfl)) | with_reducible refine T_brD (fun _ => ?_) (fun _ => ?_)))
    · refine T_drop1 (.init .last) ?_
      exact hk0 (fun h => by have := h.2; omega)
    have hf : fits g o := ⟨hz, by omega⟩
    unfold val at hk
    simp only [if_pos hf] at hk
    refine ohead_Small_c ?_
    rw [show ((o.1, o.2) : Ob) = o from rfl]
    rcases kOf_cases o hz with ⟨k, k1, k2, k3, k4⟩ | ⟨k2, k3, k4, k5⟩
    · rw [k2]
      rw [k2, k4] at hk
      simp only [if_true] at hk
      (repeat (with_reducible refine T_brT ?_))
      refine predict_Small_c inv k1 fun sn hc => ?_
      refine T_drop1 (.init .last) ?_
      exact hk sn hc
    · rw [k2]
      rw [k2] at hk
      simp only [Bool.false_eq_true, if_false] at hk
      (repeat (first | with_reducible refine T_brF ?_ | ((with_reducible apply T_ldI); (focus rfl); (focus exact hasA); (focus rfl))))
      refine ohead_Blocks_c ?_
      rw [show ((o.1, o.2) : Ob) = o from rfl]
      obtain ⟨n, hn⟩ := Int.eq_ofNat_of_zero_le (show 0 ≤ oBlocks o by omega)
      rw [hn] at hk ⊢
      skip
      refine Al_tie fun tie => ?_
      refine predict_Large_c tie (by omega) (by omega) fun sn hc => ?_
      refine T_drop1 (.init .last) ?_
      exact hk sn hc
  refine Al_open fun mm u f => ?_
  unfold da
  (repeat (first | with_reducible refine T_nn ?_ | ((with_reducible apply T_ldP); (focus rfl); (focus exact hasA); (focus rfl))))
  refine ohead_Size_c ?_
  (repeat (first | with_reducible refine T_chk0 ?_ | ((with_reducible apply T_chk); (focus rfl); (focus exact hasA); (focus rfl))))
  rw [show ((o.1, o.2) : Ob) = o from rfl]
  refine T_bring (X := Mg mm d g s.hs s.F) (by exact frmA) ?_
  refine bman_Geometry_c ?_
  refine geom_Most_c (by omega) (by omega) ?_
  have h2 := Al_close (m := mm) (u := u) (f := f) rest
  exact T.perm (by unfold da; ac_rfl) h2
end
end Go.Proofs.YtdgcbapclnnkkaaGreat.X
end
section
/- Contracts: a heap begun; a heap made by calls. Conditions: at most 2^20 blocks. -/
set_option linter.unusedVariables false
set_option maxRecDepth 4000
set_option maxHeartbeats 1000000
namespace Go.Proofs.YtdgcbapclnnkkaaGreat.X
open Go
def c0 (g : Nat) : List Int := wrH (List.replicate (8 * (64 * g)) 0) 1 (List.replicate (g - 1) (0, 0, 0))
def st0 (g : Nat) (F : RF) : St := ⟨hs0 g, F, c0 g, fun _ => false, fun _ => []⟩
theorem tells0 {g : Nat} (h : 2 ≤ g) (h2 : g ≤ 2 ^ 20) : Tells (c0 g) (hs0 g) := by
  refine ⟨by unfold hs0; rw [List.getElem?_replicate]; rw [if_pos (by omega)], fun b hb h' hh => ?_⟩
  unfold hs0 at hh
  rw [List.getElem?_replicate] at hh
  split at hh
  · rename_i hlt
    simp only [Option.some.injEq] at hh
    subst hh
    have e : getI (c0 g) (256 + b) = benc b (0, 0, 0) := by
      unfold getI
      rw [if_neg (by omega)]
      have e2 : (256 + (b : Int)).toNat = 256 + b := by omega
      rw [e2, List.getD_eq_getElem?_getD]
      unfold c0
      rw [wrH_get, if_neg (by simp; omega), List.getElem?_replicate, if_pos (by omega)]
      simp only [Option.map_some, Option.getD_some]
      congr 1; omega
    rw [e]
    exact bdec_benc (.inl rfl)
  · cases hh
section
variable {B : World} {P R : SL} {t : K}
theorem Begun_c {n : Nat} (h1 : 2 ≤ n) (h2 : n ≤ 2 ^ 20) {kk : ((Option Addr × (Option Addr × Sl)) × Bool) → K} (hk : ∀ a d F, T B (R * Al a d n (st0 n F)) (kk ((da a, (da d, nilS)), true))) : T B R (c_law20_Begun n kk) := by
  refine T_of (law20_Begun_ok _ kk) ?_
  (repeat (first | ((with_reducible apply T_ldI); (focus rfl); (focus exact hasA); (focus rfl)) | (with_reducible refine T_al ?_; intro _) | ((with_reducible apply T_st); (focus rfl); (focus exact updA); (focus simp); simp only [List.set, Nat.zero_add, Nat.reduceAdd])))
  rename_i b1 b2
  refine geom_Words_c (by omega) (by omega) ?_
  refine nvm_New_c (n := 64 * n) (by omega) (by omega) fun d => ?_
  unfold da
  skip
  (dsimp only [law20_Begun, law20_Begun_s0, law20_Begun_s1, law20_Begun_s2, law20_Begun_s3, law20_Begun_s4, law20_Begun_s5, law20_Begun_s6, law20_Begun_s7, law20_Begun_s8, law20_Begun_s9, law20_Begun_s10, law20_Begun_s11, law20_Begun_s12, law20_Begun_s13])
  simp only [Option.isNone_some]
  (repeat (first | with_reducible refine T_brF ?_ | ((with_reducible apply T_ldI); (focus rfl); (focus exact hasA); (focus rfl))))
  refine blocks_Format_c h1 h2 rfl fun la' _ => ?_
  (repeat' (first | ((with_reducible apply T_ldI); (focus rfl); (focus exact hasA); (focus rfl)) | ((with_reducible apply T_ldP); (focus rfl); (focus exact hasA); (focus rfl)) | ((with_reducible apply T_st); (focus rfl); (focus exact updA); (focus simp); simp only [List.set, Nat.zero_add, Nat.reduceAdd]) | with_reducible refine T_brNE (fun _ => ?_) (fun _ => ?_)))
  · rename_i h; exact absurd rfl h
  have ht := tells0 h1 h2
  refine LDx_close ?_
  refine bman_Open_c (g := n) h1 h2 ht fun m F => ?_
  (repeat' (first | with_reducible refine T_brT ?_ | ((with_reducible apply T_ldP); (focus rfl); (focus exact hasA); (focus rfl)) | ((with_reducible apply T_st); (focus rfl); (focus exact updA); (focus simp); simp only [List.set, Nat.zero_add, Nat.reduceAdd]) | with_reducible refine T_brNE (fun _ => ?_) (fun _ => ?_)))
  · rename_i h; exact absurd rfl h
  simp only [da, Option.isNone_some]
  (repeat (with_reducible refine T_brF ?_))
  refine alloc_New_c (g := n) (d := d) (m := m) h1 h2 fun a => ?_
  (repeat' (first | with_reducible refine T_tick ?_ | ((with_reducible apply T_ldP); (focus rfl); (focus exact hasA); (focus rfl)) | ((with_reducible apply T_st); (focus rfl); (focus exact updA); (focus simp); simp only [List.set, Nat.zero_add, Nat.reduceAdd]) | with_reducible refine T_brE (fun _ => ?_) (fun _ => ?_) | with_reducible refine T_brN ?_))
  · simp only [da, Option.isNone_some, Bool.not_false]
    (repeat (first | with_reducible refine T_nn ?_ | with_reducible refine T_brF ?_))
    refine T_bring (X := Al a d n (st0 n F)) .last ?_
    refine Al_open fun m2 u f => ?_
    unfold da
    (repeat (first | with_reducible refine T_chk0 ?_ | ((with_reducible apply T_ldP); (focus rfl); (focus exact hasA); (focus rfl)) | ((with_reducible apply T_st); (focus rfl); (focus exact updA); (focus simp); simp only [List.set, Nat.zero_add, Nat.reduceAdd]) | ((with_reducible apply T_chk); (focus rfl); (focus exact hasA); (focus rfl))))
    simp only [Option.isNone_some, Bool.not_false]
    skip
    have h3 := Al_close (m := m2) (u := u) (f := f) (hk a d F)
    refine T_ldS (n := nilS) (by rw [add_mk]) (by exact hasA) rfl ?_
    refine T_drop1 (by exact frmA : Frm _ (pt b1 (.cells [Value.pointer (some ⟨a, 0, none⟩), .pointer (some ⟨d, 0, none⟩), .slice none 0 0].toArray 29)) _) ?_
    refine T_drop1 (by exact frmA : Frm _ (pt b2 (.cells [Value.int .i64 n].toArray 43)) _) ?_
    exact T.perm (by unfold da; ac_rfl) h3
  · rename_i h; exact absurd rfl h
theorem T_ldBase {a : Addr} {kd : IntKind} {n : Int} {k : Int → K} (h : B.cell? a = some (.int kd n)) (ht : T B P (k n)) : T B P (ldI kd a k) := by
  intro w hw
  have hlt : a.block < B.heap.size := by
    unfold World.cell? at h
    cases hh : B.heap[a.block]? with
    | none => rw [hh] at h; cases h
    | some o => exact (Array.getElem?_eq_some_iff.1 hh).1
  exact ⟨n, by rw [hw.2.cell hlt]; exact h, ht w hw⟩
/-- a script of calls in the world of the law's call -/
def Scr (B : World) (x : Sl) : Prop := ∀ i : Nat, i < x.n → ∃ a, x.p = some a ∧ ∃ k m p d : Int, B.cell? ((a.add (i * 4)).add 0) = some (.int .i64 k) ∧ B.cell? ((a.add (i * 4)).add 1) = some (.int .i64 m) ∧ B.cell? ((a.add (i * 4)).add 2) = some (.int .i64 p) ∧ B.cell? ((a.add (i * 4)).add 3) = some (.int .i64 d)
theorem T_ixScr {x : Sl} (h : Scr B x) {i : Int} {k : Addr → K} (h0 : 0 ≤ i) (h1 : i < x.n) (ht : ∀ a kd m p d, B.cell? (a.add 0) = some (.int .i64 kd) → B.cell? (a.add 1) = some (.int .i64 m) → B.cell? (a.add 2) = some (.int .i64 p) → B.cell? (a.add 3) = some (.int .i64 d) → T B P (k a)) :
    T B P (ixS x.p x.n i 4 k) := by
  obtain ⟨a, ha, kd, m, p, d, e0, e1, e2, e3⟩ := h i.toNat (by omega)
  exact T_ixS ha h0 h1 (ht _ kd m p d e0 e1 e2 e3)
theorem T_exP {α : Type} {X : α → SL} {φ : α → Prop} (h : ∀ s, φ s → T B (X s) t) : T B (ex fun s => X s * pu (φ s)) t := by
  intro w hw
  obtain ⟨s, hw⟩ := sat_ex hw
  have k : T B (X s * pu (φ s)) t := T_pu fun hφ => h s hφ
  exact k w hw
theorem awake_c {kk : Bool → K} (hk : T B R (kk true)) : T B R (c_law29_awake kk) := by
  refine T_of (law29_awake_ok kk) ?_
  refine Begun_c (n := 2) (by omega) (by omega) fun a d F => ?_
  (repeat' (first | with_reducible refine T_brT ?_ | ((with_reducible apply T_ldP); (focus rfl); (focus exact hasA); (focus rfl)) | (with_reducible refine T_al ?_; intro _) | ((with_reducible apply T_st); (focus rfl); (focus exact updA); (focus simp); simp only [List.set, Nat.zero_add, Nat.reduceAdd])))
  have inv : Inv 2 (st0 2 F).hs (st0 2 F).U (st0 2 F).L := Inv.begun (by omega) (by omega)
  refine T_bring (X := Al a d 2 (st0 2 F)) (by exact frmA) ?_
  refine Al_tie fun tie => ?_
  refine predict_Small_c (k := 31) inv (by omega) fun sn hc => ?_
  have e1 : sumI sn = 1 := by
    rw [sumI_free tie hc]
    have : nFree (st0 2 F).hs 2 = 1 := by show nFree (hs0 2) 2 = 1; decide +kernel
    rw [this]; rfl
  have e2 : cn 31 = 2 := by decide +kernel
  have e3 : valS (st0 2 F).L 31 sn = 2 := by
    unfold valS
    rw [e1, e2]
    show (((accL (fun _ => []) 31 4).length : Nat) : Int) + 1 * ((2 : Nat) : Int) = 2
    simp [accL]
  rw [e3]
  refine T.weak ?_
  refine T.weak ?_
  exact hk
theorem made_c {x0 : Int} {x1 : Sl} (h0 : 0 ≤ x0) (h1 : x0 ≤ 255) (hs : Scr B x1) {kk : Option Addr × Bool → K}
    (hk : ∀ a d s, Inv (2 + x0.toNat % 7) s.hs s.U s.L → T B (R * Al a d (2 + x0.toNat % 7) s) (kk (da a, true))) : T B R (c_law29_made x0 x1 kk) := by
  refine T_of (law29_made_ok x0 x1 kk) ?_
  have e0 : IntKind.wrap .i64 (2 + IntKind.wrap .i64 (Int.tmod x0 7)) = ((2 + x0.toNat % 7 : Nat) : Int) := by
    rw [Int.tmod_eq_emod_of_nonneg h0, w64 (n := x0 % 7) (by omega) (by omega), w64 (by omega) (by omega)]; omega
  (dsimp only [law29_made, law29_made_s0, law29_made_s1, law29_made_s2, law29_made_s3, law29_made_s4, law29_made_s5, law29_made_s6, law29_made_s7, law29_made_s8, law29_made_s9, law29_made_s10, law29_made_s11, law29_made_s12, law29_made_l13, law29_made_s14, law29_made_s15, law29_made_s16])
  rw [e0]
  generalize hg : 2 + x0.toNat % 7 = g at *
  have hg1 : 2 ≤ g := by omega
  have hg2 : g ≤ 8 := by omega
  refine Begun_c (n := g) hg1 (by omega) fun a d F => ?_
  (repeat (first | (with_reducible refine T_al ?_; intro _) | ((with_reducible apply T_st); (focus rfl); (focus exact updA); (focus simp); simp only [List.set, Nat.zero_add, Nat.reduceAdd])))
  rename_i b
  have inv0 : Inv g (st0 g F).hs (st0 g F).U (st0 g F).L := Inv.begun hg1 (by omega)
  refine T_lpW (fun _ _ => ex fun s : St => R * pt b (.cells [.pointer (da a), .pointer (da d), nilS.v].toArray 29) * Al a d g s * pu (Inv g s.hs s.U s.L)) (fun n (z : Int × Unit) => ∃ i : Nat, z.1 = i ∧ i ≤ 40 ∧ n = 40 - i) 40 (fun t ht => ?_) ⟨0, rfl, by omega, rfl⟩ ?_
  · intro w hw
    refine ht w (ex_sat (st0 g F) (Sat.puI inv0 ?_))
    exact hw.perm (by ac_rfl)
  rintro n ⟨z, uu⟩ c ⟨i, e1, e2, e3⟩ hc
  simp only at e1
  subst e1 e3
  dsimp only
  have next : ∀ s, Inv g s.hs s.U s.L → i < 40 → T B (R * pt b (.cells [.pointer (da a), .pointer (da d), nilS.v].toArray 29) * Al a d g s) (c (IntKind.wrap .i64 ((i : Int) + 1), ())) := by
    intro s inv hi w hw
    exact hc (40 - (i + 1)) (IntKind.wrap .i64 ((i : Int) + 1), ()) (by omega) ⟨i + 1, w64 (by omega) (by omega), by omega, rfl⟩ w (ex_sat s (Sat.puI inv hw))
  clear hc
  have nexts := next
  refine T_exP fun s inv => ?_
  have next := next s inv
  have done : T B (R * pt b (.cells [.pointer (da a), .pointer (da d), nilS.v].toArray 29) * Al a d g s) (kk (da a, true)) := T_drop1 (.init .last) (hk a d s inv)
  unfold da at *
  (repeat' (first | with_reducible refine T_brT ?_ | with_reducible refine T_brF ?_ | ((with_reducible apply T_ldP); (focus rfl); (focus exact hasA); (focus rfl)) | with_reducible refine T_brD (fun _ => ?_) (fun _ => ?_)))
  · rename_i h1 h2
    refine T_ixScr hs (by omega) h1 fun y kd m p dd q0 q1 q2 q3 => ?_
    refine T_ldBase q0 ?_
    refine T_ldBase q1 ?_
    refine T_ldBase q2 ?_
    refine T_ldBase q3 ?_
    (repeat (first | ((with_reducible apply T_ldP); (focus rfl); (focus exact hasA); (focus rfl)) | (with_reducible refine T_al ?_; intro _) | ((with_reducible apply T_st); (focus rfl); (focus exact updA); (focus simp); simp only [List.set, Nat.zero_add, Nat.reduceAdd])))
    rename_i b2
    refine T_bring (X := Al a d g s) (by exact frmA) ?_
    refine Objects_c fun sl => ?_
    have hlen : ∀ t, (sl.n * 1 = (ints (uBel s.U (512 * g))).length → T B (R * pt b (.cells [.pointer (some ⟨a, 0, none⟩), .pointer (some ⟨d, 0, none⟩), nilS.v].toArray 29) * pt b2 (.cells [.int .i64 kd, .int .i64 m, .int .i64 p, .int .i64 dd].toArray 137) * Al a d g s * vec 3 1 sl (ints (uBel s.U (512 * g)))) t) → T B (R * pt b (.cells [.pointer (some ⟨a, 0, none⟩), .pointer (some ⟨d, 0, none⟩), nilS.v].toArray 29) * pt b2 (.cells [.int .i64 kd, .int .i64 m, .int .i64 p, .int .i64 dd].toArray 137) * Al a d g s * vec 3 1 sl (ints (uBel s.U (512 * g)))) t := fun t h => T_vlen .last h
    refine hlen _ fun hn => ?_
    clear hlen
    rw [ints_len, Nat.mul_one] at hn
    have ub := @uBel_len s.U (512 * g)
    -- back to the head
    have nx : ∀ s', Inv g s'.hs s'.U s'.L → T B (R * pt b (.cells [.pointer (some ⟨a, 0, none⟩), .pointer (some ⟨d, 0, none⟩), nilS.v].toArray 29) * pt b2 (.cells [.int .i64 kd, .int .i64 m, .int .i64 p, .int .i64 dd].toArray 137) * vec 3 1 sl (ints (uBel s.U (512 * g))) * Al a d g s') (c (IntKind.wrap .i64 ((i : Int) + 1), ())) := by
      intro s' inv'
      refine T_drop1 (.init .last) ?_
      refine T_drop1 (.init .last) ?_
      exact nexts s' inv' (by omega)
    have same : T B (R * pt b (.cells [.pointer (some ⟨a, 0, none⟩), .pointer (some ⟨d, 0, none⟩), nilS.v].toArray 29) * pt b2 (.cells [.int .i64 kd, .int .i64 m, .int .i64 p, .int .i64 dd].toArray 137) * Al a d g s * vec 3 1 sl (ints (uBel s.U (512 * g)))) (c (IntKind.wrap .i64 ((i : Int) + 1), ())) := T.perm (by ac_rfl) (nx s inv)
    (repeat' (first | with_reducible refine T_tick ?_ | with_reducible refine T_brF ?_ | ((with_reducible apply T_ldI); (focus rfl); (focus exact hasA); (focus rfl)) | ((with_reducible apply T_ldP); (focus rfl); (focus exact hasA); (focus rfl)) | with_reducible refine T_brD (fun _ => ?_) (fun _ => ?_) | with_reducible refine T_brE (fun _ => ?_) (fun _ => ?_)))
    · refine T_bring (X := Al a d g s) (by exact frmA) ?_
      refine Alloc_c inv (by omega) (fun _ => nx s inv) (fun _ _ _ => nx s inv) (fun _ _ _ _ _ => nx s inv) (fun _ _ _ _ x s1 hr => nx _ ?_)
      obtain ⟨i1, i2, i3⟩ := hr.inv
      show Inv g s1.hs (uAdd s1.U x) s1.L
      rw [i3]; exact i1
    · rename_i h3 h4 h5 h6
      refine T_nz (by omega) ?_
      have e4 : Int.tmod p (sl.n : Int) = p % (sl.n : Int) := Int.tmod_eq_emod_of_nonneg (by omega)
      rw [e4]
      have hm1 := Int.emod_nonneg p (show (sl.n : Int) ≠ 0 by omega)
      have hm2 := Int.emod_lt_of_pos p (show (0 : Int) < sl.n by omega)
      have hlt : (p % (sl.n : Int)).toNat < (uBel s.U (512 * g)).length := by omega
      refine T_ixV (Rd.vec .last) hm1 (ints_at hlt) ?_
      refine T_bring (X := Al a d g s) (by exact frmA) ?_
      refine Free_c inv (fun _ => nx s inv) (fun n s' o _ _ hf => nx s' hf.inv)
    all_goals exact same
  · exact done
  · exact done
end
end Go.Proofs.YtdgcbapclnnkkaaGreat.X
end
section
/- Contracts: an object's size, a reference, as the document's answer has them. Conditions: none. -/
set_option linter.unusedVariables false
set_option maxRecDepth 4000
set_option maxHeartbeats 1000000
namespace Go.Proofs.YtdgcbapclnnkkaaGreat.X
open Go
section
variable {B : World} {P R : SL} {t : K}
theorem ref08_Size_c {o : Ob} {kk : Int → K} (hk : T B R (kk (oSize o))) : T B R (c_ref08_Size o kk) := by
  refine T_of (ref08_Size_ok o kk) ?_
  (repeat' (first | with_reducible refine T_brT ?_ | ((with_reducible apply T_ldI); (focus rfl); (focus exact hasA); (focus rfl)) | (with_reducible refine T_al ?_; intro _) | with_reducible refine T_brD (fun _ => ?_) (fun _ => ?_)))
  all_goals (
    refine T_drop1 .last ?_
    first
    | (have e : oSize o = 0 := if_neg (fun h : oRight o => by unfold oRight at h; omega)
       rw [e] at hk; exact hk)
    | (have e : oSize o = 1 + o.1 + o.2 := if_pos (show oRight o by unfold oRight; omega)
       rw [w64 (n := 1 + o.1) (by omega) (by omega), w64 (by omega) (by omega), ← e]
       exact hk))
theorem law08_Ref_c {o : Ob} {kk : Ob → K} (hk : T B R (kk o)) : T B R (c_law08_Ref o kk) := by
  refine T_of (law08_Ref_ok o kk) ?_
  (repeat (first | ((with_reducible apply T_ldI); (focus rfl); (focus exact hasA); (focus rfl)) | (with_reducible refine T_al ?_; intro _) | ((with_reducible apply T_st); (focus rfl); (focus exact updA); (focus simp); simp only [List.set, Nat.zero_add, Nat.reduceAdd])))
  refine T.weak ?_
  refine T.weak ?_
  exact hk
end
end Go.Proofs.YtdgcbapclnnkkaaGreat.X
end
section
/- Contracts: an object's class and blocks, headers and spans, as the document's answer has them. Conditions: at most 2^20 blocks. -/
set_option linter.unusedVariables false
set_option maxRecDepth 4000
namespace Go.Proofs.YtdgcbapclnnkkaaGreat.X
open Go
section
variable {B : World} {P R : SL} {t : K}
theorem ref08_Class_c {o : Ob} {k : Int → K} (hk : T B R (k (kC o))) : T B R (c_ref08_Class o k) := by
  refine T_of (ref08_Class_ok o k) ?_
  (repeat (first | ((with_reducible apply T_ldI); (focus rfl); (focus exact hasA); (focus rfl)) | (with_reducible refine T_al ?_; intro _)))
  refine ref08_Size_c ?_
  refine ref06_Of_c ?_
  exact T.weak hk
theorem ref08_Blocks_c {o : Ob} {k : Int → K} (hk : T B R (k (if (kOf (oSize o)).2 = true then 0 else (oSize o + 511) / 512))) (h0 : oSize o ≠ 0) : T B R (c_ref08_Blocks o k) := by
  refine T_of (ref08_Blocks_ok o k) ?_
  have hr := oSize_rng o
  have h2 : (kOf (oSize o)).2 = true → 0 ≤ (kOf (oSize o)).1 := by
    unfold kOf ofC
    intro h
    split at h
    · rw [if_pos (by assumption)]; exact Int.natCast_nonneg _
    · cases h
  (repeat (first | ((with_reducible apply T_ldI); (focus rfl); (focus exact hasA); (focus rfl)) | (with_reducible refine T_al ?_; intro _)))
  refine ref08_Class_c ?_
  rw [show ((o.1, o.2) : Ob) = o from rfl]
  unfold kC
  by_cases h : (kOf (oSize o)).2 = true
  · rw [if_pos h] at hk ⊢
    refine T_brD (fun _ => ?_) (fun h' => absurd (h2 h) h')
    exact T.weak hk
  · rw [if_neg h] at hk ⊢
    refine T_brD (fun h' => absurd h' (by omega)) (fun _ => ?_)
    (repeat (((with_reducible apply T_ldI); (focus rfl); (focus exact hasA); (focus rfl))))
    refine ref08_Size_c ?_
    rw [show ((o.1, o.2) : Ob) = o from rfl]
    refine ref04_Need_c (by omega) (by omega) ?_
    exact T.weak hk
theorem law07_Ref_c {h : Hd} {k : Hd → K} (hk : T B R (k h)) : T B R (c_law07_Ref h k) := by
  refine T_of (law07_Ref_ok h k) ?_
  (repeat (first | ((with_reducible apply T_ldI); (focus rfl); (focus exact hasA); (focus rfl)) | (with_reducible refine T_al ?_; intro _) | ((with_reducible apply T_st); (focus rfl); (focus exact updA); (focus simp); simp only [List.set, Nat.zero_add, Nat.reduceAdd])))
  refine T.weak ?_
  refine T.weak ?_
  exact hk
theorem law07_Refs_c {x : Sl} {hs : List Hd} (hl : hs.length ≤ 2 ^ 20) (hx : Rd R x 3 (hds hs)) {k : Sl → K} (hk : ∀ s, T B (R * vec 141 3 s (hds hs)) (k s)) : T B R (c_law07_Refs x k) := by
  refine T_of (law07_Refs_ok x k) ?_
  refine T_rdlen hx fun hxn => ?_
  rw [hds_len] at hxn
  refine T_vecN (E := 141) (sz := 3) (s := ⟨none, 0, 0⟩) rfl rfl ?_
  refine T_lpX (fun _ s => R * vec 141 3 s.1 (hds (hs.take s.2.1.toNat))) (fun m (s : Sl × Int × Unit) => ∃ i : Nat, i ≤ hs.length ∧ s.2.1 = i ∧ m = hs.length - i) hs.length rfl ⟨0, by omega, rfl, rfl⟩ ?_
  rintro m ⟨out, s1, u⟩ cc ⟨i, h1, h2, h3⟩ hc
  simp only at h2
  subst h2 h3
  simp only [Int.toNat_natCast]
  (repeat' (with_reducible refine T_brD (fun _ => ?_) (fun _ => ?_)))
  · rename_i hlt
    have hlt' : i < hs.length := by omega
    refine T_ixH (l := hs) hx.init (by omega) (by rw [Int.toNat_natCast]; exact hlt') fun y hy => ?_
    simp only [Int.toNat_natCast] at hy
    refine T_ldAt hy rfl ?_
    refine T_ldAt hy rfl ?_
    refine T_ldAt hy rfl ?_
    refine law07_Ref_c ?_
    refine T_app1 (vs := hds (hs.take i)) (new := [.int .i64 hs[i].1, .int .i64 hs[i].2.1, .int .i64 hs[i].2.2]) kd_hd7 rfl rfl (by rw [hds_len, List.length_take]; omega) fun s' => ?_
    have := hc (hs.length - (i + 1)) (s', IntKind.wrap .i64 ((i : Int) + 1), ()) (by omega) ⟨i + 1, by omega, w64 (by omega) (by omega), rfl⟩
    have e : (IntKind.wrap .i64 ((i : Int) + 1)).toNat = i + 1 := by rw [w64 (by omega) (by omega)]; omega
    simp only [e] at this
    rw [List.take_succ_eq_append_getElem hlt', hds_append] at this
    exact this
  · rename_i hge
    have hi : i = hs.length := by omega
    subst hi
    have := hk out
    rw [List.take_length]
    exact this
end
end Go.Proofs.YtdgcbapclnnkkaaGreat.X
end
section
/- Contracts: spans, as the document's answer has them. Conditions: at most 2^20 blocks. -/
set_option linter.unusedVariables false
set_option maxRecDepth 4000
namespace Go.Proofs.YtdgcbapclnnkkaaGreat.X
open Go
theorem spS_last (hs : List Hd) {b : Nat} (h : 2 ≤ b) : (0 < (spS hs b).length ∧ ((spS hs b).getD ((spS hs b).length - 1) (0, 0)).1 + ((spS hs b).getD ((spS hs b).length - 1) (0, 0)).2 = b) ↔ (hs.getD (b - 1) (0, 0, 0)).1 = 0 := by
  obtain ⟨c, rfl⟩ : ∃ c, b = c + 1 := ⟨b - 1, by omega⟩
  obtain ⟨r1, r2⟩ := spS_rng hs c (by omega)
  rw [spS_succ hs (by omega), show c + 1 - 1 = c from rfl]
  generalize spS hs c = o at *
  unfold spStep
  by_cases hz : (hs.getD c (0, 0, 0)).1 = 0
  · rw [if_neg (by omega)]
    refine ⟨fun _ => hz, fun _ => ?_⟩
    split
    · rename_i hc
      have hl : (o.set (o.length - 1) ((o.getD (o.length - 1) (0, 0)).1, (o.getD (o.length - 1) (0, 0)).2 + 1)).length = o.length := List.length_set
      rw [hl]
      refine ⟨hc.1, ?_⟩
      rw [List.getD_eq_getElem?_getD (l := o.set _ _), List.getElem?_set_self (by omega)]
      simp only [Option.getD_some]
      have := hc.2
      omega
    · simp
  · rw [if_pos hz]
    refine ⟨fun hh => ?_, fun h' => absurd h' hz⟩
    have hm := r2 _ (getD_mem (d := (0, 0)) (show o.length - 1 < o.length by omega))
    have := hh.2
    omega
section
variable {B : World} {P R : SL} {t : K}
theorem T_stPg {E : TypeId} {s : Sl} {l : List (Int × Int)} {i : Int} {x : Int} (hF : Frm P (vec E 2 s (prs l)) R) (h0 : 0 ≤ i) (hi : i.toNat < l.length) (ht : T B (R * vec E 2 s (prs (l.set i.toNat (l[i.toNat].1, x)))) t) :
    T B P (ixS s.p s.n i 2 fun a => stK ((a.add 1).add 0) (.int .i64 x) t) := by
  have hl := prs_len l
  refine T_vopen hF (fun e => by rw [e] at hl; simp at hl; omega) fun b rest h1 h2 h3 h4 => ?_
  refine T_ixS h1 h0 (by omega) ?_
  rw [add_mk, Nat.zero_add]
  refine T_st (i := i.toNat * 2 + 1) (by rw [add_mk, add_mk]) Upd.last (by simp; omega) ?_
  rw [List.set_append_left _ _ (by omega), prs_set1 hi]
  refine T_vecI h1 ?_ ?_ h4 ht
  · rw [h2, prs_len, prs_len]; simp
  · rw [h3, prs_len, prs_len]; simp
theorem ref10_Spans_c {hs : List Hd} {x : Sl} (hl : 1 ≤ hs.length) (hl2 : hs.length ≤ 2 ^ 20) (hx : Rd R x 3 (hds hs)) {k : Sl → K} (hk : ∀ s, T B (R * vec 149 2 s (prs (spS hs hs.length))) (k s)) : T B R (c_ref10_Spans x k) := by
  refine T_of (ref10_Spans_ok x k) ?_
  refine T_rdlen hx fun hxn => ?_
  rw [hds_len] at hxn
  refine T_vecN (E := 149) (sz := 2) (s := ⟨none, 0, 0⟩) rfl rfl ?_
  refine T_lpX (fun _ s => R * vec 149 2 s.1 (prs (spS hs s.2.1.toNat))) (fun m (s : Sl × Int × Unit) => ∃ i : Nat, 1 ≤ i ∧ i ≤ hs.length ∧ s.2.1 = i ∧ m = hs.length - i) (hs.length - 1) rfl ⟨1, by omega, by omega, rfl, rfl⟩ ?_
  rintro m ⟨out, s1, u⟩ cc ⟨i, h0, h1, h2, h3⟩ hc
  simp only at h2
  subst h2 h3
  simp only [Int.toNat_natCast]
  refine T_vlen .last fun hout => ?_
  rw [prs_len] at hout
  obtain ⟨r1, r2⟩ := spS_rng hs i h0
  skip
  refine T_brD (fun hlt => ?_) (fun hge => ?_)
  · have hlt' : i < hs.length := by omega
    have hnext : ∀ s', T B (R * vec 149 2 s' (prs (spStep (spS hs i) i hs[i]))) (cc (s', IntKind.wrap .i64 ((i : Int) + 1), ())) := by
      intro s'
      have := hc (hs.length - (i + 1)) (s', IntKind.wrap .i64 ((i : Int) + 1), ()) (by omega) ⟨i + 1, by omega, by omega, w64 (by omega) (by omega), rfl⟩
      have e : (IntKind.wrap .i64 ((i : Int) + 1)).toNat = i + 1 := by rw [w64 (by omega) (by omega)]; omega
      simp only [e] at this
      rw [spS_succ hs h0, List.getD_eq_getElem?_getD, List.getElem?_eq_getElem hlt'] at this
      exact this
    have hlast := fun h => spS_last hs (b := i) h
    refine T_ixH (l := hs) hx.init (by omega) (by rw [Int.toNat_natCast]; exact hlt') fun y hy => ?_
    refine T_ldAt hy rfl ?_
    simp only [Int.toNat_natCast]
    generalize spS hs i = o at *
    unfold spStep at hnext
    have app : hs[i].1 = 0 → ¬ (0 < o.length ∧ (o.getD (o.length - 1) (0, 0)).1 + (o.getD (o.length - 1) (0, 0)).2 = i) → T B (R * vec 149 2 out (prs o)) (ref10_Spans_s4 out i cc) := by
      intro hz hn
      rw [if_neg (by omega), if_neg hn] at hnext
      refine T_app1 (vs := prs o) (new := [.int .i64 i, .int .i64 1]) kd_sp10 rfl rfl (by rw [prs_len]; omega) fun s' => ?_
      have := hnext s'
      rw [prs_append] at this
      exact this
    refine T_brNE (fun hne => ?_) (fun heq => ?_)
    · rw [if_pos hne] at hnext
      exact hnext out
    (dsimp only [ref10_Spans, ref10_Spans_s0, ref10_Spans_s1, ref10_Spans_s2, ref10_Spans_s3, ref10_Spans_s4, ref10_Spans_s5, ref10_Spans_s6, ref10_Spans_s7, ref10_Spans_s8, ref10_Spans_s9, ref10_Spans_l10, ref10_Spans_s11, ref10_Spans_s12])
    refine T_brD (fun hgt => ?_) (fun hle => ?_)
    · have hi2 : 2 ≤ i := by omega
      have hlast := hlast hi2
      have hi1 : i - 1 < hs.length := by omega
      have e1 : IntKind.wrap .i64 ((i : Int) - 1) = ((i - 1 : Nat) : Int) := by rw [w64 (by omega) (by omega)]; omega
      rw [e1]
      rw [List.getD_eq_getElem?_getD (l := hs), List.getElem?_eq_getElem hi1, Option.getD_some] at hlast
      refine T_ixH (l := hs) hx.init (by omega) (by rw [Int.toNat_natCast]; exact hi1) fun z hz => ?_
      simp only [Int.toNat_natCast] at hz
      refine T_ldAt hz rfl ?_
      refine T_brE (fun hp => ?_) (fun hp => ?_)
      · obtain ⟨hol, hj⟩ := hlast.2 hp
        rw [if_neg (by omega), if_pos ⟨hol, hj⟩] at hnext
        have hix : o.length - 1 < o.length := by omega
        have e2 : IntKind.wrap .i64 (((out.n : Nat) : Int) - 1) = ((o.length - 1 : Nat) : Int) := by rw [w64 (by omega) (by omega)]; omega
        rw [e2]
        have hm := r2 _ (List.getElem_mem hix)
        rw [List.getD_eq_getElem?_getD, List.getElem?_eq_getElem hix, Option.getD_some] at hnext
        refine T_ixP (l := o) (Rd.vec .last) (by omega) (by rw [Int.toNat_natCast]; exact hix) fun z3 hz3 => ?_
        simp only [Int.toNat_natCast] at hz3
        refine T_ldAt hz3 rfl ?_
        rw [w64 (by omega) (by omega)]
        refine T_stPg (l := o) .last (by omega) (by rw [Int.toNat_natCast]; exact hix) ?_
        simp only [Int.toNat_natCast]
        exact hnext out
      · exact app heq (fun h => hp (hlast.1 h))
    · have hi1 : i = 1 := by omega
      refine app heq (fun h => ?_)
      omega
  · have hi : i = hs.length := by omega
    subst hi
    exact hk out
end
end Go.Proofs.YtdgcbapclnnkkaaGreat.X
end
section
/- Contracts: the cells not in use, as the document's answer has them. Conditions: at most 2^20 blocks. -/
set_option linter.unusedVariables false
set_option maxRecDepth 4000
namespace Go.Proofs.YtdgcbapclnnkkaaGreat.X
open Go
/-- the cells of a block that are not in use, up to one -/
def frC (u : List Int) (b k : Int) : Nat → List Int
  | 0 => []
  | i + 1 => frC u b k i ++ (if 512 * b + i * clsW k ∈ u then [] else [512 * b + i * clsW k])
/-- the cells of a class that are not in use, of the blocks up to one -/
def frS (hs : List Hd) (u : List Int) (k : Int) : Nat → List Int
  | 0 => []
  | 1 => []
  | b + 2 => frS hs u k (b + 1) ++ (if (hd hs (b + 1)).1 = 1 ∧ (hd hs (b + 1)).2.1 = k then frC u ((b + 1 : Nat) : Int) k (cls k).toNat else [])
theorem frS_succ (hs : List Hd) (u : List Int) (k : Int) {b : Nat} (h : 1 ≤ b) : frS hs u k (b + 1) = frS hs u k b ++ (if (hd hs b).1 = 1 ∧ (hd hs b).2.1 = k then frC u (b : Int) k (cls k).toNat else []) := by
  obtain ⟨c, rfl⟩ : ∃ c, b = c + 1 := ⟨b - 1, by omega⟩
  rfl
theorem frC_len (u : List Int) (b k : Int) : ∀ n, (frC u b k n).length ≤ n
  | 0 => Nat.le_refl _
  | i + 1 => by
    have := frC_len u b k i
    unfold frC
    rw [List.length_append]
    split
    · simp; omega
    · simp; omega
theorem cls_le (k : Int) : 0 ≤ cls k ∧ cls k ≤ 512 := by
  unfold cls
  split
  · rename_i h
    have hp := clsW_pos h
    exact ⟨Int.ediv_nonneg (by omega) (by omega), Int.ediv_le_self _ (by omega)⟩
  · omega
theorem frS_len (hs : List Hd) (u : List Int) (k : Int) : ∀ n, 1 ≤ n → (frS hs u k n).length ≤ 512 * n := by
  intro n hn
  induction n with
  | zero => omega
  | succ n ih =>
    by_cases h : n = 0
    · subst h; simp [frS]
    · rw [frS_succ _ _ _ (by omega), List.length_append]
      have := ih (by omega)
      have hc := cls_le k
      split
      · have := frC_len u n k (cls k).toNat
        omega
      · simp; omega
section
variable {B : World} {P R : SL} {t : K}
theorem ref16_Free_c {hs : List Hd} {x u : Sl} {us : List Int} {k : Int} (hk0 : 0 ≤ k ∧ k < 32) (hl : 1 ≤ hs.length) (hl2 : hs.length ≤ 2 ^ 20) (hul : us.length ≤ 2 ^ 40) (hx : Rd R x 3 (hds hs)) (hu : Rd R u 1 (ints us)) {kk : Sl → K}
    (hk : ∀ s, T B (R * vec 3 1 s (ints (frS hs us k hs.length))) (kk s)) : T B R (c_ref16_Free x k u kk) := by
  refine T_of (ref16_Free_ok x k u kk) ?_
  refine T_rdlen hx fun hxn => ?_
  rw [hds_len] at hxn
  refine T_rdlen hu fun hun => ?_
  rw [ints_len, Nat.mul_one] at hun
  have hp := clsW_pos hk0
  have hc := cls_le k
  refine T_vecN (E := 3) (sz := 1) (s := ⟨none, 0, 0⟩) rfl rfl ?_
  refine T_lpX (fun _ s => R * vec 3 1 s.1 (ints (frS hs us k s.2.1.toNat))) (fun m (s : Sl × Int × Unit) => ∃ i : Nat, 1 ≤ i ∧ i ≤ hs.length ∧ s.2.1 = i ∧ m = hs.length - i) (hs.length - 1) rfl ⟨1, by omega, by omega, rfl, rfl⟩ ?_
  rintro m ⟨out, s1, uu⟩ cc ⟨i, h0, h1, h2, h3⟩ hcc
  simp only at h2
  subst h2 h3
  simp only [Int.toNat_natCast]
  skip
  refine T_brD (fun hlt => ?_) (fun hge => ?_)
  · have hlt' : i < hs.length := by omega
    have hd_i : hd hs i = hs[i] := by unfold hd; rw [List.getD_eq_getElem?_getD, List.getElem?_eq_getElem hlt']; rfl
    have hlen := frS_len hs us k i h0
    have hnext : ∀ s', T B (R * vec 3 1 s' (ints (frS hs us k (i + 1)))) (cc (s', IntKind.wrap .i64 ((i : Int) + 1), ())) := by
      intro s'
      have := hcc (hs.length - (i + 1)) (s', IntKind.wrap .i64 ((i : Int) + 1), ()) (by omega) ⟨i + 1, by omega, by omega, w64 (by omega) (by omega), rfl⟩
      have e : (IntKind.wrap .i64 ((i : Int) + 1)).toNat = i + 1 := by rw [w64 (by omega) (by omega)]; omega
      simp only [e] at this
      exact this
    clear hcc
    rw [frS_succ _ _ _ h0, hd_i] at hnext
    by_cases hof : hs[i].1 = 1 ∧ hs[i].2.1 = k
    · rw [if_pos hof] at hnext
      refine T_lpX (fun _ s => R * vec 3 1 s.1 (ints (frS hs us k i ++ frC us i k s.2.1.toNat))) (fun m (s : Sl × Int × Unit) => ∃ j : Nat, (j : Int) ≤ cls k ∧ s.2.1 = j ∧ m = (cls k).toNat - j) (cls k).toNat (by simp [frC]) ⟨0, by omega, rfl, rfl⟩ ?_
      rintro m ⟨o2, s2, u2⟩ c2 ⟨j, g1, g2, g3⟩ hc2
      simp only at g2
      subst g2 g3
      simp only [Int.toNat_natCast]
      refine T_ixH (l := hs) hx.init (by omega) (by rw [Int.toNat_natCast]; exact hlt') fun y hy => ?_
      simp only [Int.toNat_natCast] at hy
      refine T_ldAt hy rfl ?_
      refine T_brE (fun _ => ?_) (fun h => absurd hof.1 h)
      refine T_ixH (l := hs) hx.init (by omega) (by rw [Int.toNat_natCast]; exact hlt') fun y2 hy2 => ?_
      simp only [Int.toNat_natCast] at hy2
      refine T_ldAt hy2 rfl ?_
      refine T_brE (fun _ => ?_) (fun h => absurd hof.2 h)
      refine ref06_Cells_c ?_
      (dsimp only [ref16_Free, ref16_Free_s0, ref16_Free_s1, ref16_Free_s2, ref16_Free_s3, ref16_Free_s4, ref16_Free_s5, ref16_Free_s6, ref16_Free_s7, ref16_Free_s8, ref16_Free_s9, ref16_Free_l10, ref16_Free_s11, ref16_Free_s12, ref16_Free_s13, ref16_Free_s14, ref16_Free_s15, ref16_Free_l16, ref16_Free_s17, ref16_Free_s18, ref16_Free_l19, ref16_Free_s20, ref16_Free_s21])
      refine T_brD (fun hj => ?_) (fun hj => ?_)
      · refine ref06_Words_c ?_
        have hm0 : 0 ≤ (j : Int) * clsW k := Int.mul_nonneg (by omega) (by omega)
        have hm1 : (j : Int) * clsW k ≤ 512 * 256 := Int.mul_le_mul (by omega) (by omega) (by omega) (by omega)
        rw [w64 (n := (j : Int) * clsW k) (by omega) (by omega), w64 (n := 512 * (i : Int)) (by omega) (by omega), w64 (n := 512 * (i : Int) + j * clsW k) (by omega) (by omega)]
        have hcl := frC_len us i k j
        have hnx2 : ∀ s', T B (R * vec 3 1 s' (ints (frS hs us k i ++ frC us i k (j + 1)))) (c2 (s', IntKind.wrap .i64 ((j : Int) + 1), ())) := by
          intro s'
          have := hc2 ((cls k).toNat - (j + 1)) (s', IntKind.wrap .i64 ((j : Int) + 1), ()) (by omega) ⟨j + 1, by omega, w64 (by omega) (by omega), rfl⟩
          have e : (IntKind.wrap .i64 ((j : Int) + 1)).toNat = j + 1 := by rw [w64 (by omega) (by omega)]; omega
          simp only [e] at this
          exact this
        clear hc2
        generalize hat : 512 * (i : Int) + j * clsW k = at_ at *
        have hfr : frC us i k (j + 1) = frC us i k j ++ (if at_ ∈ us then [] else [at_]) := by rw [← hat]; rfl
        rw [hfr] at hnx2
        refine T_lpX (fun _ _ => R * vec 3 1 o2 (ints (frS hs us k i ++ frC us i k j))) (fun m (s : Bool × Int × Unit) => ∃ q : Nat, q ≤ us.length ∧ s.2.1 = q ∧ m = us.length - q ∧ s.1 = decide (at_ ∈ us.take q)) us.length rfl ⟨0, by omega, rfl, rfl, by simp⟩ ?_
        rintro m ⟨is, s3, u3⟩ c3 ⟨q, f1, f2, f3, f4⟩ hc3
        simp only at f2 f4
        subst f2 f3
        dsimp only
        refine T_brD (fun hq => ?_) (fun hq => ?_)
        · have hq' : q < us.length := by omega
          have htk := List.take_succ_eq_append_getElem hq'
          have hnx3 : ∀ b, b = decide (at_ ∈ us.take (q + 1)) → T B (R * vec 3 1 o2 (ints (frS hs us k i ++ frC us i k j))) (c3 (b, IntKind.wrap .i64 ((q : Int) + 1), ())) := fun b hb =>
            hc3 (us.length - (q + 1)) (b, IntKind.wrap .i64 ((q : Int) + 1), ()) (by omega) ⟨q + 1, by omega, w64 (by omega) (by omega), rfl, hb⟩
          refine T_br (fun hb => ?_) (fun hb => ?_)
          · refine hnx3 true ?_
            rw [hb] at f4
            have := of_decide_eq_true f4.symm
            refine (decide_eq_true ?_).symm
            rw [htk]
            exact List.mem_append_left _ this
          · refine T_ixV hu.init (by omega) (n := us[q]) (by rw [Int.toNat_natCast]; exact ints_at hq') ?_
            refine hnx3 _ ?_
            rw [hb] at f4
            have := of_decide_eq_false f4.symm
            have ht : at_ ∈ us.take (q + 1) ↔ us[q] = at_ := by
              rw [htk, List.mem_append, List.mem_singleton]
              exact ⟨fun h => h.elim (fun h => absurd h this) Eq.symm, fun h => Or.inr h.symm⟩
            by_cases he : us[q] = at_
            · rw [decide_eq_true (ht.2 he)]; simpa using he
            · rw [decide_eq_false (fun h => he (ht.1 h))]; simpa using he
        · have hqe : q = us.length := by omega
          subst hqe
          rw [List.take_length] at f4
          subst f4
          by_cases hin : at_ ∈ us
          · rw [if_pos hin, List.append_nil] at hnx2
            rw [decide_eq_true hin]
            exact hnx2 o2
          · rw [if_neg hin] at hnx2
            rw [decide_eq_false hin]
            refine T_app1 (vs := ints (frS hs us k i ++ frC us i k j)) (new := [.int .i64 at_]) kd_int rfl rfl (by rw [ints_len, List.length_append]; omega) fun s' => ?_
            have := hnx2 s'
            rw [← List.append_assoc] at this
            have e : ints ((frS hs us k i ++ frC us i k j) ++ [at_]) = ints (frS hs us k i ++ frC us i k j) ++ [.int .i64 at_] := by simp [ints]
            rw [e] at this
            exact this
      · have : j = (cls k).toNat := by omega
        subst this
        exact hnext o2
    · rw [if_neg hof, List.append_nil] at hnext
      refine T_lpX (fun _ s => R * vec 3 1 s.1 (ints (frS hs us k i))) (fun m (s : Sl × Int × Unit) => s.2.1 = 0) 0 rfl rfl ?_
      rintro m ⟨o2, s2, u2⟩ c2 g2 hc2
      simp only at g2
      subst g2
      refine T_ixH (l := hs) hx.init (by omega) (by rw [Int.toNat_natCast]; exact hlt') fun y hy => ?_
      simp only [Int.toNat_natCast] at hy
      refine T_ldAt hy rfl ?_
      refine T_brE (fun e1 => ?_) (fun e1 => ?_)
      · refine T_ixH (l := hs) hx.init (by omega) (by rw [Int.toNat_natCast]; exact hlt') fun y2 hy2 => ?_
        simp only [Int.toNat_natCast] at hy2
        refine T_ldAt hy2 rfl ?_
        refine T_brE (fun e2 => absurd ⟨e1, e2⟩ hof) (fun e2 => ?_)
        exact hnext o2
      · exact hnext o2
  · have hi : i = hs.length := by omega
    subst hi
    exact hk out
end
end Go.Proofs.YtdgcbapclnnkkaaGreat.X
end
section
/- Contracts: how often there is room, as the document's answer has it. Conditions: at most 2^20 blocks. -/
set_option linter.unusedVariables false
set_option maxRecDepth 4000
set_option maxHeartbeats 1000000
namespace Go.Proofs.YtdgcbapclnnkkaaGreat.X
open Go
theorem nFree_succ (hs : List Hd) (b : Nat) : nFree hs (b + 1) = nFree hs b + (if 1 ≤ b ∧ (hd hs b).1 = 0 then 1 else 0) := by
  unfold nFree
  rw [List.range_succ, List.countP_append]
  by_cases h : 1 ≤ b ∧ (hd hs b).1 = 0
  · simp [h]
  · rw [if_neg h]
    have e : decide (1 ≤ b ∧ (hd hs b).1 = 0) = false := decide_eq_false h
    simp only [List.countP_cons, List.countP_nil, e]
    simp
theorem nFree_le (hs : List Hd) (b : Nat) : nFree hs b ≤ b := by
  unfold nFree
  have := List.countP_le_length (p := fun x => decide (1 ≤ x ∧ (hd hs x).1 = 0)) (l := List.range b)
  rwa [List.length_range] at this
theorem sumD_snoc (n : Int) : ∀ (l : List (Int × Int)) (p : Int × Int), sumD n (l ++ [p]) = sumD n l + p.2 / n := by
  intro l p
  induction l with
  | nil => simp [sumD]
  | cons q l ih => rw [List.cons_append]; simp only [sumD, ih]; omega
theorem sumD_bd {n M : Int} (hn : 1 ≤ n) (hM : 0 ≤ M) : ∀ {l : List (Int × Int)}, (∀ p ∈ l, 0 ≤ p.2 ∧ p.2 ≤ M) → 0 ≤ sumD n l ∧ sumD n l ≤ l.length * M := by
  intro l
  induction l with
  | nil => intro _; simp [sumD]
  | cons q l ih =>
    intro h
    obtain ⟨i1, i2⟩ := ih fun p hp => h p (List.mem_cons_of_mem _ hp)
    have hq := h q List.mem_cons_self
    have h1 := Int.ediv_nonneg hq.1 (show 0 ≤ n by omega)
    have h2 := Int.ediv_le_self n hq.1
    have e : ((q :: l).length : Int) * M = l.length * M + M := by rw [List.length_cons, Int.natCast_add, Int.add_mul]; simp
    simp only [sumD]
    omega
def refSm (hs : List Hd) (us : List Int) (k : Int) : Int := (frS hs us k hs.length).length + nFree hs hs.length * cls k
def refLg (hs : List Hd) (n : Int) : Int := if 1 ≤ n then sumD n (spS hs hs.length) else 0
def refOb (hs : List Hd) (us : List Int) (o : Ob) : Int := if oSize o = 0 ∨ oSize o > 512 * ((hs.length : Int) - 1) then 0 else if (kOf (oSize o)).2 = true then refSm hs us (kOf (oSize o)).1 else refLg hs ((oSize o + 511) / 512)
theorem mul_cls_le {n : Nat} {k : Int} (h : n ≤ 2 ^ 20) : 0 ≤ (n : Int) * cls k ∧ (n : Int) * cls k ≤ 2 ^ 20 * 512 := by
  have := cls_le k
  exact ⟨Int.mul_nonneg (by omega) (by omega), Int.mul_le_mul (by omega) (by omega) (by omega) (by omega)⟩
theorem refSm_rng (hs : List Hd) (us : List Int) (k : Int) (hl : 1 ≤ hs.length) (hl2 : hs.length ≤ 2 ^ 20) : 0 ≤ refSm hs us k ∧ refSm hs us k ≤ 2 ^ 31 := by
  have h1 := frS_len hs us k hs.length hl
  have h2 := nFree_le hs hs.length
  have h3 := mul_cls_le (n := nFree hs hs.length) (k := k) (by omega)
  unfold refSm
  omega
section
variable {B : World} {P R : SL} {t : K}
theorem ref29_Small_c {hs : List Hd} {x u : Sl} {us : List Int} {k : Int} (hk0 : 0 ≤ k ∧ k < 32) (hl : 1 ≤ hs.length) (hl2 : hs.length ≤ 2 ^ 20) (hul : us.length ≤ 2 ^ 40) (hx : Rd R x 3 (hds hs)) (hu : Rd R u 1 (ints us)) {kk : Int → K}
    (hk : T B R (kk (refSm hs us k))) : T B R (c_ref29_Small x u k kk) := by
  refine T_of (ref29_Small_ok x u k kk) ?_
  skip
  refine ref16_Free_c hk0 hl hl2 hul hx hu fun s => ?_
  refine T_rdlen hx.init fun hxn => ?_
  rw [hds_len] at hxn
  refine T_vlen .last fun hsn => ?_
  rw [ints_len, Nat.mul_one] at hsn
  refine T.weak ?_
  have hfl := frS_len hs us k hs.length hl
  rw [hsn]
  unfold refSm at hk
  generalize (frS hs us k hs.length).length = fl at *
  refine T_lpX (fun _ _ => R) (fun m (z : Int × Int × Unit) => ∃ b : Nat, 1 ≤ b ∧ b ≤ hs.length ∧ z.2.1 = b ∧ m = hs.length - b ∧ z.1 = fl + nFree hs b * cls k) (hs.length - 1) rfl ⟨1, by omega, by omega, rfl, rfl, by
    have : nFree hs 1 = 0 := by simp [nFree]
    rw [this]; simp⟩ ?_
  rintro m ⟨z, s1, uu⟩ cc ⟨b, h0, h1, h2, h3, h4⟩ hcc
  simp only at h2 h4
  subst h2 h3 h4
  dsimp only
  have hf := nFree_le hs b
  have hm := mul_cls_le (n := nFree hs b) (k := k) (by omega)
  skip
  refine T_brD (fun hlt => ?_) (fun hge => ?_)
  · have hlt' : b < hs.length := by omega
    have hd_i : hd hs b = hs[b] := by unfold hd; rw [List.getD_eq_getElem?_getD, List.getElem?_eq_getElem hlt']; rfl
    have hnx : ∀ n, n = fl + nFree hs (b + 1) * cls k → T B R (cc (n, IntKind.wrap .i64 ((b : Int) + 1), ())) := fun n hn =>
      hcc (hs.length - (b + 1)) (n, IntKind.wrap .i64 ((b : Int) + 1), ()) (by omega) ⟨b + 1, by omega, by omega, w64 (by omega) (by omega), rfl, hn⟩
    have hns := nFree_succ hs b
    refine T_ixH (l := hs) hx (by omega) (by rw [Int.toNat_natCast]; exact hlt') fun y hy => ?_
    simp only [Int.toNat_natCast] at hy
    refine T_ldAt hy rfl ?_
    have hcl := cls_le k
    refine T_brE (fun h => ?_) (fun h => ?_)
    · refine ref06_Cells_c ?_
      rw [hd_i, if_pos ⟨h0, h⟩] at hns
      refine hnx _ ?_
      rw [w64 (by omega) (by omega), hns, Int.natCast_add, Int.add_mul]
      simp only [Int.cast_ofNat_Int, Int.one_mul]
      omega
    · rw [hd_i, if_neg (fun h' => h h'.2)] at hns
      refine hnx _ ?_
      rw [hns]; simp
  · have : b = hs.length := by omega
    subst this
    exact hk
theorem ref29_Large_c {hs : List Hd} {x : Sl} {n : Int} (hl : 1 ≤ hs.length) (hl2 : hs.length ≤ 2 ^ 20) (hx : Rd R x 3 (hds hs)) {kk : Int → K} (hk : T B R (kk (refLg hs n))) : T B R (c_ref29_Large x n kk) := by
  refine T_of (ref29_Large_ok x n kk) ?_
  skip
  refine ref10_Spans_c hl hl2 hx fun s => ?_
  obtain ⟨r1, r2⟩ := spS_rng hs hs.length hl
  unfold refLg at hk
  generalize spS hs hs.length = l at *
  refine T_vlen .last fun hsn => ?_
  rw [prs_len] at hsn
  have hsn' : s.n = l.length := by omega
  have hps : 1 ≤ n → ∀ i, i ≤ l.length → 0 ≤ sumD n (l.take i) ∧ sumD n (l.take i) ≤ 2 ^ 40 := by
    intro hn i hi
    have h1 := sumD_bd (n := n) (M := 2 ^ 20) (l := l.take i) hn (by omega) fun p hp => by have := r2 p (List.mem_of_mem_take hp); omega
    have h2 : ((l.take i).length : Int) ≤ 2 ^ 20 := by rw [List.length_take]; omega
    have h3 : ((l.take i).length : Int) * 2 ^ 20 ≤ 2 ^ 20 * 2 ^ 20 := Int.mul_le_mul h2 (by omega) (by omega) (by omega)
    omega
  refine T_lpX (fun _ _ => R * vec 149 2 s (prs l)) (fun mm (z : Int × Int × Unit) => ∃ i : Nat, z.2.1 = i ∧ i ≤ l.length ∧ mm = l.length - i ∧ z.1 = if 1 ≤ n then sumD n (l.take i) else 0) l.length rfl ⟨0, rfl, by omega, rfl, by simp [sumD]⟩ ?_
  rintro mm ⟨z, i', uu⟩ c ⟨i, e1, e2, e3, e4⟩ hcc
  simp only at e1 e4
  subst e1 e3 e4
  dsimp only
  skip
  by_cases hn : 1 ≤ n
  · rw [if_pos hn] at hk ⊢
    simp only [if_pos hn] at hcc
    refine T_brD (fun hlt => ?_) (fun hge => ?_)
    · have hlt : i < l.length := by omega
      refine T_brD (fun _ => ?_) (fun h => absurd (show n > 0 by omega) h)
      refine T_ixP (l := l) (Rd.vec .last) (by omega) (by rw [Int.toNat_natCast]; exact hlt) fun y hy => ?_
      simp only [Int.toNat_natCast] at hy
      refine T_ldAt hy rfl ?_
      refine T_nz (by omega) ?_
      have hp := r2 l[i] (List.getElem_mem hlt)
      have h1 := hps hn (i + 1) (by omega)
      have h0 := hps hn i e2
      rw [List.take_succ_eq_append_getElem hlt, sumD_snoc] at h1
      have hq := Int.ediv_nonneg (show 0 ≤ l[i].2 by omega) (show (0 : Int) ≤ n by omega)
      have e5 : IntKind.wrap .i64 (sumD n (l.take i) + IntKind.wrap .i64 (Int.tdiv l[i].2 n)) = sumD n (l.take (i + 1)) := by
        rw [Int.tdiv_eq_ediv_of_nonneg (by omega), w64 (n := l[i].2 / n) (by omega) (by omega), w64 (by omega) (by omega), List.take_succ_eq_append_getElem hlt, sumD_snoc]
      (dsimp only [ref29_Large, ref29_Large_s0, ref29_Large_s1, ref29_Large_s2, ref29_Large_s3, ref29_Large_s4, ref29_Large_l5, ref29_Large_s6, ref29_Large_s7, ref29_Large_s8])
      rw [e5]
      exact hcc (l.length - (i + 1)) (sumD n (l.take (i + 1)), IntKind.wrap .i64 ((i : Int) + 1), ()) (by omega) ⟨i + 1, w64 (by omega) (by omega), by omega, rfl, rfl⟩
    · have : i = l.length := by omega
      subst this
      rw [List.take_length]
      exact T.weak hk
  · rw [if_neg hn] at hk ⊢
    refine T_brD (fun hlt => ?_) (fun hge => ?_)
    · refine T_brD (fun h => absurd h (by omega)) (fun _ => ?_)
      exact T.weak hk
    · exact T.weak hk
theorem ref29_Object_c {hs : List Hd} {x u : Sl} {us : List Int} {o : Ob} (hl : 1 ≤ hs.length) (hl2 : hs.length ≤ 2 ^ 20) (hul : us.length ≤ 2 ^ 40) (hx : Rd R x 3 (hds hs)) (hu : Rd R u 1 (ints us)) {kk : Int → K}
    (hk : T B R (kk (refOb hs us o))) : T B R (c_ref29_Object x u o kk) := by
  refine T_of (ref29_Object_ok x u o kk) ?_
  refine T_rdlen hx fun hxn => ?_
  rw [hds_len] at hxn
  have hr := oSize_rng o
  have h2 : (kOf (oSize o)).2 = true → 0 ≤ (kOf (oSize o)).1 ∧ (kOf (oSize o)).1 < 32 := by
    intro h
    rcases kOf_cases o (fun h0 => by rw [h0] at h; simp [kOf] at h) with ⟨k, h1, h2, _⟩ | ⟨h1, _⟩
    · rw [h2]; simp only; omega
    · rw [h1] at h; cases h
  unfold refOb at hk
  (repeat (first | ((with_reducible apply T_ldI); (focus rfl); (focus exact hasA); (focus rfl)) | (with_reducible refine T_al ?_; intro _)))
  refine ref08_Size_c ?_
  rw [show ((o.1, o.2) : Ob) = o from rfl]
  have rest : oSize o ≠ 0 → oSize o ≤ 512 * ((hs.length : Int) - 1) → ∀ b, T B (R * pt b (.cells [.int .i64 o.1, .int .i64 o.2].toArray 74)) (ref29_Object_s6 x u kk ⟨b, 0, none⟩) := by
    intro hz hb b
    rw [if_neg (by omega)] at hk
    (repeat (((with_reducible apply T_ldI); (focus rfl); (focus exact hasA); (focus rfl))))
    refine ref08_Class_c ?_
    rw [show ((o.1, o.2) : Ob) = o from rfl]
    unfold kC
    by_cases h : (kOf (oSize o)).2 = true
    · rw [if_pos h] at hk ⊢
      refine T_brD (fun _ => ?_) (fun h' => absurd (h2 h).1 h')
      exact ref29_Small_c (h2 h) hl hl2 hul hx.init hu.init (T.weak hk)
    · rw [if_neg h] at hk ⊢
      refine T_brD (fun h' => absurd h' (by omega)) (fun _ => ?_)
      (repeat (((with_reducible apply T_ldI); (focus rfl); (focus exact hasA); (focus rfl))))
      refine ref08_Blocks_c ?_ hz
      rw [show ((o.1, o.2) : Ob) = o from rfl, if_neg h]
      exact ref29_Large_c hl hl2 hx.init (T.weak hk)
  refine T_brE (fun hz => ?_) (fun hz => ?_)
  · rw [if_pos (Or.inl hz)] at hk
    exact T.weak hk
  · (repeat (((with_reducible apply T_ldI); (focus rfl); (focus exact hasA); (focus rfl))))
    refine ref08_Size_c ?_
    rw [show ((o.1, o.2) : Ob) = o from rfl, w64 (n := ((x.n : Nat) : Int) - 1) (by omega) (by omega), w64 (by omega) (by omega)]
    refine T_brD (fun hb => ?_) (fun hb => ?_)
    · rw [if_pos (Or.inr (by omega))] at hk
      exact T.weak hk
    · exact rest hz (by omega) _
end
end Go.Proofs.YtdgcbapclnnkkaaGreat.X
end
section
/- Contracts: the most words, the greatest object: the program's and the document's answer. Conditions: at most 2^20 blocks. -/
set_option linter.unusedVariables false
set_option maxRecDepth 4000
set_option maxHeartbeats 1000000
namespace Go.Proofs.YtdgcbapclnnkkaaGreat.X
open Go
/-- the most, and the least that has it, among some -/
def Bst (w : Nat → Int) (lo hi : Nat) (n r : Int) : Prop := (∀ j, lo ≤ j → j < hi → w j ≤ n) ∧ ((n = 0 ∧ r = 0) ∨ ∃ x : Nat, r = x ∧ lo ≤ x ∧ x < hi ∧ w x = n ∧ 0 < n ∧ ∀ j, lo ≤ j → j < x → w j < n)
theorem Bst.nn {w : Nat → Int} {lo hi : Nat} {n r : Int} (h : Bst w lo hi n r) : 0 ≤ n := by
  rcases h.2 with h | ⟨x, _, _, _, _, h, _⟩ <;> omega
theorem Bst.uniq {w : Nat → Int} {lo hi : Nat} {n r n' r' : Int} (h : Bst w lo hi n r) (h' : Bst w lo hi n' r') : n = n' ∧ r = r' := by
  obtain ⟨a, b⟩ := h
  obtain ⟨a', b'⟩ := h'
  rcases b with ⟨b1, b2⟩ | ⟨x, b1, b2, b3, b4, b5, b6⟩ <;> rcases b' with ⟨c1, c2⟩ | ⟨y, c1, c2, c3, c4, c5, c6⟩
  · omega
  · have := a y c2 c3; omega
  · have := a' x b2 b3; omega
  · have h1 := a y c2 c3
    have h2 := a' x b2 b3
    have hn : n = n' := by omega
    refine ⟨hn, ?_⟩
    have h3 : ¬ x < y := fun h => by have := c6 x b2 h; omega
    have h4 : ¬ y < x := fun h => by have := b6 y c2 h; omega
    omega
theorem Bst.nil {w : Nat → Int} {lo : Nat} : Bst w lo lo 0 0 := ⟨fun j h1 h2 => by omega, Or.inl ⟨rfl, rfl⟩⟩
theorem Bst.up {w : Nat → Int} {k : Nat} {n r : Int} (h : Bst w 0 k n r) : (w k > n → Bst w 0 (k + 1) (w k) k) ∧ (¬ w k > n → Bst w 0 (k + 1) n r) := by
  have hn := h.nn
  obtain ⟨a, b⟩ := h
  refine ⟨fun hg => ⟨fun j h1 h2 => ?_, Or.inr ⟨k, rfl, by omega, by omega, rfl, by omega, fun j h1 h2 => ?_⟩⟩, fun hg => ⟨fun j h1 h2 => ?_, ?_⟩⟩
  · by_cases hj : j < k
    · have := a j h1 hj; omega
    · have : j = k := by omega
      subst this; omega
  · have := a j h1 h2; omega
  · by_cases hj : j < k
    · exact a j h1 hj
    · have : j = k := by omega
      subst this; omega
  · rcases b with b | ⟨x, b1, b2, b3, b4⟩
    · exact Or.inl b
    · exact Or.inr ⟨x, b1, b2, by omega, b4⟩
theorem Bst.down {w : Nat → Int} {k hi : Nat} {n r : Int} (h : Bst w (k + 1) hi n r) (hk : k < hi) : (w k > 0 → w k ≥ n → Bst w k hi (w k) k) ∧ (¬ (w k > 0 ∧ w k ≥ n) → Bst w k hi n r) := by
  have hn := h.nn
  obtain ⟨a, b⟩ := h
  refine ⟨fun h0 hg => ⟨fun j h1 h2 => ?_, Or.inr ⟨k, rfl, by omega, hk, rfl, h0, fun j h1 h2 => by omega⟩⟩, fun hg => ⟨fun j h1 h2 => ?_, ?_⟩⟩
  · by_cases hj : k + 1 ≤ j
    · have := a j hj h2; omega
    · have : j = k := by omega
      subst this; omega
  · by_cases hj : k + 1 ≤ j
    · exact a j hj h2
    · have : j = k := by omega
      subst this; omega
  · rcases b with b | ⟨x, b1, b2, b3, b4, b5, b6⟩
    · exact Or.inl b
    · refine Or.inr ⟨x, b1, by omega, b3, b4, b5, fun j h1 h2 => ?_⟩
      by_cases hj : k + 1 ≤ j
      · exact b6 j hj h2
      · have : j = k := by omega
        subst this; omega
/-- the greatest class that has a cell -/
def GW (e : Nat → Bool) (r : Int) : Prop := ((∀ j, j < 32 → e j = false) ∧ r = 0) ∨ ∃ x : Nat, x < 32 ∧ e x = true ∧ (∀ j, x < j → j < 32 → e j = false) ∧ r = clsW x
theorem GW.uniq {e : Nat → Bool} {r r' : Int} (h : GW e r) (h' : GW e r') : r = r' := by
  rcases h with ⟨a, b⟩ | ⟨x, a, b, c, d⟩ <;> rcases h' with ⟨a', b'⟩ | ⟨y, a', b', c', d'⟩
  · omega
  · have := a y a'; rw [this] at b'; cases b'
  · have := a' x a; rw [this] at b; cases b
  · have h1 : ¬ x < y := fun h => by rw [c y h a'] at b'; cases b'
    have h2 : ¬ y < x := fun h => by rw [c' x h a] at b; cases b
    have : x = y := by omega
    subst this; omega
def wP (g : Nat) (s : St) (k : Nat) : Int := ((accL s.L k 4).length + (nFree s.hs g : Int) * cn k) * clsW k
def eP (s : St) (k : Nat) : Bool := decide (0 < (accL s.L k 4).length)
def wR (hs : List Hd) (us : List Int) (k : Nat) : Int := refSm hs us k * clsW k
def eR (hs : List Hd) (us : List Int) (k : Nat) : Bool := decide (0 < (frS hs us k hs.length).length)
section
variable {B : World} {P R : SL} {t : K}
theorem predict_Words_c {a d g : Nat} {s : St} (inv : Inv g s.hs s.U s.L) {kk : Int × Int → K} (hk : ∀ n r, Bst (wP g s) 0 32 n r → T B (R * Al a d g s) (kk (n, r))) : T B (R * Al a d g s) (c_predict_Words (da a) kk) := by
  refine T_of (predict_Words_ok _ kk) ?_
  refine Al_tie fun tie => ?_
  refine T_lpX (fun _ _ => R * Al a d g s) (fun m (z : Int × Int × Int × Unit) => ∃ k : Nat, k ≤ 32 ∧ z.2.2.1 = k ∧ m = 32 - k ∧ Bst (wP g s) 0 k z.1 z.2.1) 32 rfl ⟨0, by omega, rfl, rfl, Bst.nil⟩ ?_
  rintro m ⟨n, r, k', uu⟩ c ⟨k, h1, h2, h3, h4⟩ hc
  simp only at h2 h4
  subst h2 h3
  dsimp only
  skip
  refine T_brD (fun hlt => ?_) (fun hge => ?_)
  · have hk2 : k < 32 := by omega
    refine predict_Small_c inv hk2 fun sn hcv => ?_
    refine class_Words_c ?_
    have hs := sumI_free tie hcv
    have hb := cells_bound inv hk2
    have hg := inv.big
    obtain ⟨t1, t2, t3, t4, t5, t6, t7, t8⟩ := cls_tab k hk2
    have hm : (g - 1) * cn k ≤ 2 ^ 20 * 256 := Nat.mul_le_mul (by omega) t7
    have e1 : valS s.L k sn * clsW k = wP g s k := by unfold valS wP; rw [hs]
    have e0 : 0 ≤ valS s.L k sn ∧ valS s.L k sn ≤ 2 ^ 28 := by
      have : sumI sn * (cn k : Int) = ((nFree s.hs g * cn k : Nat) : Int) := by rw [hs]; simp
      unfold valS
      omega
    have hp := clsW_pos (c := k) (by omega)
    have e2 : 0 ≤ valS s.L k sn * clsW k ∧ valS s.L k sn * clsW k ≤ 2 ^ 28 * 256 := ⟨Int.mul_nonneg (by omega) (by omega), Int.mul_le_mul (by omega) (by omega) (by omega) (by omega)⟩
    rw [w64 (by omega) (by omega), e1]
    obtain ⟨u1, u2⟩ := h4.up
    refine T_brD (fun hgt => ?_) (fun hgt => ?_)
    · exact hc (32 - (k + 1)) (wP g s k, k, IntKind.wrap .i64 ((k : Int) + 1), ()) (by omega) ⟨k + 1, by omega, w64 (by omega) (by omega), rfl, u1 hgt⟩
    · exact hc (32 - (k + 1)) (n, r, IntKind.wrap .i64 ((k : Int) + 1), ()) (by omega) ⟨k + 1, by omega, w64 (by omega) (by omega), rfl, u2 hgt⟩
  · have : k = 32 := by omega
    subst this
    exact hk n r h4
theorem ref29_Words_c {hs : List Hd} {x u : Sl} {us : List Int} (hl : 1 ≤ hs.length) (hl2 : hs.length ≤ 2 ^ 20) (hul : us.length ≤ 2 ^ 40) (hx : Rd R x 3 (hds hs)) (hu : Rd R u 1 (ints us)) {kk : Int × Int → K}
    (hk : ∀ n r, Bst (wR hs us) 0 32 n r → T B R (kk (n, r))) : T B R (c_ref29_Words x u kk) := by
  refine T_of (ref29_Words_ok x u kk) ?_
  refine T_lpX (fun _ _ => R) (fun m (z : Int × Int × Int × Unit) => ∃ k : Nat, k ≤ 32 ∧ z.2.2.1 = (k : Int) - 1 ∧ k = m ∧ Bst (wR hs us) k 32 z.1 z.2.1) 32 rfl ⟨32, by omega, rfl, rfl, Bst.nil⟩ ?_
  rintro m ⟨n, r, k', uu⟩ c ⟨k, h1, h2, h3, h4⟩ hc
  simp only at h2 h4
  subst h2 h3
  dsimp only
  skip
  refine T_brD (fun hlt => ?_) (fun hge => ?_)
  · obtain ⟨q, rfl⟩ : ∃ q, k = q + 1 := ⟨k - 1, by omega⟩
    have eq : ((q + 1 : Nat) : Int) - 1 = q := by omega
    rw [eq]
    refine ref29_Small_c (by omega) hl hl2 hul hx hu ?_
    refine ref06_Words_c ?_
    have hp := clsW_pos (c := q) (by omega)
    have e0 := refSm_rng hs us q hl hl2
    have e2 : 0 ≤ refSm hs us q * clsW q ∧ refSm hs us q * clsW q ≤ 2 ^ 31 * 256 := ⟨Int.mul_nonneg (by omega) (by omega), Int.mul_le_mul (by omega) (by omega) (by omega) (by omega)⟩
    rw [w64 (by omega) (by omega), show refSm hs us q * clsW q = wR hs us q from rfl]
    obtain ⟨u1, u2⟩ := h4.down (by omega)
    have nx : ∀ n r, Bst (wR hs us) q 32 n r → T B R (c (n, r, IntKind.wrap .i64 ((q : Int) - 1), ())) := fun n r hb =>
      hc q (n, r, IntKind.wrap .i64 ((q : Int) - 1), ()) (by omega) ⟨q, by omega, w64 (by omega) (by omega), rfl, hb⟩
    refine T_brD (fun hgt => ?_) (fun hgt => ?_)
    · refine T_brD (fun hge => ?_) (fun hge => ?_)
      · exact nx _ _ (u1 hgt hge)
      · exact nx _ _ (u2 (fun h => hge h.2))
    · exact nx _ _ (u2 (fun h => hgt h.1))
  · have : k = 0 := by omega
    subst this
    exact hk n r h4
end
end Go.Proofs.YtdgcbapclnnkkaaGreat.X
end
section
/- Contracts: the greatest object that can be made: the program's and the document's answer. Conditions: at most 2^20 blocks. -/
set_option linter.unusedVariables false
set_option maxRecDepth 4000
set_option maxHeartbeats 1000000
namespace Go.Proofs.YtdgcbapclnnkkaaGreat.X
open Go
theorem maxI_nn : ∀ l : List (Int × Int), 0 ≤ maxI l
  | [] => Int.le_refl _
  | p :: l => by have := maxI_nn l; simp only [maxI]; omega
theorem maxI_le {M : Int} (h0 : 0 ≤ M) : ∀ {l : List (Int × Int)}, (∀ p ∈ l, p.2 ≤ M) → maxI l ≤ M
  | [], _ => h0
  | p :: l, h => by
    have h1 := maxI_le h0 (l := l) fun q hq => h q (List.mem_cons_of_mem _ hq)
    have h2 := h p List.mem_cons_self
    simp only [maxI]; omega
theorem maxI_snoc : ∀ (l : List (Int × Int)) (p : Int × Int), maxI (l ++ [p]) = max (maxI l) p.2
  | [], p => by simp [maxI]
  | q :: l, p => by rw [List.cons_append]; simp only [maxI, maxI_snoc l p]; omega
theorem maxI_perm {l l' : List (Int × Int)} (h : l.Perm l') : maxI l = maxI l' := by
  induction h with
  | nil => rfl
  | cons x _ ih => simp only [maxI, ih]
  | swap x y l => simp only [maxI]; omega
  | trans _ _ i1 i2 => exact i1.trans i2
theorem min2I_eq (x y : Int) : min2I x y = min x y := by unfold min2I; split <;> omega
theorem max2I_eq (x y : Int) : max2I x y = max x y := by unfold max2I; split <;> omega
def GWn (e : Nat → Bool) (hi : Nat) (r : Int) : Prop := ((∀ j, j < hi → e j = false) ∧ r = 0) ∨ ∃ x : Nat, x < hi ∧ e x = true ∧ (∀ j, x < j → j < hi → e j = false) ∧ r = clsW x
section
variable {B : World} {P R : SL} {t : K}
theorem predict_Greatest_c {a d g : Nat} {s : St} (inv : Inv g s.hs s.U s.L) {kk : Int → K}
    (hk : ∀ sn r, Cov s.F sn → ((0 < maxI sn ∧ r = min (512 * maxI sn) 16448) ∨ (maxI sn ≤ 0 ∧ GW (eP s) r)) → T B (R * Al a d g s) (kk r)) : T B (R * Al a d g s) (c_predict_Greatest (da a) kk) := by
  refine T_of (predict_Greatest_ok _ kk) ?_
  refine Al_tie fun tie => ?_
  have hB := tie.big
  refine Al_open fun m u f => ?_
  unfold da
  (repeat (first | with_reducible refine T_nn ?_ | ((with_reducible apply T_ldP); (focus rfl); (focus exact hasA); (focus rfl))))
  refine T_bring (X := Mg m d g s.hs s.F) (by exact frmA) ?_
  refine bman_Longest_c fun sn hc => ?_
  have rest : T B (R * Al a d g s) (predict_Greatest_s10 (da a) kk (maxI sn)) := by
    have h0 := maxI_nn sn
    have h1 : maxI sn ≤ 2 ^ 20 := maxI_le (by omega) fun p hp => by
      have := tie.ok.rng _ _ ((hc.2 p.1 p.2).2 hp)
      omega
    refine T_brD (fun hg => ?_) (fun hg => ?_)
    · rw [w64 (by omega) (by omega), min2I_eq]
      exact hk sn _ hc (Or.inl ⟨by omega, by omega⟩)
    · refine T_lpX (fun _ _ => R * Al a d g s) (fun m (z : Int × Unit) => ∃ k : Nat, k ≤ 32 ∧ z.1 = (k : Int) - 1 ∧ k = m ∧ ∀ j, k ≤ j → j < 32 → eP s j = false) 32 rfl ⟨32, by omega, rfl, rfl, fun j h1 h2 => by omega⟩ ?_
      rintro m ⟨k', uu⟩ c ⟨k, g1, g2, g3, g4⟩ hcc
      simp only at g2
      subst g2 g3
      dsimp only
      skip
      refine T_brD (fun hlt => ?_) (fun hge => ?_)
      · obtain ⟨q, rfl⟩ : ∃ q, k = q + 1 := ⟨k - 1, by omega⟩
        have eq : ((q + 1 : Nat) : Int) - 1 = q := by omega
        rw [eq]
        refine FreeCells_c inv (by omega) fun sl => ?_
        have hsl : (sortI (accL s.L q 4)).length = (accL s.L q 4).length := List.length_mergeSort _
        refine T_vlen .last fun hn => ?_
        rw [ints_len, Nat.mul_one, hsl] at hn
        refine T.weak ?_
        refine T_brD (fun hp => ?_) (fun hp => ?_)
        · refine class_Words_c ?_
          exact hk sn _ hc (Or.inr ⟨by omega, Or.inr ⟨q, by omega, by unfold eP; exact decide_eq_true (by omega), fun j h1 h2 => g4 j (by omega) h2, rfl⟩⟩)
        · refine hcc q _ (by omega) ⟨q, by omega, w64 (by omega) (by omega), rfl, fun j h1 h2 => ?_⟩
          by_cases hj : q + 1 ≤ j
          · exact g4 j hj h2
          · have : j = q := by omega
            subst this
            unfold eP; exact decide_eq_false (by omega)
      · have : k = 0 := by omega
        subst this
        exact hk sn _ hc (Or.inr ⟨by omega, Or.inl ⟨fun j hj => g4 j (by omega) hj, rfl⟩⟩)
  have h2 := Al_close (m := m) (u := u) (f := f) rest
  exact T.perm (by unfold da; ac_rfl) h2
theorem ref29_Greatest_c {hs : List Hd} {x u : Sl} {us : List Int} (hl : 1 ≤ hs.length) (hl2 : hs.length ≤ 2 ^ 20) (hul : us.length ≤ 2 ^ 40) (hx : Rd R x 3 (hds hs)) (hu : Rd R u 1 (ints us)) {kk : Int → K}
    (hk : ∀ r, (spS hs hs.length ≠ [] ∧ r = min (512 * maxI (spS hs hs.length)) 16448) ∨ (spS hs hs.length = [] ∧ GW (eR hs us) r) → T B R (kk r)) : T B R (c_ref29_Greatest x u kk) := by
  refine T_of (ref29_Greatest_ok x u kk) ?_
  skip
  refine ref10_Spans_c hl hl2 hx fun s => ?_
  obtain ⟨r1, r2⟩ := spS_rng hs hs.length hl
  generalize spS hs hs.length = l at *
  refine T_vlen .last fun hsn => ?_
  rw [prs_len] at hsn
  have hsn' : s.n = l.length := by omega
  have second : ∀ best, best = min (512 * maxI l) 16448 → T B (R * vec 149 2 s (prs l)) (ref29_Greatest_s9 x u kk s best) := by
    intro best hb
    by_cases hnil : l = []
    · refine T_lpX (fun _ _ => R * vec 149 2 s (prs l)) (fun m (z : Int × Int × Unit) => ∃ k : Nat, k ≤ 32 ∧ z.2.1 = k ∧ m = 32 - k ∧ GWn (eR hs us) k z.1) 32 rfl ⟨0, by omega, rfl, rfl, Or.inl ⟨fun j hj => by omega, by rw [hb, hnil]; decide⟩⟩ ?_
      rintro m ⟨best', k', uu⟩ c ⟨k, g1, g2, g3, g4⟩ hcc
      simp only at g2 g4
      subst g2 g3
      dsimp only
      skip
      refine T_brD (fun hlt => ?_) (fun hge => ?_)
      · refine T_brE (fun _ => ?_) (fun h => absurd (show ((s.n : Nat) : Int) = 0 by rw [hsn', hnil]; rfl) h)
        have hk2 : k < 32 := by omega
        refine ref16_Free_c (by omega) hl hl2 hul hx.init hu.init fun sl => ?_
        refine T_vlen .last fun hn => ?_
        rw [ints_len, Nat.mul_one] at hn
        refine T.weak ?_
        have nx : ∀ r, GWn (eR hs us) (k + 1) r → T B (R * vec 149 2 s (prs l)) (c (r, IntKind.wrap .i64 ((k : Int) + 1), ())) := fun r hr =>
          hcc (32 - (k + 1)) (r, IntKind.wrap .i64 ((k : Int) + 1), ()) (by omega) ⟨k + 1, by omega, w64 (by omega) (by omega), rfl, hr⟩
        refine T_brD (fun hp => ?_) (fun hp => ?_)
        · refine ref06_Words_c ?_
          exact nx _ (Or.inr ⟨k, by omega, by unfold eR; exact decide_eq_true (by omega), fun j h1 h2 => by omega, rfl⟩)
        · have he : eR hs us k = false := by unfold eR; exact decide_eq_false (by omega)
          have hj : ∀ j, j < k + 1 → ¬ j < k → j = k := fun j h1 h2 => by omega
          refine nx _ ?_
          rcases g4 with ⟨a, b⟩ | ⟨y, a, b, c', d⟩
          · refine Or.inl ⟨fun j h1 => ?_, b⟩
            by_cases h : j < k
            · exact a j h
            · rw [hj j h1 h]; exact he
          · refine Or.inr ⟨y, by omega, b, fun j h1 h2 => ?_, d⟩
            by_cases h : j < k
            · exact c' j h1 h
            · rw [hj j h2 h]; exact he
      · have : k = 32 := by omega
        subst this
        exact T.weak (hk _ (Or.inr ⟨hnil, g4⟩))
    · have hpos : 0 < l.length := List.length_pos_iff.2 hnil
      refine T_lpX (fun _ _ => R * vec 149 2 s (prs l)) (fun m (z : Int × Int × Unit) => z.1 = best ∧ z.2.1 = 0) 0 rfl ⟨rfl, rfl⟩ ?_
      rintro m ⟨best', k', uu⟩ c ⟨g1, g2⟩ hcc
      simp only at g1 g2
      subst g1 g2
      dsimp only
      refine T_brD (fun _ => ?_) (fun h => absurd (show (0 : Int) < 32 by omega) h)
      refine T_brE (fun h => absurd h (by omega)) (fun _ => ?_)
      exact T.weak (hk _ (Or.inl ⟨hnil, hb⟩))
  refine T_lpX (fun _ _ => R * vec 149 2 s (prs l)) (fun mm (z : Int × Int × Unit) => ∃ i : Nat, z.2.1 = i ∧ i ≤ l.length ∧ mm = l.length - i ∧ z.1 = min (512 * maxI (l.take i)) 16448) l.length rfl ⟨0, rfl, by omega, rfl, by simp only [List.take_zero, maxI]; omega⟩ ?_
  rintro mm ⟨z, i', uu⟩ c ⟨i, e1, e2, e3, e4⟩ hcc
  simp only at e1 e4
  subst e1 e3 e4
  dsimp only
  skip
  refine T_brD (fun hlt => ?_) (fun hge => ?_)
  · have hlt : i < l.length := by omega
    refine T_ixP (l := l) (Rd.vec .last) (by omega) (by rw [Int.toNat_natCast]; exact hlt) fun y hy => ?_
    simp only [Int.toNat_natCast] at hy
    refine T_ldAt hy rfl ?_
    have hp := r2 l[i] (List.getElem_mem hlt)
    have e5 : max2I (min (512 * maxI (l.take i)) 16448) (min2I (IntKind.wrap .i64 (512 * l[i].2)) 16448) = min (512 * maxI (l.take (i + 1))) 16448 := by
      rw [w64 (by omega) (by omega), min2I_eq, max2I_eq, List.take_succ_eq_append_getElem hlt, maxI_snoc]
      omega
    (dsimp only [ref29_Greatest, ref29_Greatest_s0, ref29_Greatest_s1, ref29_Greatest_s2, ref29_Greatest_s3, ref29_Greatest_s4, ref29_Greatest_s5, ref29_Greatest_s6, ref29_Greatest_l7, ref29_Greatest_s8, ref29_Greatest_s9, ref29_Greatest_s10, ref29_Greatest_s11, ref29_Greatest_s12, ref29_Greatest_l13, ref29_Greatest_s14, ref29_Greatest_s15, ref29_Greatest_s16])
    rw [e5]
    exact hcc (l.length - (i + 1)) (min (512 * maxI (l.take (i + 1))) 16448, IntKind.wrap .i64 ((i : Int) + 1), ()) (by omega) ⟨i + 1, w64 (by omega) (by omega), by omega, rfl, rfl⟩
  · have : i = l.length := by omega
    subst this
    exact second _ (by rw [List.take_length])
end
end Go.Proofs.YtdgcbapclnnkkaaGreat.X
end
section
/- Plain laws: spans of free blocks are the index's runs; the document's free cells are the lists'. Conditions: the allocator's invariant. -/
set_option linter.unusedVariables false
set_option maxRecDepth 4000
set_option maxHeartbeats 1000000
namespace Go.Proofs.YtdgcbapclnnkkaaGreat.X
open Go
structure SpI (hs : List Hd) (n : Nat) (o : List (Int × Int)) : Prop where
  pw : o.Pairwise fun p q => p.1 + p.2 < q.1
  el : ∀ p ∈ o, 1 ≤ p.1 ∧ 1 ≤ p.2 ∧ p.1 + p.2 ≤ n ∧ (∀ x : Nat, p.1 ≤ x → (x : Int) < p.1 + p.2 → (hd hs x).1 = 0) ∧ ∀ x : Nat, (x : Int) = p.1 + p.2 → x < n → (hd hs x).1 ≠ 0
  cov : ∀ x : Nat, 1 ≤ x → x < n → (hd hs x).1 = 0 → ∃ p ∈ o, p.1 ≤ x ∧ (x : Int) < p.1 + p.2
theorem SpI.step {hs : List Hd} {n : Nat} {o : List (Int × Int)} (hn : 1 ≤ n) (h : SpI hs n o) : SpI hs (n + 1) (spStep o n (hd hs n)) := by
  obtain ⟨pw, el, cov⟩ := h
  unfold spStep
  by_cases hz : (hd hs n).1 = 0
  · rw [if_neg (by omega)]
    rcases List.eq_nil_or_concat o with rfl | ⟨o0, p, rfl⟩
    · rw [if_neg (by simp)]
      refine ⟨by simp, fun q hq => ?_, fun x h1 h2 h3 => ?_⟩
      · simp only [List.nil_append, List.mem_singleton] at hq
        subst hq
        refine ⟨by simp only; omega, by simp, by simp only; omega, fun x h1 h2 => ?_, fun x h1 h2 => ?_⟩
        · simp only at h1 h2
          have : x = n := by omega
          subst this; exact hz
        · simp only at h1; omega
      · by_cases hx : x < n
        · obtain ⟨p, hp, _⟩ := cov x h1 hx h3
          cases hp
        · exact ⟨((n : Int), 1), by simp, by simp only; omega, by simp only; omega⟩
    · rw [List.concat_eq_append] at *
      have hl : (o0 ++ [p]).length - 1 = o0.length := by simp
      have hg : (o0 ++ [p]).getD o0.length (0, 0) = p := by simp
      rw [hl, hg]
      obtain ⟨pw1, _, pw2⟩ := List.pairwise_append.1 pw
      have hpw : ∀ q ∈ o0, q.1 + q.2 < p.1 := fun q hq => pw2 q hq p (by simp)
      obtain ⟨p1, p2, p3, p4, p5⟩ := el p (by simp)
      by_cases hc : 0 < (o0 ++ [p]).length ∧ p.1 + p.2 = n
      · rw [if_pos hc]
        have hs' : (o0 ++ [p]).set o0.length (p.1, p.2 + 1) = o0 ++ [(p.1, p.2 + 1)] := by
          rw [List.set_append_right _ _ (Nat.le_refl _)]; simp
        rw [hs']
        have hc2 := hc.2
        refine ⟨List.pairwise_append.2 ⟨pw1, by simp, fun q hq r hr => ?_⟩, fun q hq => ?_, fun x h1 h2 h3 => ?_⟩
        · simp only [List.mem_singleton] at hr
          subst hr
          exact hpw q hq
        · rcases List.mem_append.1 hq with hq | hq
          · obtain ⟨e1, e2, e3, e4, e5⟩ := el q (by simp [hq])
            have := hpw q hq
            exact ⟨e1, e2, by omega, e4, fun x h1 h2 => e5 x h1 (by omega)⟩
          · simp only [List.mem_singleton] at hq
            subst hq
            refine ⟨p1, by simp only; omega, by simp only; omega, fun x h1 h2 => ?_, fun x h1 h2 => ?_⟩
            · simp only at h1 h2
              by_cases hx : x = n
              · subst hx; exact hz
              · exact p4 x h1 (by omega)
            · simp only at h1; omega
        · by_cases hx : x < n
          · obtain ⟨q, hq, q1, q2⟩ := cov x h1 hx h3
            rcases List.mem_append.1 hq with hq | hq
            · exact ⟨q, by simp [hq], q1, q2⟩
            · simp only [List.mem_singleton] at hq
              subst hq
              exact ⟨(q.1, q.2 + 1), by simp, q1, by simp only; omega⟩
          · exact ⟨(p.1, p.2 + 1), by simp, by simp only; omega, by simp only; omega⟩
      · rw [if_neg hc]
        have hlt : ∀ q ∈ o0 ++ [p], q.1 + q.2 < n := by
          intro q hq
          rcases List.mem_append.1 hq with hq | hq
          · have := hpw q hq; omega
          · simp only [List.mem_singleton] at hq
            subst hq
            have : ¬ q.1 + q.2 = n := fun h => hc ⟨by simp, h⟩
            omega
        refine ⟨List.pairwise_append.2 ⟨pw, by simp, fun q hq r hr => ?_⟩, fun q hq => ?_, fun x h1 h2 h3 => ?_⟩
        · simp only [List.mem_singleton] at hr
          subst hr
          exact hlt q hq
        · rcases List.mem_append.1 hq with hq | hq
          · obtain ⟨e1, e2, e3, e4, e5⟩ := el q hq
            have := hlt q hq
            exact ⟨e1, e2, by omega, e4, fun x h1 h2 => e5 x h1 (by omega)⟩
          · simp only [List.mem_singleton] at hq
            subst hq
            refine ⟨by simp only; omega, by simp, by simp only; omega, fun x h1 h2 => ?_, fun x h1 h2 => ?_⟩
            · simp only at h1 h2
              have : x = n := by omega
              subst this; exact hz
            · simp only at h1; omega
        · by_cases hx : x < n
          · obtain ⟨q, hq, q1, q2⟩ := cov x h1 hx h3
            exact ⟨q, List.mem_append_left _ hq, q1, q2⟩
          · exact ⟨((n : Int), 1), by simp, by simp only; omega, by simp only; omega⟩
  · rw [if_pos hz]
    refine ⟨pw, fun q hq => ?_, fun x h1 h2 h3 => ?_⟩
    · obtain ⟨e1, e2, e3, e4, e5⟩ := el q hq
      refine ⟨e1, e2, by omega, e4, fun x h1 h2 => ?_⟩
      by_cases hx : x = n
      · subst hx; exact hz
      · exact e5 x h1 (by omega)
    · by_cases hx : x = n
      · subst hx; exact absurd h3 hz
      · exact cov x h1 (by omega) h3
theorem spS_I (hs : List Hd) : ∀ n, 1 ≤ n → SpI hs n (spS hs n) := by
  intro n hn
  induction n with
  | zero => omega
  | succ n ih =>
    by_cases h : n = 0
    · subst h
      exact ⟨by simp [spS], fun p hp => by simp [spS] at hp, fun x h1 h2 => by omega⟩
    · rw [spS_succ hs (by omega)]
      exact (ih (by omega)).step (by omega)
theorem pw_tri {α : Type} {Rel : α → α → Prop} : ∀ {l : List α}, l.Pairwise Rel → ∀ p ∈ l, ∀ q ∈ l, p = q ∨ Rel p q ∨ Rel q p := by
  intro l
  induction l with
  | nil => intro _ p hp; cases hp
  | cons a l ih =>
    intro h p hp q hq
    obtain ⟨h1, h2⟩ := List.pairwise_cons.1 h
    rcases List.mem_cons.1 hp with e | hp' <;> rcases List.mem_cons.1 hq with e' | hq'
    · exact Or.inl (e.trans e'.symm)
    · rw [e]; exact Or.inr (Or.inl (h1 q hq'))
    · rw [e']; exact Or.inr (Or.inr (h1 p hp'))
    · exact ih h2 p hp' q hq'
theorem cov_spS {g : Nat} {hs : List Hd} {F : RF} (tie : Tie g hs F) : Cov F (spS hs g) := by
  have ok := tie.ok
  have h2 := tie.two
  obtain ⟨pw, el, cov⟩ := spS_I hs g (by omega)
  have fr : ∀ b : Int, InR F b ↔ 1 ≤ b ∧ b < g ∧ (hd hs b.toNat).1 = 0 := tie.fr
  have one : ∀ b q, F b = some q → (b, q) ∈ spS hs g := by
    intro b q hb
    obtain ⟨r1, r2, r3⟩ := ok.rng b q hb
    have hin := (fr b).1 ⟨b, q, hb, by omega, by omega⟩
    obtain ⟨⟨b', q'⟩, hp, p1, p2⟩ := cov b.toNat (by omega) (by omega) hin.2.2
    simp only at p1 p2
    obtain ⟨e1, e2, e3, e4, e5⟩ := el _ hp
    simp only at e1 e2 e3 e4 e5
    have hbb : b' = b := by
      refine Classical.byContradiction fun hne => ?_
      have hf := e4 (b - 1).toNat (by omega) (by omega)
      obtain ⟨s, n, hs1, hs2, hs3⟩ := (fr (b - 1)).2 ⟨by omega, by omega, hf⟩
      have := ok.sep s n b q hs1 hb (by omega)
      omega
    subst hbb
    have hqq : q' = q := by
      refine Classical.byContradiction fun hne => ?_
      by_cases hlt : q < q'
      · have hf := e4 (b' + q).toNat (by omega) (by omega)
        obtain ⟨s, n, hs1, hs2, hs3⟩ := (fr (b' + q)).2 ⟨by omega, by omega, hf⟩
        by_cases hsb : s = b'
        · subst hsb
          rw [hb] at hs1
          have := Option.some.inj hs1
          omega
        · by_cases hlt2 : s < b'
          · have := ok.sep s n b' q hs1 hb hlt2; omega
          · have := ok.sep b' q s n hb hs1 (by omega); omega
      · have hf := (fr (b' + q')).1 ⟨b', q, hb, by omega, by omega⟩
        exact e5 (b' + q').toNat (by omega) (by omega) hf.2.2
    subst hqq
    exact hp
  refine ⟨?_, fun b q => ⟨one b q, fun hp => ?_⟩⟩
  · refine List.Pairwise.map _ (fun p q h => ?_) (List.Pairwise.and_mem.1 pw)
    obtain ⟨hp, hq, h⟩ := h
    have := el p hp
    have : p.1 < q.1 := by omega
    show p.1 ≠ q.1
    omega
  · obtain ⟨e1, e2, e3, e4, e5⟩ := el _ hp
    simp only at e1 e2 e3 e4 e5
    have hf := e4 b.toNat (by omega) (by omega)
    obtain ⟨s, n, hs1, hs2, hs3⟩ := (fr b).2 ⟨by omega, by omega, hf⟩
    have hm := one s n hs1
    have hse := el _ hm
    simp only at hse
    rcases pw_tri pw _ hp _ hm with h | h | h
    · injection h with h1 h2
      subst h1 h2
      exact hs1
    · simp only at h; omega
    · simp only at h; omega
theorem frC_mem {u : List Int} {b k : Int} {y : Int} : ∀ {n : Nat}, y ∈ frC u b k n ↔ ∃ i : Nat, i < n ∧ y = 512 * b + i * clsW k ∧ y ∉ u := by
  intro n
  induction n with
  | zero => simp [frC]
  | succ n ih =>
    unfold frC
    rw [List.mem_append, ih]
    constructor
    · rintro (⟨i, h1, h2, h3⟩ | h)
      · exact ⟨i, by omega, h2, h3⟩
      · split at h
        · cases h
        · rename_i hn
          rw [List.mem_singleton] at h
          exact ⟨n, by omega, h, by rw [h]; exact hn⟩
    · rintro ⟨i, h1, h2, h3⟩
      by_cases hi : i < n
      · exact Or.inl ⟨i, hi, h2, h3⟩
      · have : i = n := by omega
        subst this
        rw [if_neg (by rw [← h2]; exact h3)]
        exact Or.inr (by simp [h2])
theorem frC_pw {u : List Int} {b k : Int} (hk : 0 < clsW k) : ∀ n : Nat, (frC u b k n).Pairwise (· < ·) := by
  intro n
  induction n with
  | zero => exact .nil
  | succ n ih =>
    unfold frC
    refine List.pairwise_append.2 ⟨ih, by split <;> simp, fun x hx y hy => ?_⟩
    obtain ⟨i, h1, h2, _⟩ := frC_mem.1 hx
    have hm : (i : Int) * clsW k < n * clsW k := (Int.mul_lt_mul_right hk).2 (by omega)
    split at hy
    · cases hy
    · rw [List.mem_singleton] at hy
      omega
theorem frS_mem {hs : List Hd} {u : List Int} {k : Int} {y : Int} : ∀ {n : Nat}, 1 ≤ n → (y ∈ frS hs u k n ↔ ∃ b : Nat, 1 ≤ b ∧ b < n ∧ (hd hs b).1 = 1 ∧ (hd hs b).2.1 = k ∧ ∃ i : Nat, i < (cls k).toNat ∧ y = 512 * b + i * clsW k ∧ y ∉ u) := by
  intro n hn
  induction n with
  | zero => omega
  | succ n ih =>
    by_cases h : n = 0
    · subst h
      constructor
      · intro h; simp [frS] at h
      · rintro ⟨b, h1, h2, _⟩; omega
    · rw [frS_succ _ _ _ (by omega), List.mem_append, ih (by omega)]
      constructor
      · rintro (⟨b, h1, h2, h3⟩ | hy)
        · exact ⟨b, h1, by omega, h3⟩
        · split at hy
          · rename_i hc
            exact ⟨n, by omega, by omega, hc.1, hc.2, frC_mem.1 hy⟩
          · cases hy
      · rintro ⟨b, h1, h2, h3, h4, h5⟩
        by_cases hb : b < n
        · exact Or.inl ⟨b, h1, hb, h3, h4, h5⟩
        · have : b = n := by omega
          subst this
          rw [if_pos ⟨h3, h4⟩]
          exact Or.inr (frC_mem.2 h5)
theorem cell_top {k : Int} (hk : 0 ≤ k ∧ k < 32) {i : Nat} (hi : i < (cls k).toNat) : 0 ≤ (i : Int) * clsW k ∧ (i : Int) * clsW k < 512 := by
  have hp := clsW_pos hk
  have hs := (cls_step k hk (i : Int)).2 (by omega)
  rw [Int.add_mul, Int.one_mul] at hs
  exact ⟨Int.mul_nonneg (by omega) (by omega), by omega⟩
theorem frS_pw {hs : List Hd} {u : List Int} {k : Int} (hk : 0 ≤ k ∧ k < 32) : ∀ n : Nat, 1 ≤ n → (frS hs u k n).Pairwise (· < ·) := by
  intro n hn
  have hp := clsW_pos hk
  induction n with
  | zero => omega
  | succ n ih =>
    by_cases h : n = 0
    · subst h; simp [frS]
    · rw [frS_succ _ _ _ (by omega)]
      refine List.pairwise_append.2 ⟨ih (by omega), ?_, fun x hx y hy => ?_⟩
      · split
        · exact frC_pw (by omega) _
        · exact .nil
      · obtain ⟨b, h1, h2, _, _, i, h3, h4, _⟩ := (frS_mem (by omega)).1 hx
        split at hy
        · obtain ⟨j, g1, g2, _⟩ := frC_mem.1 hy
          have t1 := cell_top hk h3
          have t2 := cell_top hk g1
          omega
        · cases hy
theorem uBel_mem {U : Nat → Bool} {n : Nat} {y : Int} : y ∈ uBel U n ↔ ∃ x : Nat, x < n ∧ U x = true ∧ y = x := by
  unfold uBel
  simp only [List.mem_map, List.mem_filter, List.mem_range]
  constructor
  · rintro ⟨x, ⟨h1, h2⟩, h3⟩; exact ⟨x, h1, h2, h3.symm⟩
  · rintro ⟨x, h1, h2, h3⟩; exact ⟨x, ⟨h1, h2⟩, h3.symm⟩
theorem fr_len {g : Nat} {hs : List Hd} {U : Nat → Bool} {L : Nat → List Int} (inv : Inv g hs U L) {k : Nat} (hk : k < 32) : (frS hs (uBel U (512 * g)) k g).length = (accL L k 4).length := by
  have hk' : 0 ≤ (k : Int) ∧ (k : Int) < 32 := by omega
  obtain ⟨t1, t2, t3, t4, t5, t6, t7, t8⟩ := cls_tab k hk
  have h2 := inv.two
  refine List.Perm.length_eq ((List.perm_ext_iff_of_nodup ((frS_pw hk' g (by omega)).imp (fun h => by omega)) (inv.free.nd k hk)).2 fun y => ?_)
  rw [frS_mem (by omega), inv.free.mem k hk, t1, t2]
  constructor
  · rintro ⟨b, h1, h2, h3, h4, i, h5, h6, h7⟩
    have hi : i < cn k := by omega
    have hr := inv.right (hd hs b) (getD_mem (by rw [inv.len]; exact h2))
    have hh : hd hs b = (1, (k : Int), 0) := by
      rcases hr with hr | hr | hr
      · rw [hr] at h3; cases h3
      · rw [← h4, ← h3, ← hr.2.2.2]
      · omega
    have e : y = ((cellN b k i : Nat) : Int) := by unfold cellN; rw [h6]; simp; omega
    refine ⟨cellN b k i, e, ⟨b, i, h1, h2, hh, hi, rfl⟩, ?_⟩
    cases hU : U (cellN b k i) with
    | false => rfl
    | true =>
      have hrg := cellN_rng (b := b) hk hi
      exact absurd (uBel_mem.2 ⟨cellN b k i, by omega, hU, e⟩) h7
  · rintro ⟨x, e, ⟨b, i, h1, h2, h3, h4, rfl⟩, hU⟩
    refine ⟨b, h1, h2, by rw [h3], by rw [h3], i, by omega, by rw [e]; unfold cellN; simp; omega, fun hm => ?_⟩
    obtain ⟨x', g1, g2, g3⟩ := uBel_mem.1 hm
    have : x' = cellN b k i := by omega
    subst this
    rw [hU] at g2; cases g2
end Go.Proofs.YtdgcbapclnnkkaaGreat.X
end
section
/- The law: how often there is room, what the page says. Conditions: the arguments read as they are given. -/
set_option linter.unusedVariables false
set_option maxRecDepth 4000
set_option maxHeartbeats 1000000
namespace Go.Proofs.YtdgcbapclnnkkaaGreat.X
open Go
section
variable {B : World} {P R : SL} {t : K}
theorem predict_Small0_c {p : Option Addr} {k : Int} (h : ¬ (0 ≤ k ∧ k < 32)) {kk : Int → K} (hk : T B R (kk 0)) : T B R (c_predict_Small p k kk) := by
  refine T_of (predict_Small_ok _ k kk) ?_
  refine class_Right_c ?_
  rw [decide_eq_false h]
  exact hk
theorem predict_Large0_c {p : Option Addr} {n : Int} (h : n < 1) {kk : Int → K} (hk : T B R (kk 0)) : T B R (c_predict_Large p n kk) := by
  refine T_of (predict_Large_ok _ n kk) ?_
  refine T_brD (fun _ => hk) (fun h' => absurd h h')
theorem refSm_eq {g : Nat} {s : St} (inv : Inv g s.hs s.U s.L) {k : Nat} (hk : k < 32) : refSm s.hs (uBel s.U (512 * g)) k = (accL s.L k 4).length + (nFree s.hs g : Int) * cn k := by
  unfold refSm
  rw [inv.len, fr_len inv hk, (cls_tab k hk).2.1]
theorem wR_eq {g : Nat} {s : St} (inv : Inv g s.hs s.U s.L) {k : Nat} (hk : k < 32) : wR s.hs (uBel s.U (512 * g)) k = wP g s k := by
  unfold wR wP
  rw [refSm_eq inv hk]
theorem eR_eq {g : Nat} {s : St} (inv : Inv g s.hs s.U s.L) {k : Nat} (hk : k < 32) : eR s.hs (uBel s.U (512 * g)) k = eP s k := by
  unfold eR eP
  rw [inv.len, fr_len inv hk]
theorem Bst.eq {w w' : Nat → Int} (h : ∀ k, k < 32 → w k = w' k) {n r : Int} (hb : Bst w 0 32 n r) : Bst w' 0 32 n r := by
  obtain ⟨a, b⟩ := hb
  refine ⟨fun j h1 h2 => by rw [← h j h2]; exact a j h1 h2, ?_⟩
  rcases b with b | ⟨x, b1, b2, b3, b4, b5, b6⟩
  · exact Or.inl b
  · exact Or.inr ⟨x, b1, b2, b3, by rw [← h x b3]; exact b4, b5, fun j h1 h2 => by rw [← h j (by omega)]; exact b6 j h1 h2⟩
theorem GW.eq {e e' : Nat → Bool} (h : ∀ k, k < 32 → e k = e' k) {r : Int} (hb : GW e r) : GW e' r := by
  rcases hb with ⟨a, b⟩ | ⟨x, a, b, c, d⟩
  · exact Or.inl ⟨fun j hj => by rw [← h j hj]; exact a j hj, b⟩
  · exact Or.inr ⟨x, a, by rw [← h x a]; exact b, fun j h1 h2 => by rw [← h j h2]; exact c j h1 h2, d⟩
theorem refOb_eq {g : Nat} {s : St} (inv : Inv g s.hs s.U s.L) (tie : Tie g s.hs s.F) {o : Ob} {sn : List (Int × Int)} (hc : Cov s.F sn) : refOb s.hs (uBel s.U (512 * g)) o = val g s.L o sn := by
  have hperm := hc.perm (cov_spS tie)
  unfold refOb val
  by_cases hf : fits g o
  · have h1 := hf.1
    have h2 := hf.2
    rw [if_pos hf, inv.len, if_neg (by omega)]
    rcases kOf_cases o hf.1 with ⟨k, k1, k2, k3, k4⟩ | ⟨k1, k2, k3, k4⟩
    · rw [k2, if_pos rfl, if_pos rfl, k4, refSm_eq inv k1]
      unfold valS
      rw [sumI_free tie hc]
    · rw [k1, if_neg (by simp), if_neg (by simp)]
      unfold refLg
      rw [← k4, if_pos k3, inv.len, sumD_perm hperm]
  · have hf' : oSize o = 0 ∨ oSize o > 512 * ((g : Int) - 1) := by
      refine Classical.byContradiction fun h => hf ⟨by omega, by omega⟩
    rw [if_neg hf, inv.len, if_pos hf']
theorem PredictTells_c {x0 : Int} {x1 : Sl} {o : Ob} (h0 : 0 ≤ x0) (h1 : x0 ≤ 255) (hs : Scr B x1) {kk : Bool → K} (hk : T B R (kk true)) : T B R (c_law29_PredictTells x0 x1 o kk) := by
  refine T_of (law29_PredictTells_ok x0 x1 o kk) ?_
  (repeat ((with_reducible refine T_al ?_; intro _)))
  rename_i b1
  refine awake_c ?_
  (dsimp only [law29_PredictTells, law29_PredictTells_s0, law29_PredictTells_s1, law29_PredictTells_s2, law29_PredictTells_s3, law29_PredictTells_s4, law29_PredictTells_s5, law29_PredictTells_s6, law29_PredictTells_s7, law29_PredictTells_s8, law29_PredictTells_s9, law29_PredictTells_s10, law29_PredictTells_s11, law29_PredictTells_s12, law29_PredictTells_s13, law29_PredictTells_s14])
  simp only [Bool.not_true]
  (repeat (with_reducible refine T_brF ?_))
  refine made_c h0 h1 hs fun a d s inv => ?_
  (dsimp only [law29_PredictTells, law29_PredictTells_s0, law29_PredictTells_s1, law29_PredictTells_s2, law29_PredictTells_s3, law29_PredictTells_s4, law29_PredictTells_s5, law29_PredictTells_s6, law29_PredictTells_s7, law29_PredictTells_s8, law29_PredictTells_s9, law29_PredictTells_s10, law29_PredictTells_s11, law29_PredictTells_s12, law29_PredictTells_s13, law29_PredictTells_s14])
  simp only [Bool.not_true]
  have hg2 : 2 ≤ 2 + x0.toNat % 7 := by omega
  have hg8 : 2 + x0.toNat % 7 ≤ 8 := by omega
  generalize 2 + x0.toNat % 7 = g at *
  (repeat (with_reducible refine T_brF ?_))
  refine Al_tie fun tie => ?_
  have hl : 1 ≤ s.hs.length := by rw [inv.len]; omega
  have hl2 : s.hs.length ≤ 2 ^ 20 := by rw [inv.len]; omega
  have hul : (uBel s.U (512 * g)).length ≤ 2 ^ 40 := Nat.le_trans uBel_len (by omega)
  have hcv := cov_spS tie
  -- behind the lists
  have last : ∀ x9 x10 : Sl, T B (R * pt b1 (.cells [.int .i64 o.1, .int .i64 o.2].toArray 68) * vec 141 3 x9 (hds s.hs) * vec 3 1 x10 (ints (uBel s.U (512 * g))) * Al a d g s) (law29_PredictTells_s6 kk ⟨b1, 0, none⟩ (da a) x9 x10) := by
    intro x9 x10
    have hx : Rd (R * pt b1 (.cells [.int .i64 o.1, .int .i64 o.2].toArray 68) * vec 141 3 x9 (hds s.hs) * vec 3 1 x10 (ints (uBel s.U (512 * g))) * Al a d g s) x9 3 (hds s.hs) := Rd.vec (.init (.init .last))
    have hu : Rd (R * pt b1 (.cells [.int .i64 o.1, .int .i64 o.2].toArray 68) * vec 141 3 x9 (hds s.hs) * vec 3 1 x10 (ints (uBel s.U (512 * g))) * Al a d g s) x10 1 (ints (uBel s.U (512 * g))) := Rd.vec (.init .last)
    refine predict_Words_c inv fun n r hb => ?_
    refine ref29_Words_c hl hl2 hul hx hu fun n' r' hb' => ?_
    obtain ⟨q1, q2⟩ := hb.uniq (hb'.eq fun k hk => wR_eq inv hk)
    subst q1 q2
    (repeat (with_reducible refine T_tick ?_))
    refine T_brNE (fun h => absurd rfl h) (fun _ => ?_)
    refine T_brNE (fun h => absurd rfl h) (fun _ => ?_)
    refine predict_Greatest_c inv fun sn r1 hc hr1 => ?_
    refine ref29_Greatest_c hl hl2 hul hx hu fun r2 hr2 => ?_
    have hperm := hc.perm hcv
    have hmx := maxI_perm hperm
    rw [inv.len] at hr2
    have hr : r1 = r2 := by
      have hpos : spS s.hs g ≠ [] → 0 < maxI (spS s.hs g) := by
        intro hne
        cases hsp : spS s.hs g with
        | nil => exact absurd hsp hne
        | cons p l =>
          have := (spS_rng s.hs g (by omega)).2 p (by rw [hsp]; simp)
          simp only [maxI]
          omega
      rcases hr1 with ⟨a1, a2⟩ | ⟨a1, a2⟩ <;> rcases hr2 with ⟨b1, b2⟩ | ⟨b1, b2⟩
      · rw [a2, b2, hmx]
      · rw [hmx, b1] at a1
        simp [maxI] at a1
      · have := hpos b1; omega
      · exact a2.uniq (b2.eq fun k hk => eR_eq inv hk)
    subst hr
    skip
    refine T_brNE (fun h => absurd rfl h) (fun _ => ?_)
    (repeat (((with_reducible apply T_ldI); (focus rfl); (focus exact hasA); (focus rfl))))
    rw [show ((o.1, o.2) : Ob) = o from rfl]
    have tail : T B (R * pt b1 (.cells [.int .i64 o.1, .int .i64 o.2].toArray 68) * vec 141 3 x9 (hds s.hs) * vec 3 1 x10 (ints (uBel s.U (512 * g))) * Al a d g s) (law29_PredictTells_s3 kk ⟨b1, 0, none⟩ (da a) x9 false) := by
      (repeat (first | with_reducible refine T_tick ?_ | with_reducible refine T_brF ?_))
      refine predict_Small0_c (by omega) ?_
      refine T_brE (fun _ => ?_) (fun h => absurd rfl h)
      refine predict_Small0_c (by omega) ?_
      refine T_brE (fun _ => ?_) (fun h => absurd rfl h)
      refine predict_Large0_c (by omega) ?_
      refine T_brE (fun _ => ?_) (fun h => absurd rfl h)
      (repeat (((with_reducible apply T_ldI); (focus rfl); (focus exact hasA); (focus rfl))))
      have fin : ∀ v, v = refLg s.hs o.2 → T B (R * pt b1 (.cells [.int .i64 o.1, .int .i64 o.2].toArray 68) * vec 141 3 x9 (hds s.hs) * vec 3 1 x10 (ints (uBel s.U (512 * g))) * Al a d g s) (chk [.cell (Addr.add ⟨b1, 0, none⟩ 1) (.int .i64 o.2)] fun _ => c_ref29_Large x9 o.2 fun x95 => law29_PredictTells_s0 kk (v == x95)) := by
        intro v hv
        (repeat (first | with_reducible refine T_chk0 ?_ | ((with_reducible apply T_chk); (focus rfl); (focus exact hasA); (focus rfl))))
        refine ref29_Large_c hl hl2 hx ?_
        rw [hv, show (refLg s.hs o.2 == refLg s.hs o.2) = true from beq_self_eq_true _]
        exact T.weak (T.weak (T.weak (T.weak hk)))
      by_cases hn : 1 ≤ o.2
      · have en : o.2 = ((o.2.toNat : Nat) : Int) := by omega
        have h5 : T B (R * pt b1 (.cells [.int .i64 o.1, .int .i64 o.2].toArray 68) * vec 141 3 x9 (hds s.hs) * vec 3 1 x10 (ints (uBel s.U (512 * g))) * Al a d g s) (c_predict_Large (da a) ((o.2.toNat : Nat) : Int) fun x91 => chk [.cell (Addr.add ⟨b1, 0, none⟩ 1) (.int .i64 o.2)] fun _ => c_ref29_Large x9 o.2 fun x95 => law29_PredictTells_s0 kk (x91 == x95)) := by
          refine predict_Large_c tie (by omega) (by omega) fun sn hc => ?_
          refine fin _ ?_
          unfold refLg
          rw [if_pos hn, inv.len, ← en, sumD_perm (hc.perm hcv)]
        rw [← en] at h5
        exact h5
      · refine predict_Large0_c (by omega) ?_
        refine fin _ ?_
        unfold refLg
        rw [if_neg hn]
    have obj : ∀ v, v = refOb s.hs (uBel s.U (512 * g)) o → T B (R * pt b1 (.cells [.int .i64 o.1, .int .i64 o.2].toArray 68) * vec 141 3 x9 (hds s.hs) * vec 3 1 x10 (ints (uBel s.U (512 * g))) * Al a d g s) (chk [.cell (Addr.add ⟨b1, 0, none⟩ 0) (.int .i64 o.1), .cell (Addr.add ⟨b1, 0, none⟩ 1) (.int .i64 o.2)] fun _ => c_law08_Ref o fun x70 => c_ref29_Object x9 x10 (x70.1, x70.2) fun x71 => law29_PredictTells_s3 kk ⟨b1, 0, none⟩ (da a) x9 (v != x71)) := by
      intro v hv
      (repeat (first | with_reducible refine T_chk0 ?_ | ((with_reducible apply T_chk); (focus rfl); (focus exact hasA); (focus rfl))))
      refine law08_Ref_c ?_
      rw [show ((o.1, o.2) : Ob) = o from rfl]
      refine ref29_Object_c hl hl2 hul hx hu ?_
      rw [hv, show (refOb s.hs (uBel s.U (512 * g)) o != refOb s.hs (uBel s.U (512 * g)) o) = false from bne_self_eq_false _]
      exact tail
    refine predict_Object_c inv (fun sn hc => ?_) (fun hnf => ?_)
    · exact obj _ (refOb_eq inv tie hc).symm
    · refine obj _ ?_
      rw [refOb_eq inv tie hcv]
      unfold val
      rw [if_neg hnf]
  refine Al_open fun mm u f => ?_
  unfold da
  (repeat (first | with_reducible refine T_nn ?_ | ((with_reducible apply T_ldP); (focus rfl); (focus exact hasA); (focus rfl))))
  refine T_bring (X := Mg mm d g s.hs s.F) (by exact frmA) ?_
  refine Mg_open fun tt xx tie2 => ?_
  unfold da
  (repeat (((with_reducible apply T_ldP); (focus rfl); (focus exact hasA); (focus rfl))))
  refine T_bring (X := Tab tt d g s.hs) (by exact frmA) ?_
  refine blocks_All_c (by omega) fun s9 => ?_
  refine law07_Refs_c hl2 (Rd.vec .last) fun x9 => ?_
  refine T_bring (X := vec 143 3 s9 (hds s.hs)) (.init .last) ?_
  refine T.weak ?_
  have h4 : T B (R * pt b1 (.cells [.int .i64 o.1, .int .i64 o.2].toArray 68) * vec 141 3 x9 (hds s.hs) * Al a d g s) (c_alloc_Allocator_Objects (da a) fun x35 => law29_PredictTells_s6 kk ⟨b1, 0, none⟩ (da a) x9 x35) := by
    refine Objects_c fun x10 => ?_
    exact T.perm (by ac_rfl) (last x9 x10)
  have h5 := Al_close (m := mm) (u := u) (f := f) h4
  have h6 : T B (R * pt b1 (.cells [.int .i64 o.1, .int .i64 o.2].toArray 68) * vec 141 3 x9 (hds s.hs) * LDx d (64 * g) s.c * Bm u (512 * g) s.U * Fl f s.L * pt a (.cells [.pointer (da mm), .pointer (da d), .int .i64 g, .pointer (da u), .pointer (da f)].toArray 47) * Mg mm d g s.hs s.F) (c_alloc_Allocator_Objects (da a) fun x35 => law29_PredictTells_s6 kk ⟨b1, 0, none⟩ (da a) x9 x35) := T.perm (by ac_rfl) h5
  have h7 := Mg_close (a := tt) (x := xx) tie2 h6
  exact T.perm (by unfold da; ac_rfl) h7
end
end Go.Proofs.YtdgcbapclnnkkaaGreat.X
end
section
/- The closing of the rows: an argument is read open, and reads behind the call as it did. Conditions: the arguments read as they are given. -/
set_option linter.unusedVariables false
set_option maxRecDepth 4000
namespace Go.Proofs.YtdgcbapclnnkkaaGreat.X
open Go Go.ChangeShapes Go.WideShapes Go.ChangeAt Go.RowKit
theorem own : ownKnob Tryz.prog.godebug = none := by kernel_rfl
theorem kids : Kids Tryz.prog (· < Tryz.prog.types.size) := kids_rows (by kernel_rfl) (by kernel_rfl)
theorem full : ∀ t e, t < Tryz.prog.types.size → Tryz.prog.underlying t = some (.slice e) → 0 < Tryz.prog.cellsOf e := slices_full_of Tryz.prog (by kernel_rfl)
theorem cells3 : Tryz.prog.cellsOf 3 = 1 := by kernel_rfl
section
variable {H : Type} {enc : TypeId × Value → H} {P : Program} {W W' : World} {b : Nat} {sp : Nat → Bool} {hd : Bool}
theorem carryAll : ∀ {ts : List TypeId} {vs : List Value} {ds : List (DataW H)} {ps : List MemPlace}, DataW.TrodAll enc P W b sp hd ts vs ds ps → (∀ p ∈ ps, W.sameAt W' p) → DataW.TrodAll enc P W' b sp hd ts vs ds ps
  | [], [], [], _, h, _ => h
  | _ :: _, _ :: _, _ :: _, _, ⟨_, _, ⟨n, hn⟩, h2, e⟩, hs =>
    ⟨_, _, ⟨n, DataW.trod_carry n _ _ _ hn (fun x hx => hs x (by rw [e]; exact List.mem_append_left _ hx))⟩, carryAll h2 (fun x hx => hs x (by rw [e]; exact List.mem_append_right _ hx)), e⟩
theorem int_at {fs : Array Field} {t : TypeId} {m : Nat} {cs : List Value} {x : DataW H × List MemPlace} (ht : Tryz.prog.underlying t = some (.struct fs)) (h : DataW.trod enc Tryz.prog W b sp hd m t cs = some x) (j : Nat) {f : Field}
    (hf : fs[j]? = some f) (h3 : f.type = 3) : ∃ n : Int, cs[f.offset]? = some (.int .i64 n) ∧ (Lit.int .i64 n).wf = true := by
  obtain ⟨xs, n, _, _, _, hxl, hfld⟩ := DataW.trod_struct ht h
  have hj : j < fs.size := (Array.getElem?_eq_some_iff.1 hf).1
  have h1 := hfld j f hf
  rw [List.getElem?_eq_getElem (by omega), h3] at h1
  obtain ⟨n, hn, _, hw⟩ := DataW.trod_int Tryz.underlying3 h1
  rw [cells3] at hn
  refine ⟨n, ?_, hw⟩
  have : ((cs.drop f.offset).take 1)[0]? = some (.int .i64 n) := by rw [hn]; rfl
  simpa using this
theorem post_true {f : Func} {s : ChangeSpec} {fresh handsOn again : Bool} {args : Array Value} {ds : List (DataW H)} {before : List MemPlace}
    (hW : DataW.Whole enc Tryz.prog f.params.toList s.vars false W args.toList ds [] before) (hA : DataW.TrodAll enc Tryz.prog W 0 (fun _ => true) true f.params.toList args.toList ds before)
    (hb : Below W.heap.size W W') (hv : s.vars = []) (hp : ∀ t ∈ f.params.toList, t < Tryz.prog.types.size) (hr : f.resultTypes = #[4]) (hfn : s.fn H ds = { results := [.lit (.bool true)], args := ds }) :
    s.post enc Tryz.prog f false fresh handsOn again W args (.bool true) W' := by
  have hold : ∀ p ∈ before, (fun b => decide (b < W.heap.size)) p.block = true := fun p hp => by simpa using hW.lt p hp
  have hT : ∀ sp : Nat → Bool, (∀ p ∈ before, sp p.block = true) → DataW.TrodAll enc Tryz.prog W' 0 sp true f.params.toList args.toList ds before :=
    fun sp hsp => carryAll (DataW.TrodAll.respare kids full hp hA hsp) (fun p hp => hb.same (hW.lt p hp))
  have hRes : ∀ (b : Nat) (sp : Nat → Bool) (hd : Bool), DataW.TrodAll enc Tryz.prog W' b sp hd f.resultTypes.toList ((Value.bool true).resultList f.resultTypes.size) [DataW.lit (.bool true)] [] := by
    intro b sp hd
    rw [hr]
    exact trodAll_cons_mk (shut_bool Tryz.underlying4 _) trodAll_mk0
  have hVar : ∀ sp, DataW.TrodVars enc Tryz.prog W' sp s.vars ([] : List (DataW H)) [] := fun sp => by rw [hv]; rfl
  have hlt := hW.lt
  have hfn' : s.fn H (ds ++ []) = { results := [.lit (.bool true)], args := ds } := by rw [List.append_nil]; exact hfn
  have hR : ∀ (b : Nat) (sp : Nat → Bool) (hd : Bool), DataW.TrodAll enc Tryz.prog W' b sp hd f.resultTypes.toList ((Value.bool true).resultList f.resultTypes.size) (s.fn H (ds ++ [])).results [] := by
    rw [hfn']; exact hRes
  have hAr : ∀ sp : Nat → Bool, (∀ p ∈ before, sp p.block = true) → DataW.TrodAll enc Tryz.prog W' 0 sp true f.params.toList args.toList (s.fn H (ds ++ [])).args before := by
    rw [hfn']; exact hT
  have hVr : ∀ sp, DataW.TrodVars enc Tryz.prog W' sp s.vars (s.fn H (ds ++ [])).vars [] := by
    rw [hfn']; exact hVar
  refine ⟨ds, [], before, [], before, [], hW, hR _ _ _, hAr _ hold, hVr _, World.keptBut_mono (fun p hp => ⟨hp, ?_⟩) (hb.frame (· ∈ before)), fun _ => ?_⟩
  · exact Or.inr (Or.inl hp)
  · obtain ⟨_, _, _, _, hq, hz, hn⟩ := hW
    refine ⟨ok_one (by rw [hr]) rfl (okWide_bool_mk Tryz.underlying4 _), _, _, ([] ++ before) ++ [], ⟨[] ++ before, [], trodAll_append (hAr _ (fun _ _ => rfl)) (hR _ _ _), hVr _, rfl, ?_, ?_⟩, ?_⟩
    · intro b off hp
      have hp : MemPlace.cell b off ∈ before := by simpa using hp
      rw [hb.frozen (p := ⟨b, off, none⟩) (hlt _ hp)]
      exact hz b off hp
    · intro ha
      simpa using hn ha
    · intro p hp _
      simpa using hp
end
end Go.Proofs.YtdgcbapclnnkkaaGreat.X
end
section
/- A script and an object, read open. Conditions: they read as they are given. -/
set_option linter.unusedVariables false
set_option maxRecDepth 4000
namespace Go.Proofs.YtdgcbapclnnkkaaGreat.X
open Go Go.ChangeShapes Go.WideShapes Go.ChangeAt Go.RowKit
theorem cells68 : Tryz.prog.cellsOf 68 = 2 := by kernel_rfl
theorem cells137 : Tryz.prog.cellsOf 137 = 4 := by kernel_rfl
section
variable {H : Type} {enc : TypeId × Value → H} {W : World} {b : Nat} {sp : Nat → Bool} {hd : Bool}
theorem scr_of {a : Option Addr} {len cap : Nat} {d : DataW H} {ps : List MemPlace} (h : DataW.Trod enc Tryz.prog W b sp hd 66 (.slice a len cap) d ps) : Scr W ⟨a, len, cap⟩ := by
  obtain ⟨fuel, hf⟩ := h
  rcases DataW.trod_slice Tryz.underlying66 hf with ⟨hcs, _⟩ | ⟨a', len', cap', elems, rest, n, _, hcs, _, _, _, _, hlen, hel, _, _⟩
  · simp [Value.cells] at hcs
    obtain ⟨rfl, rfl, rfl⟩ := hcs
    intro i hi
    exact absurd hi (Nat.not_lt_zero i)
  · simp [Value.cells] at hcs
    obtain ⟨rfl, rfl, rfl⟩ := hcs
    intro i hi
    refine ⟨a', rfl, ?_⟩
    have hi' : i < len := hi
    have h := hel i hi'
    rw [List.getElem?_eq_getElem (by omega), cells137] at h
    obtain ⟨cs, hc, hd⟩ := Option.bind_eq_some_iff.1 h
    obtain ⟨_, hl, hcell⟩ := World.cells?_some hc
    obtain ⟨n0, e0, _⟩ := int_at Tryz.underlying137 hd 0 rfl rfl
    obtain ⟨n1, e1, _⟩ := int_at Tryz.underlying137 hd 1 rfl rfl
    obtain ⟨n2, e2, _⟩ := int_at Tryz.underlying137 hd 2 rfl rfl
    obtain ⟨n3, e3, _⟩ := int_at Tryz.underlying137 hd 3 rfl rfl
    exact ⟨n0, n1, n2, n3, (hcell 0 (by omega)).trans e0, (hcell 1 (by omega)).trans e1, (hcell 2 (by omega)).trans e2, (hcell 3 (by omega)).trans e3⟩
theorem ob_of {cs : Array Value} {d : DataW H} {ps : List MemPlace} (hn : cs.size = Tryz.prog.cellsOf 68) (h : DataW.Trod enc Tryz.prog W b sp hd 68 (.agg cs) d ps) : ∃ o : Ob, cs = #[.int .i64 o.1, .int .i64 o.2] := by
  obtain ⟨fuel, hf⟩ := h
  obtain ⟨n0, e0, _⟩ := int_at Tryz.underlying68 hf 0 rfl rfl
  obtain ⟨n1, e1, _⟩ := int_at Tryz.underlying68 hf 1 rfl rfl
  rw [cells68] at hn
  refine ⟨(n0, n1), ?_⟩
  obtain ⟨l⟩ := cs
  match l, hn with
  | [x, y], _ =>
    have e0 : some x = some (Value.int .i64 n0) := e0
    have e1 : some y = some (Value.int .i64 n1) := e1
    rw [Option.some.inj e0, Option.some.inj e1]
theorem sat_none : Sat W emp W := ⟨⟨fun _ => none, rfl, fun _ _ h => by cases h⟩, Below.refl _ _⟩
end
end Go.Proofs.YtdgcbapclnnkkaaGreat.X
end
section
/- The row of PredictTells, closed. Conditions: none. -/
set_option linter.unusedVariables false
set_option maxRecDepth 4000
namespace Go.Proofs.YtdgcbapclnnkkaaGreat.X
open Go Go.ChangeShapes Go.WideShapes Go.ChangeAt Go.RowKit
section
variable {H : Type} {enc : TypeId × Value → H} {W : World} {b : Nat} {sp : Nat → Bool} {hd : Bool}
theorem tells {x0 : Int} {x1 : Sl} {o : Ob} (h0 : 0 ≤ x0) (h1 : x0 ≤ 255) (hs : Scr W x1) :
    Calls Tryz.prog 6 #[.int .u8 x0, x1.v, .agg #[.int .i64 o.1, .int .i64 o.2]] W fun e w' => e = .returned (.bool true) ∧ Below W.heap.size W w' := by
  have h : c_law29_PredictTells x0 x1 o (fun b w' => b = true ∧ Below W.heap.size W w') W :=
    PredictTells_c (B := W) (R := emp) h0 h1 hs (kk := fun b w' => b = true ∧ Below W.heap.size W w') (fun w hw => ⟨rfl, hw.2⟩) W sat_none
  refine Calls.mono h fun e w' ⟨x, he, hx, hb⟩ => ⟨?_, hb⟩
  rw [he, hx]
end
theorem tells_contract (H : Type) (enc : TypeId × Value → H) (W : World) (base : Nat) (args : Array Value) (ds gs : List (DataW H)) (before : List MemPlace)
    (hval : ∀ (j : Nat) t v, Tryz.f6.params[j]? = some t → args[j]? = some v → Value.okWide Tryz.prog W .any base t v)
    (hW : DataW.Whole enc Tryz.prog Tryz.f6.params.toList Rows.predictTellsSpec.vars false W args.toList ds gs before) :
    Calls Tryz.prog 6 args W fun e W' => ∃ v, e = .returned v ∧ Rows.predictTellsSpec.post enc Tryz.prog Tryz.f6 false true false false W args v W' := by
  have hW' := hW
  obtain ⟨p, q, hA0, hV, rfl, hfz, hnd⟩ := hW
  have hA : DataW.TrodAll enc Tryz.prog W 0 (fun _ => true) true Tryz.f6.params.toList args.toList ds p := hA0
  have hAk := hA
  rw [Tryz.params6] at hA hval
  obtain ⟨v0, v1, v2, d0, d1, d2, p0, p1, p2, rfl, rfl, rfl, h0, h1, h2⟩ := trodAll_three hA
  obtain ⟨rfl, rfl⟩ := trodVars_none hV
  obtain ⟨a0, rfl, rfl, rfl, w0⟩ := open_int Tryz.underlying5 (hval 0 5 v0 (by simp) (by simp)) h0
  obtain ⟨a, len, cap, rfl⟩ := okWide_slice Tryz.underlying66 (hval 1 66 v1 (by simp) (by simp))
  obtain ⟨cs, rfl, hcs⟩ := okWide_struct Tryz.underlying68 (hval 2 68 v2 (by simp) (by simp))
  obtain ⟨o, rfl⟩ := ob_of hcs h2
  have hb := bounds_u8 w0
  simp only [List.append_nil] at hW'
  refine (tells (x1 := ⟨a, len, cap⟩) (o := o) hb.1 hb.2 (scr_of h1)).mono fun e W' ⟨he, hg⟩ => ?_
  subst he
  exact ⟨_, rfl, post_true hW' hAk hg rfl (by rw [Tryz.params6]; decide) (by kernel_rfl) rfl⟩
set_option maxRecDepth 100000 in
theorem tells_lifted (os : Os) (started : os.Started) (H : Type) (enc : TypeId × Value → H) :
    ReturnsInHanded {} Tryz.checked os 6 .any (Rows.predictTellsSpec.pre6 enc Tryz.prog Tryz.f6 Rows.predictTellsRow.domain false) (Rows.predictTellsSpec.post enc Tryz.prog Tryz.f6 false true false false) := by
  refine returnsInHanded_of_change (C := Tryz.checked) own started (by kernel_rfl) Tryz.func6
    (ChangeSpec.witness6 (enc := enc) (C := Tryz.checked) false ⟨#[], #[.int .u8 0, .slice none 0 0, .agg #[.int .i64 0, .int .i64 0]], []⟩ 8 (by kernel_rfl) (by kernel_rfl) (by kernel_rfl) (by kernel_rfl)) ?_
  intro W base args ds gs before hval hW _ _
  exact tells_contract H enc W base args ds gs before hval hW
theorem told : Rows.PredictTellsSaid :=
  OpenClaim.holds_of_wide 6 Tryz.f6 rfl rfl rfl rfl rfl rfl rfl ⟨rfl, rfl, rfl, rfl, rfl⟩ rfl rfl rfl rfl rfl (by kernel_rfl) Tryz.func6 (by kernel_rfl)
    (of_decide_eq_true (by kernel_rfl)) (by unfold Func.isWrapper; first | (rw [if_pos (by decide +kernel)]; kernel_rfl) | (rw [if_neg (by decide +kernel)]; exact ⟨rfl, rfl⟩))
    (fun os started H enc _ => tells_lifted os started H enc)
#print axioms told
end Go.Proofs.YtdgcbapclnnkkaaGreat.X
end
