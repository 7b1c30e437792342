/- Part 7 of the proof that the law holds for every input: the theorems of this part. Conditions: each theorem bears its own; the last has none. -/
import Derived.Test.YtdgcbapclnnkkaaGreatKf
import Derived.Test.YtdgcbapclnnkkaaGreatRows
import Derived.WalkKit
import Derived.ProofKit
import Derived.OpenShut
import Derived.JoinedCond
import Derived.ReadAgain
import Derived.Carry
set_option linter.all false
section
/- Contracts: a heap begun; a heap made by calls. Conditions: at most 2^20 blocks. -/
set_option linter.unusedVariables false
set_option maxRecDepth 4000
set_option maxHeartbeats 1000000
namespace Go.Proofs.YtdgcbapclnnkkaaGreat.X
open Go
def c0 (g : Nat) : List Int := wrH (List.replicate (8 * (64 * g)) 0) 1 (List.replicate (g - 1) (0, 0, 0))
def st0 (g : Nat) (F : RF) : St := ⟨hs0 g, F, c0 g, fun _ => false, fun _ => []⟩
theorem tells0 {g : Nat} (h : 2 ≤ g) (h2 : g ≤ 2 ^ 20) : Tells (c0 g) (hs0 g) := by
  refine ⟨by unfold hs0; rw [List.getElem?_replicate]; rw [if_pos (by omega)], fun b hb h' hh => ?_⟩
  unfold hs0 at hh
  rw [List.getElem?_replicate] at hh
  split at hh
  · rename_i hlt
    simp only [Option.some.injEq] at hh
    subst hh
    have e : getI (c0 g) (256 + b) = benc b (0, 0, 0) := by
      unfold getI
      rw [if_neg (by omega)]
      have e2 : (256 + (b : Int)).toNat = 256 + b := by omega
      rw [e2, List.getD_eq_getElem?_getD]
      unfold c0
      rw [wrH_get, if_neg (by simp; omega), List.getElem?_replicate, if_pos (by omega)]
      simp only [Option.map_some, Option.getD_some]
      congr 1; omega
    rw [e]
    exact bdec_benc (.inl rfl)
  · cases hh
section
variable {B : World} {P R : SL} {t : K}
theorem Begun_c {n : Nat} (h1 : 2 ≤ n) (h2 : n ≤ 2 ^ 20) {kk : ((Option Addr × (Option Addr × Sl)) × Bool) → K} (hk : ∀ a d F, T B (R * Al a d n (st0 n F)) (kk ((da a, (da d, nilS)), true))) : T B R (c_law20_Begun n kk) := by
  refine T_of (law20_Begun_ok _ kk) ?_
  (repeat (first | ((with_reducible apply T_ldI); (focus rfl); (focus (repeat (first | with_reducible exact Has.last | with_reducible exact Has.one | refine Has.init ?_))); (focus rfl)) | (with_reducible refine T_al ?_; intro _) | ((with_reducible apply T_st); (focus rfl); (focus (repeat (first | with_reducible exact Upd.last | with_reducible exact Upd.one | with_reducible apply Upd.init))); (focus simp); simp only [List.set, Nat.zero_add, Nat.reduceAdd])))
  rename_i b1 b2
  refine geom_Words_c (by omega) (by omega) ?_
  refine nvm_New_c (n := 64 * n) (by omega) (by omega) fun d => ?_
  unfold da
  skip
  (dsimp only [law20_Begun, law20_Begun_s0, law20_Begun_s1, law20_Begun_s2, law20_Begun_s3, law20_Begun_s4, law20_Begun_s5, law20_Begun_s6, law20_Begun_s7, law20_Begun_s8, law20_Begun_s9, law20_Begun_s10, law20_Begun_s11, law20_Begun_s12, law20_Begun_s13])
  simp only [Option.isNone_some]
  (repeat (first | with_reducible refine T_brF ?_ | ((with_reducible apply T_ldI); (focus rfl); (focus (repeat (first | with_reducible exact Has.last | with_reducible exact Has.one | refine Has.init ?_))); (focus rfl))))
  refine blocks_Format_c h1 h2 rfl fun la' _ => ?_
  (repeat' (first | ((with_reducible apply T_ldI); (focus rfl); (focus (repeat (first | with_reducible exact Has.last | with_reducible exact Has.one | refine Has.init ?_))); (focus rfl)) | ((with_reducible apply T_ldP); (focus rfl); (focus (repeat (first | with_reducible exact Has.last | with_reducible exact Has.one | refine Has.init ?_))); (focus rfl)) | ((with_reducible apply T_st); (focus rfl); (focus (repeat (first | with_reducible exact Upd.last | with_reducible exact Upd.one | with_reducible apply Upd.init))); (focus simp); simp only [List.set, Nat.zero_add, Nat.reduceAdd]) | with_reducible refine T_brNE (fun _ => ?_) (fun _ => ?_)))
  · rename_i h; exact absurd rfl h
  have ht := tells0 h1 h2
  refine LDx_close ?_
  refine bman_Open_c (g := n) h1 h2 ht fun m F => ?_
  (repeat' (first | with_reducible refine T_brT ?_ | ((with_reducible apply T_ldP); (focus rfl); (focus (repeat (first | with_reducible exact Has.last | with_reducible exact Has.one | refine Has.init ?_))); (focus rfl)) | ((with_reducible apply T_st); (focus rfl); (focus (repeat (first | with_reducible exact Upd.last | with_reducible exact Upd.one | with_reducible apply Upd.init))); (focus simp); simp only [List.set, Nat.zero_add, Nat.reduceAdd]) | with_reducible refine T_brNE (fun _ => ?_) (fun _ => ?_)))
  · rename_i h; exact absurd rfl h
  simp only [da, Option.isNone_some]
  (repeat (with_reducible refine T_brF ?_))
  refine alloc_New_c (g := n) (d := d) (m := m) h1 h2 fun a => ?_
  (repeat' (first | with_reducible refine T_tick ?_ | ((with_reducible apply T_ldP); (focus rfl); (focus (repeat (first | with_reducible exact Has.last | with_reducible exact Has.one | refine Has.init ?_))); (focus rfl)) | ((with_reducible apply T_st); (focus rfl); (focus (repeat (first | with_reducible exact Upd.last | with_reducible exact Upd.one | with_reducible apply Upd.init))); (focus simp); simp only [List.set, Nat.zero_add, Nat.reduceAdd]) | with_reducible refine T_brE (fun _ => ?_) (fun _ => ?_) | with_reducible refine T_brN ?_))
  · simp only [da, Option.isNone_some, Bool.not_false]
    (repeat (first | with_reducible refine T_nn ?_ | with_reducible refine T_brF ?_))
    refine T_bring (X := Al a d n (st0 n F)) .last ?_
    refine Al_open fun m2 u f => ?_
    unfold da
    (repeat (first | with_reducible refine T_chk0 ?_ | ((with_reducible apply T_ldP); (focus rfl); (focus (repeat (first | with_reducible exact Has.last | with_reducible exact Has.one | refine Has.init ?_))); (focus rfl)) | ((with_reducible apply T_st); (focus rfl); (focus (repeat (first | with_reducible exact Upd.last | with_reducible exact Upd.one | with_reducible apply Upd.init))); (focus simp); simp only [List.set, Nat.zero_add, Nat.reduceAdd]) | ((with_reducible apply T_chk); (focus rfl); (focus (repeat (first | with_reducible exact Has.last | with_reducible exact Has.one | refine Has.init ?_))); (focus rfl))))
    simp only [Option.isNone_some, Bool.not_false]
    skip
    have h3 := Al_close (m := m2) (u := u) (f := f) (hk a d F)
    refine T_ldS (n := nilS) (by rw [add_mk]) (by (repeat (first | with_reducible exact Has.last | with_reducible exact Has.one | refine Has.init ?_))) rfl ?_
    refine T_drop1 (by (repeat (first | with_reducible exact Frm.last | with_reducible exact Frm.one | with_reducible apply Frm.init)) : Frm _ (pt b1 (.cells [Value.pointer (some ⟨a, 0, none⟩), .pointer (some ⟨d, 0, none⟩), .slice none 0 0].toArray 29)) _) ?_
    refine T_drop1 (by (repeat (first | with_reducible exact Frm.last | with_reducible exact Frm.one | with_reducible apply Frm.init)) : Frm _ (pt b2 (.cells [Value.int .i64 n].toArray 43)) _) ?_
    exact T.perm (by unfold da; ac_rfl) h3
  · rename_i h; exact absurd rfl h
theorem T_ldBase {a : Addr} {kd : IntKind} {n : Int} {k : Int → K} (h : B.cell? a = some (.int kd n)) (ht : T B P (k n)) : T B P (ldI kd a k) := by
  intro w hw
  have hlt : a.block < B.heap.size := by
    unfold World.cell? at h
    cases hh : B.heap[a.block]? with
    | none => rw [hh] at h; cases h
    | some o => exact (Array.getElem?_eq_some_iff.1 hh).1
  exact ⟨n, by rw [hw.2.cell hlt]; exact h, ht w hw⟩
/-- a script of calls in the world of the law's call -/
def Scr (B : World) (x : Sl) : Prop := ∀ i : Nat, i < x.n → ∃ a, x.p = some a ∧ ∃ k m p d : Int, B.cell? ((a.add (i * 4)).add 0) = some (.int .i64 k) ∧ B.cell? ((a.add (i * 4)).add 1) = some (.int .i64 m) ∧ B.cell? ((a.add (i * 4)).add 2) = some (.int .i64 p) ∧ B.cell? ((a.add (i * 4)).add 3) = some (.int .i64 d)
theorem T_ixScr {x : Sl} (h : Scr B x) {i : Int} {k : Addr → K} (h0 : 0 ≤ i) (h1 : i < x.n) (ht : ∀ a kd m p d, B.cell? (a.add 0) = some (.int .i64 kd) → B.cell? (a.add 1) = some (.int .i64 m) → B.cell? (a.add 2) = some (.int .i64 p) → B.cell? (a.add 3) = some (.int .i64 d) → T B P (k a)) :
    T B P (ixS x.p x.n i 4 k) := by
  obtain ⟨a, ha, kd, m, p, d, e0, e1, e2, e3⟩ := h i.toNat (by omega)
  exact T_ixS ha h0 h1 (ht _ kd m p d e0 e1 e2 e3)
theorem T_exP {α : Type} {X : α → SL} {φ : α → Prop} (h : ∀ s, φ s → T B (X s) t) : T B (ex fun s => X s * pu (φ s)) t := by
  intro w hw
  obtain ⟨s, hw⟩ := sat_ex hw
  have k : T B (X s * pu (φ s)) t := T_pu fun hφ => h s hφ
  exact k w hw
theorem awake_c {kk : Bool → K} (hk : T B R (kk true)) : T B R (c_law29_awake kk) := by
  refine T_of (law29_awake_ok kk) ?_
  refine Begun_c (n := 2) (by omega) (by omega) fun a d F => ?_
  (repeat' (first | with_reducible refine T_brT ?_ | ((with_reducible apply T_ldP); (focus rfl); (focus (repeat (first | with_reducible exact Has.last | with_reducible exact Has.one | refine Has.init ?_))); (focus rfl)) | (with_reducible refine T_al ?_; intro _) | ((with_reducible apply T_st); (focus rfl); (focus (repeat (first | with_reducible exact Upd.last | with_reducible exact Upd.one | with_reducible apply Upd.init))); (focus simp); simp only [List.set, Nat.zero_add, Nat.reduceAdd])))
  have inv : Inv 2 (st0 2 F).hs (st0 2 F).U (st0 2 F).L := Inv.begun (by omega) (by omega)
  refine T_bring (X := Al a d 2 (st0 2 F)) (by (repeat (first | with_reducible exact Frm.last | with_reducible exact Frm.one | with_reducible apply Frm.init))) ?_
  refine Al_tie fun tie => ?_
  refine predict_Small_c (k := 31) inv (by omega) fun sn hc => ?_
  have e1 : sumI sn = 1 := by
    rw [sumI_free tie hc]
    have : nFree (st0 2 F).hs 2 = 1 := by show nFree (hs0 2) 2 = 1; decide +kernel
    rw [this]; rfl
  have e2 : cn 31 = 2 := by decide +kernel
  have e3 : valS (st0 2 F).L 31 sn = 2 := by
    unfold valS
    rw [e1, e2]
    show (((accL (fun _ => []) 31 4).length : Nat) : Int) + 1 * ((2 : Nat) : Int) = 2
    simp [accL]
  rw [e3]
  refine T.weak ?_
  refine T.weak ?_
  exact hk
theorem made_c {x0 : Int} {x1 : Sl} (h0 : 0 ≤ x0) (h1 : x0 ≤ 255) (hs : Scr B x1) {kk : Option Addr × Bool → K}
    (hk : ∀ a d s, Inv (2 + x0.toNat % 7) s.hs s.U s.L → T B (R * Al a d (2 + x0.toNat % 7) s) (kk (da a, true))) : T B R (c_law29_made x0 x1 kk) := by
  refine T_of (law29_made_ok x0 x1 kk) ?_
  have e0 : IntKind.wrap .i64 (2 + IntKind.wrap .i64 (Int.tmod x0 7)) = ((2 + x0.toNat % 7 : Nat) : Int) := by
    rw [Int.tmod_eq_emod_of_nonneg h0, w64 (n := x0 % 7) (by omega) (by omega), w64 (by omega) (by omega)]; omega
  (dsimp only [law29_made, law29_made_s0, law29_made_s1, law29_made_s2, law29_made_s3, law29_made_s4, law29_made_s5, law29_made_s6, law29_made_s7, law29_made_s8, law29_made_s9, law29_made_s10, law29_made_s11, law29_made_s12, law29_made_l13, law29_made_s14, law29_made_s15, law29_made_s16])
  rw [e0]
  generalize hg : 2 + x0.toNat % 7 = g at *
  have hg1 : 2 ≤ g := by omega
  have hg2 : g ≤ 8 := by omega
  refine Begun_c (n := g) hg1 (by omega) fun a d F => ?_
  (repeat (first | (with_reducible refine T_al ?_; intro _) | ((with_reducible apply T_st); (focus rfl); (focus (repeat (first | with_reducible exact Upd.last | with_reducible exact Upd.one | with_reducible apply Upd.init))); (focus simp); simp only [List.set, Nat.zero_add, Nat.reduceAdd])))
  rename_i b
  have inv0 : Inv g (st0 g F).hs (st0 g F).U (st0 g F).L := Inv.begun hg1 (by omega)
  refine T_lpW (fun _ _ => ex fun s : St => R * pt b (.cells [.pointer (da a), .pointer (da d), nilS.v].toArray 29) * Al a d g s * pu (Inv g s.hs s.U s.L)) (fun n (z : Int × Unit) => ∃ i : Nat, z.1 = i ∧ i ≤ 40 ∧ n = 40 - i) 40 (fun t ht => ?_) ⟨0, rfl, by omega, rfl⟩ ?_
  · intro w hw
    refine ht w (ex_sat (st0 g F) (Sat.puI inv0 ?_))
    exact hw.perm (by ac_rfl)
  rintro n ⟨z, uu⟩ c ⟨i, e1, e2, e3⟩ hc
  simp only at e1
  subst e1 e3
  dsimp only
  have next : ∀ s, Inv g s.hs s.U s.L → i < 40 → T B (R * pt b (.cells [.pointer (da a), .pointer (da d), nilS.v].toArray 29) * Al a d g s) (c (IntKind.wrap .i64 ((i : Int) + 1), ())) := by
    intro s inv hi w hw
    exact hc (40 - (i + 1)) (IntKind.wrap .i64 ((i : Int) + 1), ()) (by omega) ⟨i + 1, w64 (by omega) (by omega), by omega, rfl⟩ w (ex_sat s (Sat.puI inv hw))
  clear hc
  have nexts := next
  refine T_exP fun s inv => ?_
  have next := next s inv
  have done : T B (R * pt b (.cells [.pointer (da a), .pointer (da d), nilS.v].toArray 29) * Al a d g s) (kk (da a, true)) := T_drop1 (.init .last) (hk a d s inv)
  unfold da at *
  (repeat' (first | with_reducible refine T_brT ?_ | with_reducible refine T_brF ?_ | ((with_reducible apply T_ldP); (focus rfl); (focus (repeat (first | with_reducible exact Has.last | with_reducible exact Has.one | refine Has.init ?_))); (focus rfl)) | with_reducible refine T_brD (fun _ => ?_) (fun _ => ?_)))
  · rename_i h1 h2
    refine T_ixScr hs (by omega) h1 fun y kd m p dd q0 q1 q2 q3 => ?_
    refine T_ldBase q0 ?_
    refine T_ldBase q1 ?_
    refine T_ldBase q2 ?_
    refine T_ldBase q3 ?_
    (repeat (first | ((with_reducible apply T_ldP); (focus rfl); (focus (repeat (first | with_reducible exact Has.last | with_reducible exact Has.one | refine Has.init ?_))); (focus rfl)) | (with_reducible refine T_al ?_; intro _) | ((with_reducible apply T_st); (focus rfl); (focus (repeat (first | with_reducible exact Upd.last | with_reducible exact Upd.one | with_reducible apply Upd.init))); (focus simp); simp only [List.set, Nat.zero_add, Nat.reduceAdd])))
    rename_i b2
    refine T_bring (X := Al a d g s) (by (repeat (first | with_reducible exact Frm.last | with_reducible exact Frm.one | with_reducible apply Frm.init))) ?_
    refine Objects_c fun sl => ?_
    have hlen : ∀ t, (sl.n * 1 = (ints (uBel s.U (512 * g))).length → T B (R * pt b (.cells [.pointer (some ⟨a, 0, none⟩), .pointer (some ⟨d, 0, none⟩), nilS.v].toArray 29) * pt b2 (.cells [.int .i64 kd, .int .i64 m, .int .i64 p, .int .i64 dd].toArray 137) * Al a d g s * vec 3 1 sl (ints (uBel s.U (512 * g)))) t) → T B (R * pt b (.cells [.pointer (some ⟨a, 0, none⟩), .pointer (some ⟨d, 0, none⟩), nilS.v].toArray 29) * pt b2 (.cells [.int .i64 kd, .int .i64 m, .int .i64 p, .int .i64 dd].toArray 137) * Al a d g s * vec 3 1 sl (ints (uBel s.U (512 * g)))) t := fun t h => T_vlen .last h
    refine hlen _ fun hn => ?_
    clear hlen
    rw [ints_len, Nat.mul_one] at hn
    have ub := @uBel_len s.U (512 * g)
    -- back to the head
    have nx : ∀ s', Inv g s'.hs s'.U s'.L → T B (R * pt b (.cells [.pointer (some ⟨a, 0, none⟩), .pointer (some ⟨d, 0, none⟩), nilS.v].toArray 29) * pt b2 (.cells [.int .i64 kd, .int .i64 m, .int .i64 p, .int .i64 dd].toArray 137) * vec 3 1 sl (ints (uBel s.U (512 * g))) * Al a d g s') (c (IntKind.wrap .i64 ((i : Int) + 1), ())) := by
      intro s' inv'
      refine T_drop1 (.init .last) ?_
      refine T_drop1 (.init .last) ?_
      exact nexts s' inv' (by omega)
    have same : T B (R * pt b (.cells [.pointer (some ⟨a, 0, none⟩), .pointer (some ⟨d, 0, none⟩), nilS.v].toArray 29) * pt b2 (.cells [.int .i64 kd, .int .i64 m, .int .i64 p, .int .i64 dd].toArray 137) * Al a d g s * vec 3 1 sl (ints (uBel s.U (512 * g)))) (c (IntKind.wrap .i64 ((i : Int) + 1), ())) := T.perm (by ac_rfl) (nx s inv)
    (repeat' (first | with_reducible refine T_tick ?_ | with_reducible refine T_brF ?_ | ((with_reducible apply T_ldI); (focus rfl); (focus (repeat (first | with_reducible exact Has.last | with_reducible exact Has.one | refine Has.init ?_))); (focus rfl)) | ((with_reducible apply T_ldP); (focus rfl); (focus (repeat (first | with_reducible exact Has.last | with_reducible exact Has.one | refine Has.init ?_))); (focus rfl)) | with_reducible refine T_brD (fun _ => ?_) (fun _ => ?_) | with_reducible refine T_brE (fun _ => ?_) (fun _ => ?_)))
    · refine T_bring (X := Al a d g s) (by (repeat (first | with_reducible exact Frm.last | with_reducible exact Frm.one | with_reducible apply Frm.init))) ?_
      refine Alloc_c inv (by omega) (fun _ => nx s inv) (fun _ _ _ => nx s inv) (fun _ _ _ _ _ => nx s inv) (fun _ _ _ _ x s1 hr => nx _ ?_)
      obtain ⟨i1, i2, i3⟩ := hr.inv
      show Inv g s1.hs (uAdd s1.U x) s1.L
      rw [i3]; exact i1
    · rename_i h3 h4 h5 h6
      refine T_nz (by omega) ?_
      have e4 : Int.tmod p (sl.n : Int) = p % (sl.n : Int) := Int.tmod_eq_emod_of_nonneg (by omega)
      rw [e4]
      have hm1 := Int.emod_nonneg p (show (sl.n : Int) ≠ 0 by omega)
      have hm2 := Int.emod_lt_of_pos p (show (0 : Int) < sl.n by omega)
      have hlt : (p % (sl.n : Int)).toNat < (uBel s.U (512 * g)).length := by omega
      refine T_ixV (Rd.vec .last) hm1 (ints_at hlt) ?_
      refine T_bring (X := Al a d g s) (by (repeat (first | with_reducible exact Frm.last | with_reducible exact Frm.one | with_reducible apply Frm.init))) ?_
      refine Free_c inv (fun _ => nx s inv) (fun n s' o _ _ hf => nx s' hf.inv)
    all_goals exact same
  · exact done
  · exact done
end
end Go.Proofs.YtdgcbapclnnkkaaGreat.X
end
section
/- The law: so often as is told, and not once more, an object is made. Conditions: the arguments read as they are given. -/
set_option linter.unusedVariables false
set_option maxRecDepth 4000
set_option maxHeartbeats 1000000
namespace Go.Proofs.YtdgcbapclnnkkaaGreat.X
open Go
section
variable {B : World} {P R : SL} {t : K}
theorem ref08_Size_c {o : Ob} {kk : Int → K} (hk : T B R (kk (oSize o))) : T B R (c_ref08_Size o kk) := by
  refine T_of (ref08_Size_ok o kk) ?_
  (repeat' (first | with_reducible refine T_brT ?_ | ((with_reducible apply T_ldI); (focus rfl); (focus (repeat (first | with_reducible exact Has.last | with_reducible exact Has.one | refine Has.init ?_))); (focus rfl)) | (with_reducible refine T_al ?_; intro _) | with_reducible refine T_brD (fun _ => ?_) (fun _ => ?_)))
  all_goals (
    refine T_drop1 .last ?_
    first
    | (have e : oSize o = 0 := if_neg (fun h : oRight o => by unfold oRight at h; omega)
       rw [e] at hk; exact hk)
    | (have e : oSize o = 1 + o.1 + o.2 := if_pos (show oRight o by unfold oRight; omega)
       rw [w64 (n := 1 + o.1) (by omega) (by omega), w64 (by omega) (by omega), ← e]
       exact hk))
theorem law08_Ref_c {o : Ob} {kk : Ob → K} (hk : T B R (kk o)) : T B R (c_law08_Ref o kk) := by
  refine T_of (law08_Ref_ok o kk) ?_
  (repeat (first | ((with_reducible apply T_ldI); (focus rfl); (focus (repeat (first | with_reducible exact Has.last | with_reducible exact Has.one | refine Has.init ?_))); (focus rfl)) | (with_reducible refine T_al ?_; intro _) | ((with_reducible apply T_st); (focus rfl); (focus (repeat (first | with_reducible exact Upd.last | with_reducible exact Upd.one | with_reducible apply Upd.init))); (focus simp); simp only [List.set, Nat.zero_add, Nat.reduceAdd])))
  refine T.weak ?_
  refine T.weak ?_
  exact hk
theorem PredictKeeps_c {x0 : Int} {x1 : Sl} {o : Ob} (h0 : 0 ≤ x0) (h1 : x0 ≤ 255) (hs : Scr B x1) {kk : Bool → K} (hk : T B R (kk true)) : T B R (c_law29_PredictKeeps x0 x1 o kk) := by
  refine T_of (law29_PredictKeeps_ok x0 x1 o kk) ?_
  (repeat ((with_reducible refine T_al ?_; intro _)))
  rename_i b1
  refine awake_c ?_
  (dsimp only [law29_PredictKeeps, law29_PredictKeeps_s0, law29_PredictKeeps_s1, law29_PredictKeeps_s2, law29_PredictKeeps_s3, law29_PredictKeeps_s4, law29_PredictKeeps_s5, law29_PredictKeeps_s6, law29_PredictKeeps_s7, law29_PredictKeeps_s8, law29_PredictKeeps_s9, law29_PredictKeeps_s10, law29_PredictKeeps_s11, law29_PredictKeeps_s12, law29_PredictKeeps_l13, law29_PredictKeeps_s14, law29_PredictKeeps_s15, law29_PredictKeeps_s16, law29_PredictKeeps_s17, law29_PredictKeeps_s18, law29_PredictKeeps_s19, law29_PredictKeeps_s20, law29_PredictKeeps_s21, law29_PredictKeeps_s22, law29_PredictKeeps_s23, law29_PredictKeeps_s24, law29_PredictKeeps_s25])
  simp only [Bool.not_true]
  (repeat (with_reducible refine T_brF ?_))
  refine made_c h0 h1 hs fun a d s inv => ?_
  (dsimp only [law29_PredictKeeps, law29_PredictKeeps_s0, law29_PredictKeeps_s1, law29_PredictKeeps_s2, law29_PredictKeeps_s3, law29_PredictKeeps_s4, law29_PredictKeeps_s5, law29_PredictKeeps_s6, law29_PredictKeeps_s7, law29_PredictKeeps_s8, law29_PredictKeeps_s9, law29_PredictKeeps_s10, law29_PredictKeeps_s11, law29_PredictKeeps_s12, law29_PredictKeeps_l13, law29_PredictKeeps_s14, law29_PredictKeeps_s15, law29_PredictKeeps_s16, law29_PredictKeeps_s17, law29_PredictKeeps_s18, law29_PredictKeeps_s19, law29_PredictKeeps_s20, law29_PredictKeeps_s21, law29_PredictKeeps_s22, law29_PredictKeeps_s23, law29_PredictKeeps_s24, law29_PredictKeeps_s25])
  simp only [Bool.not_true]
  have hg2 : 2 ≤ 2 + x0.toNat % 7 := by omega
  have hg8 : 2 + x0.toNat % 7 ≤ 8 := by omega
  generalize 2 + x0.toNat % 7 = g at *
  (repeat (first | with_reducible refine T_brF ?_ | ((with_reducible apply T_ldI); (focus rfl); (focus (repeat (first | with_reducible exact Has.last | with_reducible exact Has.one | refine Has.init ?_))); (focus rfl))))
  rw [show ((o.1, o.2) : Ob) = o from rfl]
  refine Al_tie fun tie => ?_
  have fin : ∀ (v : Int), 0 ≤ v → v ≤ 3000 → (¬ fits g o → v = 0) → (fits g o → ∃ sn, Cov s.F sn ∧ val g s.L o sn = v) →
      T B (R * pt b1 (.cells [.int .i64 o.1, .int .i64 o.2].toArray 68) * Al a d g s) (law29_PredictKeeps_s17 kk ⟨b1, 0, none⟩ (da a) v) := by
    intro v hv0 hv1 hnf hf
    (repeat' (first | with_reducible refine T_brT ?_ | with_reducible refine T_brD (fun _ => ?_) (fun _ => ?_)))
    · exfalso; omega
    · exfalso; omega
    refine T_lpW (fun _ z => ex fun s : St => R * pt b1 (.cells [.int .i64 o.1, .int .i64 o.2].toArray 68) * Al a d g s * pu (Inv g s.hs s.U s.L ∧ (fits g o → ∃ sn, Cov s.F sn ∧ val g s.L o sn = v - z.1))) (fun n (z : Int × Unit) => ∃ i : Nat, z.1 = i ∧ (i : Int) ≤ v ∧ n = (v - i).toNat) v.toNat (fun t ht => ?_) ⟨0, rfl, by omega, by omega⟩ ?_
    · intro w hw
      refine ht w (ex_sat s (Sat.puI ⟨inv, fun h => ?_⟩ hw))
      obtain ⟨sn, c1, c2⟩ := hf h
      exact ⟨sn, c1, by rw [c2]; simp⟩
    rintro n ⟨z, uu⟩ c ⟨i, e1, e2, e3⟩ hc
    simp only at e1
    subst e1 e3
    dsimp only
    have nexts : ∀ s, Inv g s.hs s.U s.L → (fits g o → ∃ sn, Cov s.F sn ∧ val g s.L o sn = v - ((i : Int) + 1)) → (i : Int) < v → T B (R * pt b1 (.cells [.int .i64 o.1, .int .i64 o.2].toArray 68) * Al a d g s) (c (IntKind.wrap .i64 ((i : Int) + 1), ())) := by
      intro s inv hval hi w hw
      have e4 : IntKind.wrap .i64 ((i : Int) + 1) = (i : Int) + 1 := w64 (by omega) (by omega)
      refine hc (v - ((i + 1 : Nat) : Int)).toNat (IntKind.wrap .i64 ((i : Int) + 1), ()) (by omega) ⟨i + 1, e4, by omega, rfl⟩ w (ex_sat s (Sat.puI ⟨inv, ?_⟩ hw))
      rw [e4]; exact hval
    clear hc
    refine T_exP fun s ⟨inv, hval⟩ => ?_
    have em : ∀ j : Int, 0 ≤ j → Int.tmod j 4 = j % 4 ∧ 0 ≤ j % 4 ∧ j % 4 < 4 := fun j hj => ⟨Int.tmod_eq_emod_of_nonneg hj, by omega, by omega⟩
    refine Al_tie fun tie => ?_
    (repeat' (first | ((with_reducible apply T_ldI); (focus rfl); (focus (repeat (first | with_reducible exact Has.last | with_reducible exact Has.one | refine Has.init ?_))); (focus rfl)) | with_reducible refine T_brD (fun _ => ?_) (fun _ => ?_)))
    · rename_i hlt
      have hfit : fits g o := by
        refine Classical.byContradiction fun h => ?_
        have := hnf h; omega
      obtain ⟨sn, c1, c2⟩ := hval hfit
      obtain ⟨m1, m2, m3⟩ := em i (by omega)
      rw [m1]
      refine Alloc_c inv (by omega) (fun h => absurd ⟨m2, m3⟩ h) (fun _ _ h => ?_) (fun _ _ _ _ h => ?_) (fun _ _ _ _ x s1 hr => ?_)
      · exfalso
        have h : oSize o = 0 ∨ ((g : Int) - 1) * 512 < oSize o := h
        have := hfit.1; have := hfit.2
        rcases h with h | h <;> omega
      · exfalso
        have h : NoRoom s o := h
        have := val_none (g := g) tie.ok c1 h
        omega
      · skip
        obtain ⟨i1, i2, i3⟩ := hr.inv
        obtain ⟨sn1, d1, d2⟩ := val_step tie.ok c1 hfit hr
        refine T_brNE (fun h => absurd rfl h) (fun _ => ?_)
        refine nexts (made s1 o x) ?_ (fun _ => ⟨sn1, d1, ?_⟩) hlt
        · show Inv g s1.hs (uAdd s1.U x) s1.L
          rw [i3]; exact i1
        · show val g s1.L o sn1 = _
          omega
    · rename_i hge
      have hiv : (i : Int) = v := by omega
      obtain ⟨m1, m2, m3⟩ := em v hv0
      rw [m1]
      -- behind the last call
      have hr := oSize_rng o
      have last : ∀ e : Int, (¬ fits g o → e = 5 ∧ v = 0) → (fits g o → e = 4 ∧ ∃ sn, Cov s.F sn ∧ val g s.L o sn = 0) → T B (R * pt b1 (.cells [.int .i64 o.1, .int .i64 o.2].toArray 68) * Al a d g s) (law29_PredictKeeps_s6 kk ⟨b1, 0, none⟩ (da a) v e) := by
        intro e hnf2 hf2
        (repeat (((with_reducible apply T_ldI); (focus rfl); (focus (repeat (first | with_reducible exact Has.last | with_reducible exact Has.one | refine Has.init ?_))); (focus rfl))))
        refine law08_Ref_c ?_
        (repeat (first | with_reducible refine T_tick ?_ | ((with_reducible apply T_ldI); (focus rfl); (focus (repeat (first | with_reducible exact Has.last | with_reducible exact Has.one | refine Has.init ?_))); (focus rfl)) | (with_reducible refine T_al ?_; intro _) | ((with_reducible apply T_st); (focus rfl); (focus (repeat (first | with_reducible exact Upd.last | with_reducible exact Upd.one | with_reducible apply Upd.init))); (focus simp); simp only [List.set, Nat.zero_add, Nat.reduceAdd])))
        rename_i b2
        refine ref08_Size_c ?_
        rw [show ((o.1, o.2) : Ob) = o from rfl]
        refine T_bring (X := Al a d g s) (by (repeat (first | with_reducible exact Frm.last | with_reducible exact Frm.one | with_reducible apply Frm.init))) ?_
        have yes : ¬ fits g o → T B (R * pt b1 (.cells [.int .i64 o.1, .int .i64 o.2].toArray 68) * pt b2 (.cells [.int .i64 o.1, .int .i64 o.2].toArray 74) * Al a d g s) (law29_PredictKeeps_s4 kk ⟨b1, 0, none⟩ (da a) v e true) := by
          intro hno
          obtain ⟨q1, q2⟩ := hnf2 hno
          rw [q1, q2]
          (repeat' (first | with_reducible refine T_brT ?_ | with_reducible refine T_brE (fun _ => ?_) (fun _ => ?_)))
          · exact T.weak (T.weak (T.weak hk))
          · rename_i h; exact absurd rfl h
        have no : fits g o → T B (R * pt b1 (.cells [.int .i64 o.1, .int .i64 o.2].toArray 68) * pt b2 (.cells [.int .i64 o.1, .int .i64 o.2].toArray 74) * Al a d g s) (law29_PredictKeeps_s4 kk ⟨b1, 0, none⟩ (da a) v e false) := by
          intro hyes
          obtain ⟨q1, sn, q2, q3⟩ := hf2 hyes
          rw [q1]
          (repeat' (first | with_reducible refine T_brF ?_ | ((with_reducible apply T_ldI); (focus rfl); (focus (repeat (first | with_reducible exact Has.last | with_reducible exact Has.one | refine Has.init ?_))); (focus rfl)) | with_reducible refine T_brE (fun _ => ?_) (fun _ => ?_)))
          · rw [show ((o.1, o.2) : Ob) = o from rfl]
            refine predict_Object_c inv (fun sn' hc' => ?_) (fun hno => absurd hyes hno)
            rw [val_perm hc' q2, q3]
            exact T.weak (T.weak (T.weak hk))
          · rename_i h; exact absurd rfl h
        refine T_brE (fun hz => ?_) (fun hz => ?_)
        · exact yes (fun h => h.1 hz)
        -- the heap's length
        have rest : T B (R * pt b1 (.cells [.int .i64 o.1, .int .i64 o.2].toArray 68) * pt b2 (.cells [.int .i64 o.1, .int .i64 o.2].toArray 74) * Al a d g s) (law29_PredictKeeps_s4 kk ⟨b1, 0, none⟩ (da a) v e (decide (oSize o > IntKind.wrap .i64 (512 * IntKind.wrap .i64 ((g : Int) - 1))))) := by
          have hge2 : 2 ≤ g := inv.two
          rw [w64 (n := (g : Int) - 1) (by omega) (by omega), w64 (by omega) (by omega)]
          by_cases hb : oSize o > 512 * ((g : Int) - 1)
          · rw [decide_eq_true hb]
            exact yes (fun h => by have := h.2; omega)
          · rw [decide_eq_false hb]
            exact no ⟨hz, by omega⟩
        refine Al_open fun mm u f => ?_
        unfold da
        (repeat (first | with_reducible refine T_nn ?_ | ((with_reducible apply T_ldI); (focus rfl); (focus (repeat (first | with_reducible exact Has.last | with_reducible exact Has.one | refine Has.init ?_))); (focus rfl)) | ((with_reducible apply T_ldP); (focus rfl); (focus (repeat (first | with_reducible exact Has.last | with_reducible exact Has.one | refine Has.init ?_))); (focus rfl))))
        refine T_bring (X := Mg mm d g s.hs s.F) (by (repeat (first | with_reducible exact Frm.last | with_reducible exact Frm.one | with_reducible apply Frm.init))) ?_
        refine Mg_open fun tt xx tie2 => ?_
        unfold da
        (repeat (((with_reducible apply T_ldP); (focus rfl); (focus (repeat (first | with_reducible exact Has.last | with_reducible exact Has.one | refine Has.init ?_))); (focus rfl))))
        refine ref08_Size_c ?_
        rw [show ((o.1, o.2) : Ob) = o from rfl]
        (repeat (first | with_reducible refine T_chk0 ?_ | ((with_reducible apply T_chk); (focus rfl); (focus (repeat (first | with_reducible exact Has.last | with_reducible exact Has.one | refine Has.init ?_))); (focus rfl))))
        refine T_bring (X := Tab tt d g s.hs) (by (repeat (first | with_reducible exact Frm.last | with_reducible exact Frm.one | with_reducible apply Frm.init))) ?_
        refine blocks_Len_c ?_
        rw [tie2.len]
        have h2 := Al_close (m := mm) (u := u) (f := f) rest
        have h3 : T B (R * pt b1 (.cells [.int .i64 o.1, .int .i64 o.2].toArray 68) * pt b2 (.cells [.int .i64 o.1, .int .i64 o.2].toArray 74) * LDx d (64 * g) s.c * Bm u (512 * g) s.U * Fl f s.L * pt a (.cells [.pointer (da mm), .pointer (da d), .int .i64 g, .pointer (da u), .pointer (da f)].toArray 47) * Mg mm d g s.hs s.F) (law29_PredictKeeps_s4 kk ⟨b1, 0, none⟩ (da a) v e (decide (oSize o > IntKind.wrap .i64 (512 * IntKind.wrap .i64 ((g : Int) - 1))))) := T.perm (by ac_rfl) h2
        have h4 := Mg_close (a := tt) (x := xx) tie2 h3
        exact T.perm (by unfold da; ac_rfl) h4
      refine Alloc_c inv (by omega) (fun h => absurd ⟨m2, m3⟩ h) (fun _ _ h => ?_) (fun _ _ z1 z2 h => ?_) (fun _ _ z1 z2 x s1 hr2 => ?_)
      · have h : oSize o = 0 ∨ ((g : Int) - 1) * 512 < oSize o := h
        have hno : ¬ fits g o := fun hh => by
          have := hh.1; have := hh.2
          rcases h with h | h <;> omega
        exact last 5 (fun _ => ⟨rfl, hnf hno⟩) (fun h => absurd h hno)
      · have hyes : fits g o := ⟨z1, z2⟩
        obtain ⟨sn, c1, c2⟩ := hval hyes
        exact last 4 (fun h => absurd hyes h) (fun _ => ⟨rfl, sn, c1, by omega⟩)
      · exfalso
        have hyes : fits g o := ⟨z1, z2⟩
        obtain ⟨sn, c1, c2⟩ := hval hyes
        obtain ⟨sn1, d1, d2⟩ := val_step tie.ok c1 hyes hr2
        have ok1 : RunsOk g s1.F := by
          rcases hr2 with ⟨k, _, _, _, hr2⟩ | ⟨n, _, _, _, _, hr2⟩
          · rcases hr2.from_ with ⟨_, h2, _⟩ | ⟨b, q, _, _, hb, hq, _, _, h2, _⟩
            · rw [h2]; exact tie.ok
            · rw [h2]; exact tie.ok.take hb (by omega) hq
          · obtain ⟨b, q, _, _, _, _, hb, hq, _, _, h2, _⟩ := hr2.from_
            rw [h2]; exact tie.ok.take hb (by omega) hq
        have := val_nonneg (g := g) (L := s1.L) (o := o) ok1 d1
        omega
  refine predict_Object_c inv (fun sn hc => ?_) (fun hnf => ?_)
  · exact fin _ (val_nonneg tie.ok hc) (val_le inv tie hg8 hc) (fun h => by unfold val; rw [if_neg h]) (fun _ => ⟨sn, hc, rfl⟩)
  · exact fin 0 (by omega) (by omega) (fun _ => rfl) (fun h => absurd h hnf)
end
end Go.Proofs.YtdgcbapclnnkkaaGreat.X
end
section
/- The closing of the rows: an argument is read open, and reads behind the call as it did. Conditions: the arguments read as they are given. -/
set_option linter.unusedVariables false
set_option maxRecDepth 4000
namespace Go.Proofs.YtdgcbapclnnkkaaGreat.X
open Go Go.ChangeShapes Go.WideShapes Go.ChangeAt Go.RowKit
theorem own : ownKnob Tryz.prog.godebug = none := by kernel_rfl
theorem kids : Kids Tryz.prog (· < Tryz.prog.types.size) := kids_rows (by kernel_rfl) (by kernel_rfl)
theorem full : ∀ t e, t < Tryz.prog.types.size → Tryz.prog.underlying t = some (.slice e) → 0 < Tryz.prog.cellsOf e := slices_full_of Tryz.prog (by kernel_rfl)
theorem cells3 : Tryz.prog.cellsOf 3 = 1 := by kernel_rfl
section
variable {H : Type} {enc : TypeId × Value → H} {P : Program} {W W' : World} {b : Nat} {sp : Nat → Bool} {hd : Bool}
theorem carryAll : ∀ {ts : List TypeId} {vs : List Value} {ds : List (DataW H)} {ps : List MemPlace}, DataW.TrodAll enc P W b sp hd ts vs ds ps → (∀ p ∈ ps, W.sameAt W' p) → DataW.TrodAll enc P W' b sp hd ts vs ds ps
  | [], [], [], _, h, _ => h
  | _ :: _, _ :: _, _ :: _, _, ⟨_, _, ⟨n, hn⟩, h2, e⟩, hs =>
    ⟨_, _, ⟨n, DataW.trod_carry n _ _ _ hn (fun x hx => hs x (by rw [e]; exact List.mem_append_left _ hx))⟩, carryAll h2 (fun x hx => hs x (by rw [e]; exact List.mem_append_right _ hx)), e⟩
theorem int_at {fs : Array Field} {t : TypeId} {m : Nat} {cs : List Value} {x : DataW H × List MemPlace} (ht : Tryz.prog.underlying t = some (.struct fs)) (h : DataW.trod enc Tryz.prog W b sp hd m t cs = some x) (j : Nat) {f : Field}
    (hf : fs[j]? = some f) (h3 : f.type = 3) : ∃ n : Int, cs[f.offset]? = some (.int .i64 n) ∧ (Lit.int .i64 n).wf = true := by
  obtain ⟨xs, n, _, _, _, hxl, hfld⟩ := DataW.trod_struct ht h
  have hj : j < fs.size := (Array.getElem?_eq_some_iff.1 hf).1
  have h1 := hfld j f hf
  rw [List.getElem?_eq_getElem (by omega), h3] at h1
  obtain ⟨n, hn, _, hw⟩ := DataW.trod_int Tryz.underlying3 h1
  rw [cells3] at hn
  refine ⟨n, ?_, hw⟩
  have : ((cs.drop f.offset).take 1)[0]? = some (.int .i64 n) := by rw [hn]; rfl
  simpa using this
theorem post_true {f : Func} {s : ChangeSpec} {fresh handsOn again : Bool} {args : Array Value} {ds : List (DataW H)} {before : List MemPlace}
    (hW : DataW.Whole enc Tryz.prog f.params.toList s.vars false W args.toList ds [] before) (hA : DataW.TrodAll enc Tryz.prog W 0 (fun _ => true) true f.params.toList args.toList ds before)
    (hb : Below W.heap.size W W') (hv : s.vars = []) (hp : ∀ t ∈ f.params.toList, t < Tryz.prog.types.size) (hr : f.resultTypes = #[4]) (hfn : s.fn H ds = { results := [.lit (.bool true)], args := ds }) :
    s.post enc Tryz.prog f false fresh handsOn again W args (.bool true) W' := by
  have hold : ∀ p ∈ before, (fun b => decide (b < W.heap.size)) p.block = true := fun p hp => by simpa using hW.lt p hp
  have hT : ∀ sp : Nat → Bool, (∀ p ∈ before, sp p.block = true) → DataW.TrodAll enc Tryz.prog W' 0 sp true f.params.toList args.toList ds before :=
    fun sp hsp => carryAll (DataW.TrodAll.respare kids full hp hA hsp) (fun p hp => hb.same (hW.lt p hp))
  have hRes : ∀ (b : Nat) (sp : Nat → Bool) (hd : Bool), DataW.TrodAll enc Tryz.prog W' b sp hd f.resultTypes.toList ((Value.bool true).resultList f.resultTypes.size) [DataW.lit (.bool true)] [] := by
    intro b sp hd
    rw [hr]
    exact trodAll_cons_mk (shut_bool Tryz.underlying4 _) trodAll_mk0
  have hVar : ∀ sp, DataW.TrodVars enc Tryz.prog W' sp s.vars ([] : List (DataW H)) [] := fun sp => by rw [hv]; rfl
  have hlt := hW.lt
  have hfn' : s.fn H (ds ++ []) = { results := [.lit (.bool true)], args := ds } := by rw [List.append_nil]; exact hfn
  have hR : ∀ (b : Nat) (sp : Nat → Bool) (hd : Bool), DataW.TrodAll enc Tryz.prog W' b sp hd f.resultTypes.toList ((Value.bool true).resultList f.resultTypes.size) (s.fn H (ds ++ [])).results [] := by
    rw [hfn']; exact hRes
  have hAr : ∀ sp : Nat → Bool, (∀ p ∈ before, sp p.block = true) → DataW.TrodAll enc Tryz.prog W' 0 sp true f.params.toList args.toList (s.fn H (ds ++ [])).args before := by
    rw [hfn']; exact hT
  have hVr : ∀ sp, DataW.TrodVars enc Tryz.prog W' sp s.vars (s.fn H (ds ++ [])).vars [] := by
    rw [hfn']; exact hVar
  refine ⟨ds, [], before, [], before, [], hW, hR _ _ _, hAr _ hold, hVr _, World.keptBut_mono (fun p hp => ⟨hp, ?_⟩) (hb.frame (· ∈ before)), fun _ => ?_⟩
  · exact Or.inr (Or.inl hp)
  · obtain ⟨_, _, _, _, hq, hz, hn⟩ := hW
    refine ⟨ok_one (by rw [hr]) rfl (okWide_bool_mk Tryz.underlying4 _), _, _, ([] ++ before) ++ [], ⟨[] ++ before, [], trodAll_append (hAr _ (fun _ _ => rfl)) (hR _ _ _), hVr _, rfl, ?_, ?_⟩, ?_⟩
    · intro b off hp
      have hp : MemPlace.cell b off ∈ before := by simpa using hp
      rw [hb.frozen (p := ⟨b, off, none⟩) (hlt _ hp)]
      exact hz b off hp
    · intro ha
      simpa using hn ha
    · intro p hp _
      simpa using hp
end
end Go.Proofs.YtdgcbapclnnkkaaGreat.X
end
section
/- The row of PredictKeeps, closed. Conditions: none. -/
set_option linter.unusedVariables false
set_option maxRecDepth 4000
namespace Go.Proofs.YtdgcbapclnnkkaaGreat.X
open Go Go.ChangeShapes Go.WideShapes Go.ChangeAt Go.RowKit
theorem cells68 : Tryz.prog.cellsOf 68 = 2 := by kernel_rfl
theorem cells137 : Tryz.prog.cellsOf 137 = 4 := by kernel_rfl
section
variable {H : Type} {enc : TypeId × Value → H} {W : World} {b : Nat} {sp : Nat → Bool} {hd : Bool}
theorem scr_of {a : Option Addr} {len cap : Nat} {d : DataW H} {ps : List MemPlace} (h : DataW.Trod enc Tryz.prog W b sp hd 66 (.slice a len cap) d ps) : Scr W ⟨a, len, cap⟩ := by
  obtain ⟨fuel, hf⟩ := h
  rcases DataW.trod_slice Tryz.underlying66 hf with ⟨hcs, _⟩ | ⟨a', len', cap', elems, rest, n, _, hcs, _, _, _, _, hlen, hel, _, _⟩
  · simp [Value.cells] at hcs
    obtain ⟨rfl, rfl, rfl⟩ := hcs
    intro i hi
    exact absurd hi (Nat.not_lt_zero i)
  · simp [Value.cells] at hcs
    obtain ⟨rfl, rfl, rfl⟩ := hcs
    intro i hi
    refine ⟨a', rfl, ?_⟩
    have hi' : i < len := hi
    have h := hel i hi'
    rw [List.getElem?_eq_getElem (by omega), cells137] at h
    obtain ⟨cs, hc, hd⟩ := Option.bind_eq_some_iff.1 h
    obtain ⟨_, hl, hcell⟩ := World.cells?_some hc
    obtain ⟨n0, e0, _⟩ := int_at Tryz.underlying137 hd 0 rfl rfl
    obtain ⟨n1, e1, _⟩ := int_at Tryz.underlying137 hd 1 rfl rfl
    obtain ⟨n2, e2, _⟩ := int_at Tryz.underlying137 hd 2 rfl rfl
    obtain ⟨n3, e3, _⟩ := int_at Tryz.underlying137 hd 3 rfl rfl
    exact ⟨n0, n1, n2, n3, (hcell 0 (by omega)).trans e0, (hcell 1 (by omega)).trans e1, (hcell 2 (by omega)).trans e2, (hcell 3 (by omega)).trans e3⟩
theorem ob_of {cs : Array Value} {d : DataW H} {ps : List MemPlace} (hn : cs.size = Tryz.prog.cellsOf 68) (h : DataW.Trod enc Tryz.prog W b sp hd 68 (.agg cs) d ps) : ∃ o : Ob, cs = #[.int .i64 o.1, .int .i64 o.2] := by
  obtain ⟨fuel, hf⟩ := h
  obtain ⟨n0, e0, _⟩ := int_at Tryz.underlying68 hf 0 rfl rfl
  obtain ⟨n1, e1, _⟩ := int_at Tryz.underlying68 hf 1 rfl rfl
  rw [cells68] at hn
  refine ⟨(n0, n1), ?_⟩
  obtain ⟨l⟩ := cs
  match l, hn with
  | [x, y], _ =>
    have e0 : some x = some (Value.int .i64 n0) := e0
    have e1 : some y = some (Value.int .i64 n1) := e1
    rw [Option.some.inj e0, Option.some.inj e1]
theorem sat_none : Sat W emp W := ⟨⟨fun _ => none, rfl, fun _ _ h => by cases h⟩, Below.refl _ _⟩
theorem keeps {x0 : Int} {x1 : Sl} {o : Ob} (h0 : 0 ≤ x0) (h1 : x0 ≤ 255) (hs : Scr W x1) :
    Calls Tryz.prog 5 #[.int .u8 x0, x1.v, .agg #[.int .i64 o.1, .int .i64 o.2]] W fun e w' => e = .returned (.bool true) ∧ Below W.heap.size W w' := by
  have h : c_law29_PredictKeeps x0 x1 o (fun b w' => b = true ∧ Below W.heap.size W w') W :=
    PredictKeeps_c (B := W) (R := emp) h0 h1 hs (kk := fun b w' => b = true ∧ Below W.heap.size W w') (fun w hw => ⟨rfl, hw.2⟩) W sat_none
  refine Calls.mono h fun e w' ⟨x, he, hx, hb⟩ => ⟨?_, hb⟩
  rw [he, hx]
end
theorem keeps_contract (H : Type) (enc : TypeId × Value → H) (W : World) (base : Nat) (args : Array Value) (ds gs : List (DataW H)) (before : List MemPlace)
    (hval : ∀ (j : Nat) t v, Tryz.f5.params[j]? = some t → args[j]? = some v → Value.okWide Tryz.prog W .any base t v)
    (hW : DataW.Whole enc Tryz.prog Tryz.f5.params.toList Rows.predictKeepsSpec.vars false W args.toList ds gs before) :
    Calls Tryz.prog 5 args W fun e W' => ∃ v, e = .returned v ∧ Rows.predictKeepsSpec.post enc Tryz.prog Tryz.f5 false true false false W args v W' := by
  have hW' := hW
  obtain ⟨p, q, hA0, hV, rfl, hfz, hnd⟩ := hW
  have hA : DataW.TrodAll enc Tryz.prog W 0 (fun _ => true) true Tryz.f5.params.toList args.toList ds p := hA0
  have hAk := hA
  rw [Tryz.params5] at hA hval
  obtain ⟨v0, v1, v2, d0, d1, d2, p0, p1, p2, rfl, rfl, rfl, h0, h1, h2⟩ := trodAll_three hA
  obtain ⟨rfl, rfl⟩ := trodVars_none hV
  obtain ⟨a0, rfl, rfl, rfl, w0⟩ := open_int Tryz.underlying5 (hval 0 5 v0 (by simp) (by simp)) h0
  obtain ⟨a, len, cap, rfl⟩ := okWide_slice Tryz.underlying66 (hval 1 66 v1 (by simp) (by simp))
  obtain ⟨cs, rfl, hcs⟩ := okWide_struct Tryz.underlying68 (hval 2 68 v2 (by simp) (by simp))
  obtain ⟨o, rfl⟩ := ob_of hcs h2
  have hb := bounds_u8 w0
  simp only [List.append_nil] at hW'
  refine (keeps (x1 := ⟨a, len, cap⟩) (o := o) hb.1 hb.2 (scr_of h1)).mono fun e W' ⟨he, hg⟩ => ?_
  subst he
  exact ⟨_, rfl, post_true hW' hAk hg rfl (by rw [Tryz.params5]; decide) (by kernel_rfl) rfl⟩
set_option maxRecDepth 100000 in
theorem keeps_lifted (os : Os) (started : os.Started) (H : Type) (enc : TypeId × Value → H) :
    ReturnsInHanded {} Tryz.checked os 5 .any (Rows.predictKeepsSpec.pre6 enc Tryz.prog Tryz.f5 Rows.predictKeepsRow.domain false) (Rows.predictKeepsSpec.post enc Tryz.prog Tryz.f5 false true false false) := by
  refine returnsInHanded_of_change (C := Tryz.checked) own started (by kernel_rfl) Tryz.func5
    (ChangeSpec.witness6 (enc := enc) (C := Tryz.checked) false ⟨#[], #[.int .u8 0, .slice none 0 0, .agg #[.int .i64 0, .int .i64 0]], []⟩ 8 (by kernel_rfl) (by kernel_rfl) (by kernel_rfl) (by kernel_rfl)) ?_
  intro W base args ds gs before hval hW _ _
  exact keeps_contract H enc W base args ds gs before hval hW
theorem proved : Rows.PredictKeepsSaid :=
  OpenClaim.holds_of_wide 5 Tryz.f5 rfl rfl rfl rfl rfl rfl rfl ⟨rfl, rfl, rfl, rfl, rfl⟩ rfl rfl rfl rfl rfl (by kernel_rfl) Tryz.func5 (by kernel_rfl)
    (of_decide_eq_true (by kernel_rfl)) (by unfold Func.isWrapper; first | (rw [if_pos (by decide +kernel)]; kernel_rfl) | (rw [if_neg (by decide +kernel)]; exact ⟨rfl, rfl⟩))
    (fun os started H enc _ => keeps_lifted os started H enc)
#print axioms proved
end Go.Proofs.YtdgcbapclnnkkaaGreat.X
end
