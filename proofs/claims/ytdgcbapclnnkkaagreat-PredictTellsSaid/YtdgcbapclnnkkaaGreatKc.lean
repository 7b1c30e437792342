/- Part 3 of the proof that the law holds for every input: the theorems of this part. Conditions: each theorem bears its own; the last has none. -/
import Derived.Test.YtdgcbapclnnkkaaGreatKb
set_option linter.all false
section
/- Contracts: the device. Conditions: at most 2^32 lines. -/
set_option linter.unusedVariables false
set_option maxRecDepth 4000
namespace Go.Proofs.YtdgcbapclnnkkaaGreat.X
open Go
structure Dv where
  lasting : List Int
  cache : List Int
  flushed : List Int
  dirty : List Bool
  pending : List Bool
  steps : Int
  fuse : Int
  armed : Bool
  dead : Bool
structure Dv.Ok (v : Dv) (n : Nat) : Prop where
  big : n ≤ 2 ^ 32
  l1 : v.lasting.length = 8 * n
  l2 : v.cache.length = 8 * n
  l3 : v.flushed.length = 8 * n
  l4 : v.dirty.length = n
  l5 : v.pending.length = n
abbrev Q5 := Sl × Sl × Sl × Sl × Sl
def devC (v : Dv) (q : Q5) : Obj := .cells [q.1.v, q.2.1.v, q.2.2.1.v, q.2.2.2.1.v, q.2.2.2.2.v, .int .i64 v.steps, .int .i64 v.fuse, .bool v.armed, .bool v.dead].toArray 165
def DevQ (d : Nat) (v : Dv) (q : Q5) : SL :=
  vec 109 1 q.1 (wds v.lasting) * vec 109 1 q.2.1 (wds v.cache) * vec 109 1 q.2.2.1 (wds v.flushed) * vec 4 1 q.2.2.2.1 (bls v.dirty) * vec 4 1 q.2.2.2.2 (bls v.pending) * pt d (devC v q)
def Dev (d : Nat) (v : Dv) : SL := ex (DevQ d v)
def da (d : Nat) : Option Addr := some ⟨d, 0, none⟩
section
variable {B : World} {R : SL} {t : K}
theorem Dev_open {d : Nat} {v : Dv} (h : ∀ q, T B (R * vec 109 1 q.1 (wds v.lasting) * vec 109 1 q.2.1 (wds v.cache) * vec 109 1 q.2.2.1 (wds v.flushed) * vec 4 1 q.2.2.2.1 (bls v.dirty) * vec 4 1 q.2.2.2.2 (bls v.pending) * pt d (devC v q)) t) : T B (R * Dev d v) t := by
  refine T_ex fun q => T.perm ?_ (h q)
  unfold DevQ; simp only [sep_assoc]
theorem Dev_close {d : Nat} {v : Dv} (q : Q5) (h : T B (R * Dev d v) t) : T B (R * vec 109 1 q.1 (wds v.lasting) * vec 109 1 q.2.1 (wds v.cache) * vec 109 1 q.2.2.1 (wds v.flushed) * vec 4 1 q.2.2.2.1 (bls v.dirty) * vec 4 1 q.2.2.2.2 (bls v.pending) * pt d (devC v q)) t := by
  refine T.perm ?_ (T_exI q h)
  unfold DevQ; simp only [sep_assoc]
def getI (l : List Int) (a : Int) : Int := if a < 0 then 0 else l.getD a.toNat 0
theorem nvm_Len_c {d : Nat} {v : Dv} {k : Int → K} (hk : T B (R * Dev d v) (k v.cache.length)) : T B (R * Dev d v) (c_nvm_Device_Len (da d) k) := by
  refine T_of (nvm_Device_Len_ok _ k) ?_
  unfold da
  refine Dev_open fun q => ?_
  unfold devC
  (repeat (first | with_reducible refine T_nn ?_ | ((with_reducible apply T_ldS); (focus rfl); (focus exact hasA); (focus rfl))))
  refine T_vlen (E := 109) (sz := 1) (s := q.2.1) (vs := wds v.cache) (.init (.init (.init (.init .last)))) fun hn => ?_
  rw [wds_len, Nat.mul_one] at hn
  rw [hn]
  exact Dev_close q hk
theorem nvm_Get_c {d : Nat} {v : Dv} {a : Int} {k : Int → K} (hk : T B (R * Dev d v) (k (getI v.cache a))) : T B (R * Dev d v) (c_nvm_Device_Get (da d) a k) := by
  refine T_of (nvm_Device_Get_ok _ a k) ?_
  unfold da getI at *
  (repeat' (first | with_reducible refine T_nn ?_ | with_reducible refine T_brT ?_ | with_reducible refine T_brD (fun _ => ?_) (fun _ => ?_)))
  · rename_i h
    rw [if_pos h] at hk; exact hk
  · rename_i h
    rw [if_neg h] at hk
    refine Dev_open fun q => ?_
    unfold devC
    (repeat (((with_reducible apply T_ldS); (focus rfl); (focus exact hasA); (focus rfl))))
    refine T_vlen (E := 109) (sz := 1) (s := q.2.1) (vs := wds v.cache) (.init (.init (.init (.init .last)))) fun hn => ?_
    rw [wds_len, Nat.mul_one] at hn
    (repeat' (first | with_reducible refine T_nn ?_ | ((with_reducible apply T_ldS); (focus rfl); (focus exact hasA); (focus rfl)) | with_reducible refine T_brD (fun _ => ?_) (fun _ => ?_)))
    · rename_i h2
      rw [List.getD_eq_getElem?_getD, List.getElem?_eq_none (by omega)] at hk
      exact Dev_close q hk
    · rename_i h2
      have hlt : a.toNat < v.cache.length := by omega
      refine T_ixV (Rd.vec (E := 109) (s := q.2.1) (vs := wds v.cache) (.init (.init (.init (.init .last))))) (by omega) (wds_at hlt) ?_
      rw [List.getD_eq_getElem?_getD, List.getElem?_eq_getElem hlt] at hk
      exact Dev_close q hk
def Dv.stops (v : Dv) : Bool := v.dead || (v.armed && v.fuse == 0)
def Dv.stepV (v : Dv) : Dv := if v.stops then { v with dead := true } else { v with fuse := IntKind.wrap .i64 (v.fuse - 1), steps := IntKind.wrap .i64 (v.steps + 1) }
theorem nvm_step_c {d : Nat} {v : Dv} {k : Bool → K} (hk : T B (R * Dev d v.stepV) (k (!v.stops))) : T B (R * Dev d v) (c_nvm_Device_step (da d) k) := by
  refine T_of (nvm_Device_step_ok _ k) ?_
  unfold da
  refine Dev_open fun q => ?_
  unfold devC
  obtain ⟨l1, l2, l3, l4, l5, st, fu, ar, de⟩ := v
  cases de <;> cases ar <;> simp only [Dv.stops, Dv.stepV, Bool.false_or, Bool.true_or, Bool.false_and, Bool.true_and, if_true, Bool.not_true, Bool.not_false, Bool.false_eq_true, if_false] at hk
  · (repeat' (first | with_reducible refine T_nn ?_ | with_reducible refine T_brF ?_ | ((with_reducible apply T_ldI); (focus rfl); (focus exact hasA); (focus rfl)) | ((with_reducible apply T_ldB); (focus rfl); (focus exact hasA); (focus rfl)) | ((with_reducible apply T_st); (focus rfl); (focus exact updA); (focus simp); simp only [List.set, Nat.zero_add, Nat.reduceAdd])))
    exact Dev_close (v := ⟨l1, l2, l3, l4, l5, IntKind.wrap .i64 (st + 1), IntKind.wrap .i64 (fu - 1), false, false⟩) q hk
  · (repeat' (first | with_reducible refine T_nn ?_ | with_reducible refine T_brT ?_ | with_reducible refine T_brF ?_ | ((with_reducible apply T_ldI); (focus rfl); (focus exact hasA); (focus rfl)) | ((with_reducible apply T_ldB); (focus rfl); (focus exact hasA); (focus rfl)) | ((with_reducible apply T_st); (focus rfl); (focus exact updA); (focus simp); simp only [List.set, Nat.zero_add, Nat.reduceAdd]) | with_reducible refine T_brE (fun _ => ?_) (fun _ => ?_)))
    · rename_i h0
      simp only at h0
      subst h0
      exact Dev_close (v := ⟨l1, l2, l3, l4, l5, st, 0, true, true⟩) q hk
    · rename_i h0
      simp only [ne_eq] at h0
      have : (fu == 0) = false := by simpa using h0
      rw [this] at hk
      exact Dev_close (v := ⟨l1, l2, l3, l4, l5, IntKind.wrap .i64 (st + 1), IntKind.wrap .i64 (fu - 1), true, false⟩) q hk
  · (repeat' (first | with_reducible refine T_nn ?_ | with_reducible refine T_brT ?_ | ((with_reducible apply T_ldB); (focus rfl); (focus exact hasA); (focus rfl)) | ((with_reducible apply T_st); (focus rfl); (focus exact updA); (focus simp); simp only [List.set, Nat.zero_add, Nat.reduceAdd])))
    exact Dev_close (v := ⟨l1, l2, l3, l4, l5, st, fu, false, true⟩) q hk
  · (repeat' (first | with_reducible refine T_nn ?_ | with_reducible refine T_brT ?_ | ((with_reducible apply T_ldB); (focus rfl); (focus exact hasA); (focus rfl)) | ((with_reducible apply T_st); (focus rfl); (focus exact updA); (focus simp); simp only [List.set, Nat.zero_add, Nat.reduceAdd])))
    exact Dev_close (v := ⟨l1, l2, l3, l4, l5, st, fu, true, true⟩) q hk
def Dv.storeV (v : Dv) (a w : Int) : Int × Dv :=
  if a < 0 ∨ a ≥ v.cache.length then (2, v) else if v.stops then (3, v.stepV) else (0, { v.stepV with cache := v.cache.set a.toNat w, dirty := v.dirty.set (a / 8).toNat true })
theorem stepV_same (v : Dv) : v.stepV.cache = v.cache ∧ v.stepV.dirty = v.dirty ∧ v.stepV.lasting = v.lasting ∧ v.stepV.flushed = v.flushed ∧ v.stepV.pending = v.pending := by
  unfold Dv.stepV; split <;> exact ⟨rfl, rfl, rfl, rfl, rfl⟩
theorem nvm_Store_c {d n : Nat} {v : Dv} {a w : Int} (ok : v.Ok n) {k : Int → K} (hk : T B (R * Dev d (v.storeV a w).2) (k (v.storeV a w).1)) : T B (R * Dev d v) (c_nvm_Device_Store (da d) a w k) := by
  refine T_of (nvm_Device_Store_ok _ a w k) ?_
  have hb := ok.big
  have h2 := ok.l2
  have h4 := ok.l4
  unfold Dv.storeV at hk
  by_cases hr : a < 0 ∨ a ≥ v.cache.length
  · rw [if_pos hr] at hk
    (repeat' (first | with_reducible refine T_brT ?_ | with_reducible refine T_brD (fun _ => ?_) (fun _ => ?_)))
    · exact hk
    · unfold da
      refine Dev_open fun q => ?_
      unfold devC
      (repeat (first | with_reducible refine T_nn ?_ | ((with_reducible apply T_ldS); (focus rfl); (focus exact hasA); (focus rfl))))
      refine T_vlen (E := 109) (sz := 1) (s := q.2.1) (vs := wds v.cache) (.init (.init (.init (.init .last)))) fun hn => ?_
      rw [wds_len, Nat.mul_one] at hn
      (repeat' (with_reducible refine T_brD (fun _ => ?_) (fun _ => ?_)))
      · exact Dev_close q hk
      · exfalso; omega
  · rw [if_neg hr] at hk
    (repeat' (first | with_reducible refine T_brT ?_ | with_reducible refine T_brD (fun _ => ?_) (fun _ => ?_)))
    · exfalso; omega
    refine Dev_open fun q => ?_
    unfold devC
    unfold da
    (repeat (first | with_reducible refine T_nn ?_ | ((with_reducible apply T_ldS); (focus rfl); (focus exact hasA); (focus rfl))))
    refine T_vlen (E := 109) (sz := 1) (s := q.2.1) (vs := wds v.cache) (.init (.init (.init (.init .last)))) fun hn => ?_
    rw [wds_len, Nat.mul_one] at hn
    (repeat' (with_reducible refine T_brD (fun _ => ?_) (fun _ => ?_)))
    · exfalso; omega
    refine Dev_close q ?_
    refine nvm_step_c (d := d) ?_
    cases hs : v.stops
    · rw [hs] at hk
      simp only [Bool.not_true, Bool.not_false]
      (repeat (first | with_reducible refine T_nn ?_ | with_reducible refine T_brF ?_))
      refine Dev_open fun q => ?_
      unfold devC
      obtain ⟨e1, e2, e3, e4, e5⟩ := stepV_same v
      rw [e1, e2, e3, e4, e5]
      (repeat (((with_reducible apply T_ldS); (focus rfl); (focus exact hasA); (focus rfl))))
      refine T_stV (i := a) (E := 109) (s := q.2.1) (vs := wds v.cache) (.init (.init (.init (.init .last)))) (by omega) (by rw [wds_len]; omega) ?_
      rw [wds_set]
      (repeat (first | with_reducible refine T_nn ?_ | ((with_reducible apply T_ldS); (focus rfl); (focus exact hasA); (focus rfl))))
      have e8 : Int.tdiv a 8 = a / 8 := Int.tdiv_eq_ediv_of_nonneg (by omega)
      rw [e8, w64 (n := a / 8) (by omega) (by omega)]
      refine T_stV (i := a / 8) (E := 4) (s := q.2.2.2.1) (vs := bls v.dirty) (.init (.init (.init .last))) (by omega) (by rw [bls_len]; omega) ?_
      rw [bls_set]
      simp only [Bool.false_eq_true, if_false] at hk
      have hk' := Dev_close q hk
      refine T.perm ?_ hk'
      simp only [e3, e4, e5]
      unfold devC
      ac_rfl
    · rw [hs] at hk
      simp only [Bool.not_true, Bool.not_false]
      (repeat (with_reducible refine T_brT ?_))
      exact hk
theorem nvm_part_c {d : Option Addr} {s : Sl} {line : Nat} (h1 : line ≤ 2 ^ 40) (h2 : 8 * line + 8 ≤ s.n) (h3 : s.n ≤ s.c) {k : Sl → K} (hk : T B R (k ⟨cutP s.p (8 * line) s.c 1, 8, s.c - 8 * line⟩)) : T B R (c_nvm_Device_part d s line k) := by
  refine T_of (nvm_Device_part_ok _ s line k) ?_
  have e1 : IntKind.wrap .i64 ((IntKind.wrap .i64 ((line : Int) + 1)) * 8) = ((8 * line + 8 : Nat) : Int) := by rw [w64 (n := (line : Int) + 1) (by omega) (by omega), w64 (by omega) (by omega)]; omega
  have e2 : IntKind.wrap .i64 ((line : Int) * 8) = ((8 * line : Nat) : Int) := by rw [w64 (by omega) (by omega)]; omega
  (dsimp only [nvm_Device_part, nvm_Device_part_s0, nvm_Device_part_s1])
  rw [e1, e2]
  refine T_lo (by omega) (by omega) ?_
  refine T_lo (by omega) (by omega) ?_
  rw [Int.toNat_natCast, Int.toNat_natCast, show 8 * line + 8 - 8 * line = 8 by omega]
  exact hk
end
end Go.Proofs.YtdgcbapclnnkkaaGreat.X
end
section
/- Contracts: the device: what is flushed, fenced, made. Conditions: at most 2^32 lines. -/
set_option linter.unusedVariables false
set_option maxRecDepth 4000
namespace Go.Proofs.YtdgcbapclnnkkaaGreat.X
open Go
theorem wds_cut (l : List Int) (o n : Nat) : wds (cut l o n) = cut (wds l) o n := cut_map _ _ _ _
theorem wds_splice (l new : List Int) (o : Nat) : wds (splice l o new) = splice (wds l) o (wds new) := splice_map _ _ _ _
section
variable {B : World} {P R : SL} {t : K}
theorem T_rdfull {x : Sl} {vs : List Value} (h : Rd P x 1 vs) (ht : x.n = vs.length → x.n ≤ x.c → T B P t) : T B P t := fun w s => ht (by rw [(h B w s).1, Nat.mul_one]) (by have := (h B w s).2.1; omega) w s
theorem Rd.pieceW {x y : Sl} {l : List Int} {o n : Nat} (h : Rd P x 1 (wds l)) (ho : o + n ≤ l.length) (h1 : y.p = cutP x.p o x.c 1) (h2 : y.n = n) (h3 : y.c = x.c - o) : Rd P y 1 (wds (cut l o n)) := by
  have := Rd.piece (o := o) (n := n) (by omega) h (by rw [wds_len]; omega) h1 h2 h3
  rw [Nat.mul_one, Nat.mul_one, ← wds_cut] at this
  exact this
def line8 (v : Dv) (l : Nat) : Dv := { v with pending := v.pending.set l true, flushed := splice v.flushed (8 * l) (cut v.cache (8 * l) 8) }
def Dv.flushV (v : Dv) (l : Nat) : Int × Dv := if v.stops then (3, v.stepV) else (0, if v.dirty.getD l false then line8 v.stepV l else v.stepV)
theorem nvm_Flush_c {d n : Nat} {v : Dv} {l : Nat} (ok : v.Ok n) (hl : l < n) {k : Int → K} (hk : T B (R * Dev d (v.flushV l).2) (k (v.flushV l).1)) : T B (R * Dev d v) (c_nvm_Device_Flush (da d) l k) := by
  refine T_of (nvm_Device_Flush_ok _ l k) ?_
  have hb := ok.big
  have h2 := ok.l2
  have h3 := ok.l3
  have h4 := ok.l4
  have h5 := ok.l5
  unfold Dv.flushV at hk
  (repeat' (first | with_reducible refine T_brT ?_ | with_reducible refine T_brD (fun _ => ?_) (fun _ => ?_)))
  · exfalso; omega
  refine Dev_open fun q => ?_
  unfold devC
  unfold da
  (repeat (first | with_reducible refine T_nn ?_ | ((with_reducible apply T_ldS); (focus rfl); (focus exact hasA); (focus rfl))))
  refine T_vlen (E := 4) (sz := 1) (s := q.2.2.2.1) (vs := bls v.dirty) (.init (.init .last)) fun hn => ?_
  rw [bls_len, Nat.mul_one] at hn
  (repeat' (with_reducible refine T_brD (fun _ => ?_) (fun _ => ?_)))
  · exfalso; omega
  refine Dev_close q ?_
  refine nvm_step_c (d := d) ?_
  cases hs : v.stops
  · rw [hs] at hk
    simp only [Bool.not_true, Bool.not_false]
    (repeat (first | with_reducible refine T_nn ?_ | with_reducible refine T_brF ?_))
    refine Dev_open fun q => ?_
    unfold devC
    have hs' : ∀ w : Dv, w = v.stepV → w.stepV = w.stepV := fun _ _ => rfl
    obtain ⟨e1, e2, e3, e4, e5⟩ := stepV_same v
    generalize v.stepV = w at *
    (repeat (((with_reducible apply T_ldS); (focus rfl); (focus exact hasA); (focus rfl))))
    have hld : l < w.dirty.length := by rw [e2]; omega
    refine T_ixVB (Rd.vec (E := 4) (s := q.2.2.2.1) (vs := bls w.dirty) (.init (.init .last))) (by omega) (by rw [Int.toNat_natCast]; exact bls_at hld) ?_
    simp only [Bool.false_eq_true, if_false] at hk
    rw [← e2, List.getD_eq_getElem?_getD, List.getElem?_eq_getElem hld, Option.getD_some] at hk
    cases hd : w.dirty[l]
    · rw [hd] at hk
      (repeat (with_reducible refine T_brF ?_))
      exact Dev_close q hk
    · rw [hd] at hk
      (repeat (first | with_reducible refine T_nn ?_ | with_reducible refine T_brT ?_ | ((with_reducible apply T_ldS); (focus rfl); (focus exact hasA); (focus rfl))))
      refine T_stV (i := l) (E := 4) (s := q.2.2.2.2) (vs := bls w.pending) (.init .last) (by omega) (by rw [bls_len]; rw [e5]; omega) ?_
      rw [bls_set, Int.toNat_natCast]
      (repeat (first | with_reducible refine T_nn ?_ | with_reducible refine T_tick ?_ | ((with_reducible apply T_ldS); (focus rfl); (focus exact hasA); (focus rfl))))
      refine T_rdfull (x := q.2.2.1) (Rd.vec (E := 109) (vs := wds w.flushed) (.init (.init (.init .last)))) fun n3 c3 => ?_
      refine T_rdfull (x := q.2.1) (Rd.vec (E := 109) (vs := wds w.cache) (.init (.init (.init (.init .last))))) fun n2 c2 => ?_
      rw [wds_len] at n2 n3
      rw [e1] at n2
      rw [e4] at n3
      refine nvm_part_c (by omega) (by omega) c3 ?_
      (repeat (first | with_reducible refine T_chk0 ?_ | ((with_reducible apply T_chk); (focus rfl); (focus exact hasA); (focus rfl))))
      refine nvm_part_c (by omega) (by omega) c2 ?_
      refine T_copyV (o := 8 * l) kd_u64 (s := q.2.2.1) (vs := wds w.flushed) (.init (.init (.init .last)))
        (Rd.pieceW (l := w.cache) (o := 8 * l) (n := 8) (Rd.vec (E := 109) (s := q.2.1) (.init (.init (.init .last)))) (by rw [e1]; omega) rfl rfl rfl) (wds_scal _) rfl rfl (by rw [wds_len, e4]; simp only; omega) ?_
      rw [← wds_splice]
      refine T.perm ?_ (Dev_close q hk)
      simp only [if_true, line8]
      unfold devC
      ac_rfl
  · rw [hs] at hk
    simp only [Bool.not_true, Bool.not_false]
    (repeat (with_reducible refine T_brT ?_))
    exact hk
def fenceL (v : Dv) (l : Nat) : Dv :=
  if v.pending.getD l false then { v with lasting := splice v.lasting (8 * l) (cut v.flushed (8 * l) 8), pending := v.pending.set l false, dirty := v.dirty.set l (!decide (cut (splice v.lasting (8 * l) (cut v.flushed (8 * l) 8)) (8 * l) 8 = cut v.cache (8 * l) 8)) } else v
def fenceN (v : Dv) : Nat → Dv
  | 0 => v
  | i + 1 => fenceL (fenceN v i) i
def Dv.fenceV (v : Dv) : Int × Dv := if v.stops then (3, v.stepV) else (0, fenceN v.stepV v.pending.length)
theorem fenceL_ok {v : Dv} {n l : Nat} (ok : v.Ok n) (hl : l < n) : (fenceL v l).Ok n := by
  unfold fenceL
  split
  · have h1 := ok.l1
    have h3 := ok.l3
    have hc : (cut v.flushed (8 * l) 8).length = 8 := cut_length (by omega)
    exact ⟨ok.big, by simp only; rw [splice_length (by rw [hc]; omega)]; exact ok.l1, ok.l2, ok.l3, by simpa using ok.l4, by simpa using ok.l5⟩
  · exact ok
theorem fenceN_ok {v : Dv} {n : Nat} (ok : v.Ok n) : ∀ i, i ≤ n → (fenceN v i).Ok n
  | 0, _ => ok
  | i + 1, h => fenceL_ok (fenceN_ok ok i (by omega)) (by omega)
theorem stepV_ok {v : Dv} {n : Nat} (ok : v.Ok n) : v.stepV.Ok n := by
  obtain ⟨e1, e2, e3, e4, e5⟩ := stepV_same v
  exact ⟨ok.big, by rw [e3]; exact ok.l1, by rw [e1]; exact ok.l2, by rw [e4]; exact ok.l3, by rw [e2]; exact ok.l4, by rw [e5]; exact ok.l5⟩
theorem nvm_Fence_c {d n : Nat} {v : Dv} (ok : v.Ok n) {k : Int → K} (hk : T B (R * Dev d v.fenceV.2) (k v.fenceV.1)) : T B (R * Dev d v) (c_nvm_Device_Fence (da d) k) := by
  refine T_of (nvm_Device_Fence_ok _ k) ?_
  unfold Dv.fenceV at hk
  have ok' := stepV_ok ok
  have hp5 : v.pending = v.stepV.pending := (stepV_same v).2.2.2.2.symm
  refine nvm_step_c (d := d) ?_
  cases hs : v.stops
  · rw [hs] at hk
    simp only [Bool.not_true, Bool.not_false]
    (repeat (with_reducible refine T_brF ?_))
    simp only [Bool.false_eq_true, if_false] at hk
    rw [hp5] at hk
    generalize v.stepV = w at *
    unfold da
    refine Dev_open fun q => ?_
    unfold devC
    (repeat (first | with_reducible refine T_nn ?_ | ((with_reducible apply T_ldS); (focus rfl); (focus exact hasA); (focus rfl))))
    refine T_vlen (E := 4) (sz := 1) (s := q.2.2.2.2) (vs := bls w.pending) (.init .last) fun hn => ?_
    rw [bls_len, Nat.mul_one] at hn
    have hw5 := ok'.l5
    have hw := ok'.big
    refine T_lpX (fun n s => R * DevQ d (fenceN w s.1.toNat) q) (fun m (s : Int × Unit) => ∃ i : Nat, i ≤ n ∧ s.1 = i ∧ m = n - i) n ?_ ⟨0, by omega, rfl, by omega⟩ ?_
    · show _ = R * DevQ d w q
      unfold DevQ devC; simp only [sep_assoc]
    rintro m ⟨s1, u⟩ c ⟨i, hi, h1, h2⟩ hc
    simp only at h1
    subst h1 h2
    simp only [Int.toNat_natCast]
    have okv := fenceN_ok ok' i hi
    have hnext : i < n → T B (R * DevQ d (fenceL (fenceN w i) i) q) (c (IntKind.wrap .i64 ((i : Int) + 1), ())) := by
      intro hlt
      have := hc (n - (i + 1)) (IntKind.wrap .i64 ((i : Int) + 1), ()) (by omega) ⟨i + 1, by omega, w64 (by omega) (by omega), rfl⟩
      have e : (IntKind.wrap .i64 ((i : Int) + 1)).toNat = i + 1 := by rw [w64 (by omega) (by omega)]; omega
      simp only [e] at this
      exact this
    clear hc
    unfold fenceL at hnext
    have hend : i = n → T B (R * DevQ d (fenceN w i) q) (k 0) := by
      intro e; subst e; rw [hw5] at hk; exact T_exI q hk
    generalize fenceN w i = v' at *
    have hq : R * DevQ d v' q = R * vec 109 1 q.1 (wds v'.lasting) * vec 109 1 q.2.1 (wds v'.cache) * vec 109 1 q.2.2.1 (wds v'.flushed) * vec 4 1 q.2.2.2.1 (bls v'.dirty) * vec 4 1 q.2.2.2.2 (bls v'.pending) * pt d (devC v' q) := by
      unfold DevQ; simp only [sep_assoc]
    rw [hq] at hend ⊢
    (repeat' (with_reducible refine T_brD (fun _ => ?_) (fun _ => ?_)))
    · rename_i hlt
      have hlt' : i < n := by omega
      have hnx := hnext hlt'
      have o1 := okv.l1; have o2 := okv.l2; have o3 := okv.l3; have o4 := okv.l4; have o5 := okv.l5
      have hip : i < v'.pending.length := by omega
      refine T_ixVB (Rd.vec (E := 4) (s := q.2.2.2.2) (vs := bls v'.pending) (.init .last)) (by omega) (by rw [Int.toNat_natCast]; exact bls_at hip) ?_
      rw [List.getD_eq_getElem?_getD, List.getElem?_eq_getElem hip, Option.getD_some] at hnx
      cases hpi : v'.pending[i]
      · rw [hpi] at hnx
        simp only [Bool.false_eq_true, if_false] at hnx
        rw [hq] at hnx
        (repeat (with_reducible refine T_brF ?_))
        exact hnx
      · rw [hpi] at hnx
        simp only [if_true] at hnx
        (repeat (first | with_reducible refine T_nn ?_ | with_reducible refine T_tick ?_ | with_reducible refine T_brT ?_))
        unfold devC
        (repeat (first | with_reducible refine T_nn ?_ | ((with_reducible apply T_ldS); (focus rfl); (focus exact hasA); (focus rfl))))
        refine T_rdfull (x := q.1) (Rd.vec (E := 109) (vs := wds v'.lasting) (.init (.init (.init (.init (.init .last)))))) fun n1 c1 => ?_
        refine T_rdfull (x := q.2.2.1) (Rd.vec (E := 109) (vs := wds v'.flushed) (.init (.init (.init .last)))) fun n3 c3 => ?_
        refine T_rdfull (x := q.2.1) (Rd.vec (E := 109) (vs := wds v'.cache) (.init (.init (.init (.init .last))))) fun n2 c2 => ?_
        rw [wds_len] at n1 n2 n3
        refine nvm_part_c (by omega) (by omega) c1 ?_
        (repeat (first | with_reducible refine T_chk0 ?_ | ((with_reducible apply T_chk); (focus rfl); (focus exact hasA); (focus rfl))))
        refine nvm_part_c (by omega) (by omega) c3 ?_
        have hcl : (cut v'.flushed (8 * i) 8).length = 8 := cut_length (by omega)
        refine T_copyV (o := 8 * i) kd_u64 (s := q.1) (vs := wds v'.lasting) (.init (.init (.init (.init (.init .last)))))
          (Rd.pieceW (l := v'.flushed) (o := 8 * i) (n := 8) (Rd.vec (E := 109) (s := q.2.2.1) (.init (.init (.init .last)))) (by omega) rfl rfl rfl) (wds_scal _) rfl rfl (by rw [wds_len]; simp only; omega) ?_
        rw [← wds_splice]
        generalize hla : splice v'.lasting (8 * i) (cut v'.flushed (8 * i) 8) = la at *
        have hlal : la.length = 8 * n := by rw [← hla, splice_length (by rw [hcl]; omega)]; exact o1
        (repeat (first | with_reducible refine T_nn ?_ | ((with_reducible apply T_ldS); (focus rfl); (focus exact hasA); (focus rfl))))
        refine T_stV (i := i) (E := 4) (s := q.2.2.2.2) (vs := bls v'.pending) (.init (.init .last)) (by omega) (by rw [bls_len]; omega) ?_
        rw [bls_set, Int.toNat_natCast]
        (repeat (first | with_reducible refine T_nn ?_ | with_reducible refine T_tick ?_ | ((with_reducible apply T_ldS); (focus rfl); (focus exact hasA); (focus rfl))))
        refine nvm_part_c (by omega) (by omega) c1 ?_
        (repeat (first | with_reducible refine T_chk0 ?_ | ((with_reducible apply T_chk); (focus rfl); (focus exact hasA); (focus rfl))))
        refine nvm_part_c (by omega) (by omega) c2 ?_
        (repeat (first | with_reducible refine T_chk0 ?_ | ((with_reducible apply T_chk); (focus rfl); (focus exact hasA); (focus rfl))))
        refine equal_u64_c (l1 := cut la (8 * i) 8) (l2 := cut v'.cache (8 * i) 8) (by rw [cut_length (by omega)]; omega)
          (Rd.pieceW (o := 8 * i) (n := 8) (Rd.vec (E := 109) (s := q.1) (.init .last)) (by omega) rfl rfl rfl)
          (Rd.pieceW (o := 8 * i) (n := 8) (Rd.vec (E := 109) (s := q.2.1) (.init (.init (.init (.init (.init .last)))))) (by omega) rfl rfl rfl) ?_
        (repeat (first | with_reducible refine T_chk0 ?_ | ((with_reducible apply T_chk); (focus rfl); (focus exact hasA); (focus rfl))))
        refine T_stV (i := i) (E := 4) (s := q.2.2.2.1) (vs := bls v'.dirty) (.init (.init (.init .last))) (by omega) (by rw [bls_len]; omega) ?_
        rw [bls_set, Int.toNat_natCast]
        refine T.perm ?_ hnx
        unfold DevQ devC
        ac_rfl
    · rename_i hge
      exact hend (by omega)
  · rw [hs] at hk
    simp only [Bool.not_true, Bool.not_false]
    (repeat (with_reducible refine T_brT ?_))
    exact hk
end
end Go.Proofs.YtdgcbapclnnkkaaGreat.X
end
section
/- The device by lines: what flushes and a fence make last. Plain. -/
set_option linter.unusedVariables false
namespace Go.Proofs.YtdgcbapclnnkkaaGreat.X
open Go
def ln (L : List Int) (l : Nat) : List Int := cut L (8 * l) 8
theorem ln_splice {L new : List Int} {m l n : Nat} (hL : L.length = 8 * n) (hm : m < n) (hn : new.length = 8) : ln (splice L (8 * m) new) l = if l = m then new else ln L l := by
  unfold ln
  apply List.ext_getElem?
  intro j
  by_cases hj : j < 8
  · rw [cut_get hj]
    unfold splice
    split
    · rename_i h; subst h
      rw [List.getElem?_append_left (by simp; omega), List.getElem?_append_right (by simp; omega)]
      congr 1; simp; omega
    · rename_i h
      rw [cut_get hj]
      by_cases hlt : l < m
      · rw [List.append_assoc, List.getElem?_append_left (by simp; omega), List.getElem?_take_of_lt (by omega)]
      · rw [List.getElem?_append_right (by simp; omega), List.getElem?_drop]
        congr 1
        simp only [List.length_append, List.length_take, hn, hL]
        omega
  · have : (cut (splice L (8 * m) new) (8 * l) 8)[j]? = none := List.getElem?_eq_none (by simp [cut]; omega)
    rw [this]
    split
    · rw [List.getElem?_eq_none (by omega)]
    · rw [List.getElem?_eq_none (by simp [cut]; omega)]
theorem getD_setB {l : List Bool} {i j : Nat} {b : Bool} (h : i < l.length) : (l.set i b).getD j false = if j = i then b else l.getD j false := by
  rw [List.getD_eq_getElem?_getD, List.getElem?_set]
  split
  · rename_i e; subst e; simp [h]
  · rename_i e; rw [if_neg (Ne.symm e), List.getD_eq_getElem?_getD]
theorem fenceN_spec {v : Dv} {n : Nat} (ok : v.Ok n) : ∀ i, i ≤ n → (fenceN v i).cache = v.cache ∧ (fenceN v i).flushed = v.flushed ∧ (fenceN v i).armed = v.armed ∧ (fenceN v i).dead = v.dead ∧
    (∀ l, l < n → ln (fenceN v i).lasting l = if l < i ∧ v.pending.getD l false = true then ln v.flushed l else ln v.lasting l) ∧
    (∀ l, l < n → (fenceN v i).pending.getD l false = if l < i then false else v.pending.getD l false) ∧
    (∀ l, l < n → (fenceN v i).dirty.getD l false = if l < i ∧ v.pending.getD l false = true then !decide (ln v.flushed l = ln v.cache l) else v.dirty.getD l false) := by
  intro i
  induction i with
  | zero => intro _; refine ⟨rfl, rfl, rfl, rfl, ?_, ?_, ?_⟩ <;> (intro l _; simp [fenceN])
  | succ i ih =>
    intro hi
    obtain ⟨h1, h2, h3, h4, h5, h6, h7⟩ := ih (by omega)
    have okw := fenceN_ok ok i (by omega)
    show (fenceL (fenceN v i) i).cache = _ ∧ (fenceL (fenceN v i) i).flushed = _ ∧ (fenceL (fenceN v i) i).armed = _ ∧ (fenceL (fenceN v i) i).dead = _ ∧ (∀ l, l < n → ln (fenceL (fenceN v i) i).lasting l = _) ∧ (∀ l, l < n → (fenceL (fenceN v i) i).pending.getD l false = _) ∧ (∀ l, l < n → (fenceL (fenceN v i) i).dirty.getD l false = _)
    have hpi := h6 i (by omega)
    rw [if_neg (by omega)] at hpi
    generalize fenceN v i = w at *
    unfold fenceL
    rw [hpi]
    have hcl : (cut w.flushed (8 * i) 8).length = 8 := cut_length (by have := okw.l3; omega)
    cases hp : v.pending.getD i false
    · simp only [Bool.false_eq_true, if_false]
      refine ⟨h1, h2, h3, h4, fun l hl => ?_, fun l hl => ?_, fun l hl => ?_⟩
      · rw [h5 l hl]
        by_cases e : l = i
        · subst e; rw [hp]; simp
        · simp only [show l < i + 1 ↔ l < i by omega]
      · rw [h6 l hl]
        by_cases e : l = i
        · subst e; rw [hp]; simp
        · simp only [show l < i + 1 ↔ l < i by omega]
      · rw [h7 l hl]
        by_cases e : l = i
        · subst e; rw [hp]; simp
        · simp only [show l < i + 1 ↔ l < i by omega]
    · simp only [if_true]
      have hs : ∀ l, ln (splice w.lasting (8 * i) (cut w.flushed (8 * i) 8)) l = if l = i then ln v.flushed i else ln w.lasting l := by
        intro l
        rw [ln_splice okw.l1 (by omega) hcl, h2]; rfl
      refine ⟨h1, h2, h3, h4, fun l hl => ?_, fun l hl => ?_, fun l hl => ?_⟩
      · rw [hs l]
        by_cases e : l = i
        · subst e; rw [if_pos rfl, if_pos ⟨by omega, hp⟩]
        · rw [if_neg e, h5 l hl]; simp only [show l < i + 1 ↔ l < i by omega]
      · rw [getD_setB (by rw [okw.l5]; omega)]
        by_cases e : l = i
        · subst e; rw [if_pos rfl, if_pos (by omega)]
        · rw [if_neg e, h6 l hl]; simp only [show l < i + 1 ↔ l < i by omega]
      · rw [getD_setB (by rw [okw.l4]; omega)]
        by_cases e : l = i
        · subst e
          rw [if_pos rfl, if_pos ⟨by omega, hp⟩]
          have := hs l
          rw [if_pos rfl] at this
          show (!decide (ln (splice w.lasting (8 * l) (cut w.flushed (8 * l) 8)) l = ln w.cache l)) = _
          rw [this, h1]
        · rw [if_neg e, h7 l hl]; simp only [show l < i + 1 ↔ l < i by omega]
/-- a device that goes on, with nothing flushed that was not fenced -/
structure Live (v : Dv) (n : Nat) : Prop where
  ok : v.Ok n
  a : v.armed = false
  de : v.dead = false
  pe : ∀ l, l < n → v.pending.getD l false = false
  cl : ∀ l, l < n → v.dirty.getD l false = false → ln v.lasting l = ln v.cache l
/-- .. lines from one up to another were flushed -/
structure Mid (v0 v : Dv) (n a b : Nat) : Prop where
  ok : v.Ok n
  ar : v.armed = false
  de : v.dead = false
  ca : v.cache = v0.cache
  la : v.lasting = v0.lasting
  di : v.dirty = v0.dirty
  pe : ∀ l, l < n → v.pending.getD l false = (decide (a ≤ l ∧ l < b) && v0.dirty.getD l false)
  fl : ∀ l, l < n → v.pending.getD l false = true → ln v.flushed l = ln v.cache l
theorem Live.mid {v : Dv} {n : Nat} (h : Live v n) (a : Nat) : Mid v v n a a := by
  refine ⟨h.ok, h.a, h.de, rfl, rfl, rfl, fun l hl => ?_, fun l hl hp => ?_⟩
  · rw [h.pe l hl]
    have : decide (a ≤ l ∧ l < a) = false := decide_eq_false (by omega)
    rw [this]; rfl
  · rw [h.pe l hl] at hp; cases hp
theorem stepV_go {v : Dv} (h1 : v.armed = false) (h2 : v.dead = false) : v.stops = false ∧ v.stepV = { v with fuse := IntKind.wrap .i64 (v.fuse - 1), steps := IntKind.wrap .i64 (v.steps + 1) } := by
  have : v.stops = false := by unfold Dv.stops; rw [h1, h2]; rfl
  exact ⟨this, by unfold Dv.stepV; rw [this]; rfl⟩
theorem Mid.flush {v0 v : Dv} {n a b : Nat} (h : Mid v0 v n a b) (hb : b < n) (hab : a ≤ b) : (v.flushV b).1 = 0 ∧ Mid v0 (v.flushV b).2 n a (b + 1) := by
  obtain ⟨s1, s2⟩ := stepV_go h.ar h.de
  have hlp : b < v.pending.length := by rw [h.ok.l5]; exact hb
  have hcl : (cut v.cache (8 * b) 8).length = 8 := cut_length (by rw [h.ok.l2]; omega)
  unfold Dv.flushV
  rw [s1, s2]
  simp only [Bool.false_eq_true, if_false, true_and]
  cases hd : v.dirty.getD b false
  · simp only [Bool.false_eq_true, if_false]
    refine ⟨⟨h.ok.big, h.ok.l1, h.ok.l2, h.ok.l3, h.ok.l4, h.ok.l5⟩, h.ar, h.de, h.ca, h.la, h.di, fun l hl => ?_, h.fl⟩
    show v.pending.getD l false = _
    rw [h.pe l hl]
    by_cases e : l = b
    · subst e; rw [← h.di, hd]; try simp
    · simp only [show (a ≤ l ∧ l < b + 1) ↔ (a ≤ l ∧ l < b) by omega]
  · simp only [if_true]
    unfold line8
    refine ⟨⟨h.ok.big, h.ok.l1, h.ok.l2, ?_, h.ok.l4, ?_⟩, h.ar, h.de, h.ca, h.la, h.di, fun l hl => ?_, fun l hl => ?_⟩
    · simp only; rw [splice_length (by rw [hcl, h.ok.l3]; omega)]; exact h.ok.l3
    · simp only [List.length_set]; exact h.ok.l5
    · simp only
      rw [getD_setB hlp]
      by_cases e : l = b
      · subst e; rw [if_pos rfl, ← h.di, hd]; simp; omega
      · rw [if_neg e, h.pe l hl]; simp only [show (a ≤ l ∧ l < b + 1) ↔ (a ≤ l ∧ l < b) by omega]
    · simp only
      rw [getD_setB hlp, ln_splice h.ok.l3 hb hcl]
      by_cases e : l = b
      · subst e; intro _; rw [if_pos rfl]; rfl
      · rw [if_neg e, if_neg e]; exact h.fl l hl
theorem Mid.fence {v0 v : Dv} {n a b : Nat} (h0 : Live v0 n) (h : Mid v0 v n a b) : v.fenceV.1 = 0 ∧ Live v.fenceV.2 n ∧ v.fenceV.2.cache = v0.cache ∧ ∀ l, l < n → ln v.fenceV.2.lasting l = if a ≤ l ∧ l < b then ln v0.cache l else ln v0.lasting l := by
  obtain ⟨s1, s2⟩ := stepV_go h.ar h.de
  have okw : ({ v with fuse := IntKind.wrap .i64 (v.fuse - 1), steps := IntKind.wrap .i64 (v.steps + 1) } : Dv).Ok n := ⟨h.ok.big, h.ok.l1, h.ok.l2, h.ok.l3, h.ok.l4, h.ok.l5⟩
  unfold Dv.fenceV
  rw [s1, s2, h.ok.l5]
  simp only [Bool.false_eq_true, if_false, true_and]
  obtain ⟨h1, h2, h3, h4, h5, h6, h7⟩ := fenceN_spec okw n (Nat.le_refl _)
  have okf := fenceN_ok okw n (Nat.le_refl _)
  generalize fenceN { v with fuse := IntKind.wrap .i64 (v.fuse - 1), steps := IntKind.wrap .i64 (v.steps + 1) } n = w at *
  simp only at h1 h2 h3 h4 h5 h6 h7
  have key : ∀ l, l < n → ln w.lasting l = if a ≤ l ∧ l < b then ln v0.cache l else ln v0.lasting l := by
    intro l hl
    rw [h5 l hl]
    have hp := h.pe l hl
    cases hpl : v.pending.getD l false
    · rw [if_neg (by simp), h.la]
      rw [hpl] at hp
      split
      · rename_i hin
        refine h0.cl l hl ?_
        have : decide (a ≤ l ∧ l < b) = true := by simpa using hin
        rw [this] at hp; simpa using hp.symm
      · rfl
    · rw [if_pos ⟨hl, rfl⟩, h.fl l hl hpl, h.ca]
      rw [hpl] at hp
      have := (Bool.and_eq_true_iff.1 hp.symm).1
      rw [if_pos (by simpa using this)]
  refine ⟨⟨okf, h3.trans h.ar, h4.trans h.de, fun l hl => ?_, fun l hl hd => ?_⟩, h1.trans h.ca, key⟩
  · rw [h6 l hl, if_pos hl]
  · rw [key l hl, h1, h.ca]
    have := h7 l hl
    rw [hd] at this
    have hp := h.pe l hl
    split
    · rfl
    · rename_i hin
      have hf : decide (a ≤ l ∧ l < b) = false := by simpa using hin
      rw [hf, Bool.false_and] at hp
      rw [hp, if_neg (by simp), h.di] at this
      exact h0.cl l hl this.symm
end Go.Proofs.YtdgcbapclnnkkaaGreat.X
end
section
/- Contracts: a device that goes on. Conditions: at most 2^32 lines. -/
set_option linter.unusedVariables false
set_option maxRecDepth 4000
namespace Go.Proofs.YtdgcbapclnnkkaaGreat.X
open Go
section
variable {B : World} {P R : SL} {t : K}
theorem Live.storeV {v : Dv} {n : Nat} {a w : Int} (h : Live v n) (h0 : 0 ≤ a) (h1 : a < v.cache.length) : (v.storeV a w).1 = 0 ∧ Live (v.storeV a w).2 n ∧ (v.storeV a w).2.cache = v.cache.set a.toNat w ∧ (v.storeV a w).2.lasting = v.lasting := by
  obtain ⟨s1, s2⟩ := stepV_go h.a h.de
  have hl2 := h.ok.l2
  have hl4 := h.ok.l4
  unfold Dv.storeV
  rw [if_neg (by omega), s1, s2]
  simp only [Bool.false_eq_true, if_false, true_and, and_true]
  refine ⟨⟨h.ok.big, h.ok.l1, ?_, h.ok.l3, ?_, h.ok.l5⟩, h.a, h.de, h.pe, fun l hl hd => ?_⟩
  · simp only [List.length_set]; exact hl2
  · simp only [List.length_set]; exact hl4
  · simp only at hd ⊢
    rw [getD_setB (by omega)] at hd
    split at hd
    · cases hd
    · rename_i hne
      have := h.cl l hl hd
      rw [this]
      unfold ln cut
      apply List.ext_getElem?
      intro j
      by_cases hj : j < 8
      · rw [List.getElem?_take_of_lt hj, List.getElem?_take_of_lt hj, List.getElem?_drop, List.getElem?_drop, List.getElem?_set]
        rw [if_neg (by omega)]
      · rw [List.getElem?_eq_none (by simp; omega), List.getElem?_eq_none (by simp; omega)]
/-- what a live device is: its words now, and those that last -/
def LDev (d n : Nat) (c la : List Int) : SL := ex fun v => Dev d v * pu (Live v n ∧ v.cache = c ∧ v.lasting = la)
theorem LDev_open {d n : Nat} {c la : List Int} (h : ∀ v, Live v n → v.cache = c → v.lasting = la → T B (R * Dev d v) t) : T B (R * LDev d n c la) t := by
  refine T_ex fun v => ?_
  rw [← sep_assoc]
  exact T_pu fun hv => h v hv.1 hv.2.1 hv.2.2
theorem LDev_close {d n : Nat} {v : Dv} {c la : List Int} (hv : Live v n) (h1 : v.cache = c) (h2 : v.lasting = la) (h : T B (R * LDev d n c la) t) : T B (R * Dev d v) t := by
  refine T_puI (φ := Live v n ∧ v.cache = c ∧ v.lasting = la) ⟨hv, h1, h2⟩ ?_
  rw [sep_assoc]
  exact T_exI v h
theorem LLen_c {d n : Nat} {c la : List Int} {k : Int → K} (hk : c.length = 8 * n → n ≤ 2 ^ 32 → T B (R * LDev d n c la) (k ((8 * n : Nat) : Int))) : T B (R * LDev d n c la) (c_nvm_Device_Len (da d) k) := by
  refine LDev_open fun v hv h1 h2 => ?_
  refine nvm_Len_c (LDev_close hv h1 h2 ?_)
  have hl := hv.ok.l2
  rw [hl]
  exact hk (h1 ▸ hl) hv.ok.big
theorem LGet_c {d n : Nat} {c la : List Int} {a : Int} {k : Int → K} (hk : T B (R * LDev d n c la) (k (getI c a))) : T B (R * LDev d n c la) (c_nvm_Device_Get (da d) a k) := by
  refine LDev_open fun v hv h1 h2 => ?_
  refine nvm_Get_c (LDev_close hv h1 h2 ?_)
  rw [h1]; exact hk
theorem LStore_c {d n : Nat} {c la : List Int} {a w : Int} {k : Int → K} (h0 : 0 ≤ a) (h1 : a < 8 * n) (hk : T B (R * LDev d n (c.set a.toNat w) la) (k 0)) : T B (R * LDev d n c la) (c_nvm_Device_Store (da d) a w k) := by
  refine LDev_open fun v hv e1 e2 => ?_
  have hl := hv.ok.l2
  obtain ⟨s1, s2, s3, s4⟩ := hv.storeV (w := w) h0 (by omega)
  refine nvm_Store_c hv.ok ?_
  rw [s1]
  exact LDev_close s2 (by rw [s3, e1]) (by rw [s4, e2]) hk
/-- what lasts behind a Persist -/
def Pst (n a b : Nat) (c la la' : List Int) : Prop := la'.length = 8 * n ∧ ∀ l, l < n → ln la' l = if a ≤ l ∧ l < b then ln c l else ln la l
theorem LPersist_c {d n : Nat} {c la : List Int} {a w : Int} {k : Int → K} (h0 : 0 ≤ a) (h1 : 0 < w) (h2 : a + w ≤ 8 * n)
    (hk : ∀ la', Pst n (a / 8).toNat ((a + w - 1) / 8 + 1).toNat c la la' → T B (R * LDev d n c la') (k 0)) : T B (R * LDev d n c la) (c_nvm_Device_Persist (da d) a w k) := by
  refine T_of (nvm_Device_Persist_ok _ a w k) ?_
  (repeat' (first | with_reducible refine T_brT ?_ | with_reducible refine T_brD (fun _ => ?_) (fun _ => ?_)))
  · exfalso; omega
  · exfalso; omega
  refine LLen_c fun hl hn => ?_
  (repeat' (first | with_reducible refine T_brT ?_ | with_reducible refine T_brD (fun _ => ?_) (fun _ => ?_)))
  · exfalso; omega
  refine LLen_c fun hl hn => ?_
  (repeat' (with_reducible refine T_brD (fun _ => ?_) (fun _ => ?_)))
  · rename_i h
    exfalso
    rw [w64 (by omega) (by omega)] at h; omega
  · obtain ⟨a0, ha0⟩ : ∃ m : Nat, a / 8 = m := ⟨(a / 8).toNat, by omega⟩
    obtain ⟨b0, hb0⟩ : ∃ m : Nat, (a + w - 1) / 8 + 1 = m := ⟨((a + w - 1) / 8 + 1).toNat, by omega⟩
    rw [ha0, hb0] at hk
    simp only [Int.toNat_natCast] at hk
    refine LDev_open fun v hv e1 e2 => ?_
    subst e1 e2
    have e3 : IntKind.wrap .i64 (Int.tdiv a 8) = (a0 : Int) := by rw [Int.tdiv_eq_ediv_of_nonneg h0, w64 (by omega) (by omega)]; exact ha0
    have e4 : IntKind.wrap .i64 (Int.tdiv (IntKind.wrap .i64 ((IntKind.wrap .i64 (a + w)) - 1)) 8) = (b0 : Int) - 1 := by
      rw [w64 (n := a + w) (by omega) (by omega), w64 (n := a + w - 1) (by omega) (by omega), Int.tdiv_eq_ediv_of_nonneg (by omega), w64 (by omega) (by omega)]; omega
    (dsimp only [nvm_Device_Persist, nvm_Device_Persist_s0, nvm_Device_Persist_s1, nvm_Device_Persist_s2, nvm_Device_Persist_s3, nvm_Device_Persist_s4, nvm_Device_Persist_s5, nvm_Device_Persist_s6, nvm_Device_Persist_l7, nvm_Device_Persist_s8, nvm_Device_Persist_s9, nvm_Device_Persist_s10, nvm_Device_Persist_s11, nvm_Device_Persist_s12])
    rw [e3, e4]
    have hm0 := hv.mid a0
    have close : ∀ (v' : Dv) (j : Nat) (t : K), Mid v v' n a0 j → T B (R * ex fun v' => Dev d v' * pu (Mid v v' n a0 j)) t → T B (R * Dev d v') t := by
      intro v' j t hm h
      refine T_puI hm ?_
      rw [sep_assoc]
      exact T_exI v' h
    refine T_lpW (fun m s => R * ex fun v' => Dev d v' * pu (Mid v v' n a0 s.1.toNat)) (fun m (s : Int × Unit) => ∃ i : Nat, s.1 = i ∧ a0 ≤ i ∧ i ≤ b0 ∧ m = b0 - i) (b0 - a0)
      (fun t ht => close v a0 t hm0 (by simpa using ht)) ⟨a0, rfl, by omega, by omega, rfl⟩ ?_
    rintro m ⟨s1, u⟩ c ⟨i, h3, h4, h5, h6⟩ hc
    simp only at h3
    subst h3 h6
    simp only [Int.toNat_natCast]
    refine T_ex fun v' => ?_
    rw [← sep_assoc]
    refine T_pu fun hm => ?_
    (repeat' (with_reducible refine T_brD (fun _ => ?_) (fun _ => ?_)))
    · rename_i hle
      have hlt : i < b0 := by omega
      obtain ⟨f1, f2⟩ := hm.flush (by omega) h4
      refine nvm_Flush_c hm.ok (by omega) ?_
      rw [f1]
      skip
      have := hc (b0 - (i + 1)) (IntKind.wrap .i64 ((i : Int) + 1), ()) (by omega) ⟨i + 1, w64 (by omega) (by omega), by omega, by omega, rfl⟩
      have e : (IntKind.wrap .i64 ((i : Int) + 1)).toNat = i + 1 := by rw [w64 (by omega) (by omega)]; omega
      simp only [e] at this
      (repeat' (with_reducible refine T_brNE (fun _ => ?_) (fun _ => ?_)))
      · rename_i hx; exact absurd rfl hx
      exact close _ (i + 1) _ f2 this
    · rename_i hgt
      have hib : i = b0 := by omega
      subst hib
      obtain ⟨f1, f2, f3, f4⟩ := hm.fence hv
      refine nvm_Fence_c hm.ok ?_
      rw [f1]
      exact LDev_close f2 f3 rfl (hk _ ⟨f2.ok.l1, f4⟩)
  · exfalso; omega
end
end Go.Proofs.YtdgcbapclnnkkaaGreat.X
end
section
/- Contracts: devices that are made. Conditions: at most 2^32 lines. -/
set_option linter.unusedVariables false
set_option maxRecDepth 4000
namespace Go.Proofs.YtdgcbapclnnkkaaGreat.X
open Go
section
variable {B : World} {P R : SL} {t t1 t2 : K}
theorem T_andK (h1 : T B P t1) (h2 : T B P t2) : T B P (andK t1 t2) := fun w s => ⟨h1 w s, h2 w s⟩
theorem T_true : T B P (fun _ => True) := fun _ _ => trivial
def newV (l : List Int) (n : Nat) : Dv := ⟨l, l, List.replicate (8 * n) 0, List.replicate n false, List.replicate n false, 0, 0, false, false⟩
theorem newV_live {l : List Int} {n : Nat} (hl : l.length = 8 * n) (hn : n ≤ 2 ^ 32) : Live (newV l n) n := by
  refine ⟨⟨hn, hl, hl, by simp [newV], by simp [newV], by simp [newV]⟩, rfl, rfl, fun i hi => ?_, fun i hi _ => rfl⟩
  simp only [newV, List.getD_eq_getElem?_getD, List.getElem?_replicate, hi, if_true, Option.getD_some]
theorem Dev_new {d n : Nat} {l : List Int} (hl : l.length = 8 * n) (hn : n ≤ 2 ^ 32) {s1 s2 : Sl} {p3 p4 p5 : Option Addr} {n3 c3 n4 c4 n5 c5 : Nat}
    (hP : P = R * vec 109 1 s1 (wds l) * vec 109 1 s2 (wds l) * vec 109 1 ⟨p3, n3, c3⟩ (wds (List.replicate (8 * n) 0)) * vec 4 1 ⟨p4, n4, c4⟩ (bls (List.replicate n false)) * vec 4 1 ⟨p5, n5, c5⟩ (bls (List.replicate n false)))
    (h : T B (R * LDev d n l l) t) :
    T B (P * pt d (.cells #[s1.v, s2.v, .slice p3 n3 c3, .slice p4 n4 c4, .slice p5 n5 c5, .int .i64 0, .int .i64 0, .bool false, .bool false] 165)) t := by
  subst hP
  exact Dev_close (v := newV l n) (s1, s2, ⟨p3, n3, c3⟩, ⟨p4, n4, c4⟩, ⟨p5, n5, c5⟩) (LDev_close (newV_live hl hn) rfl rfl h)
theorem nvm_load_c {s : Sl} {l : List Int} {n : Nat} (hl : l.length = 8 * n) (hn : n ≤ 2 ^ 32) {k : Option Addr → K} (hk : ∀ d, T B (R * LDev d n l l) (k (da d))) : T B (R * vec 109 1 s (wds l)) (c_nvm_load s k) := by
  refine T_of (nvm_load_ok s k) ?_
  refine T_vlen (.last) fun hs => ?_
  rw [wds_len, Nat.mul_one, hl] at hs
  have e1 : IntKind.wrap .i64 (Int.tdiv ((s.n : Nat) : Int) 8) = ((n : Nat) : Int) := by rw [hs, Int.tdiv_eq_ediv_of_nonneg (by omega), w64 (by omega) (by omega)]; omega
  (dsimp only [nvm_load, nvm_load_s0, nvm_load_s1])
  rw [e1, hs]
  (repeat (with_reducible refine T_tick ?_))
  have hr3 : repZ (zerosP Tryz.prog 109) (Int.toNat ((8 * n : Nat) : Int)) = wds (List.replicate (8 * n) 0) := by rw [Int.toNat_natCast, repZ_wds]
  have hr4 : repZ (zerosP Tryz.prog 4) (Int.toNat ((n : Nat) : Int)) = bls (List.replicate n false) := by rw [Int.toNat_natCast, repZ_bls]
  repeat' (first
    | with_reducible exact T_true
    | with_reducible refine T_andK ?_ ?_
    | refine clone_u64_c (l := l) (by omega) (Rd.vec (E := 109) (s := s) (by exact frmA)) fun s' => ?_
    | refine T_mkV kd_u64 (by omega) (by omega) (by omega) fun b => ?_
    | refine T_mkV kd_bool (by omega) (by omega) (by omega) fun b => ?_
    | with_reducible refine T_al fun d => ?_)
  all_goals
    rw [hr3, hr4]
    refine Dev_new (R := R) hl hn ?_ (hk _)
    ac_rfl
theorem nvm_New_c {w : Int} {n : Nat} (hw : w = 8 * n) (hn : n ≤ 2 ^ 32) {k : Option Addr → K} (hk : ∀ d, T B (R * LDev d n (List.replicate (8 * n) 0) (List.replicate (8 * n) 0)) (k (da d))) : T B R (c_nvm_New w k) := by
  refine T_of (nvm_New_ok w k) ?_
  subst hw
  refine bits_Up_c (by omega) (by omega) (by omega) ?_
  have e1 : (8 * (n : Int) + 8 - 1) / 8 = n := by omega
  have e2 : IntKind.wrap .i64 ((n : Int) * 8) = ((8 * n : Nat) : Int) := by rw [w64 (by omega) (by omega)]; omega
  (dsimp only [nvm_New, nvm_New_s0, nvm_New_s1, nvm_New_s2])
  rw [e1, e2]
  refine T_mkV kd_u64 (by omega) (by omega) (by omega) fun b => ?_
  rw [Int.toNat_natCast, repZ_wds]
  exact nvm_load_c (by simp) hn hk
end
end Go.Proofs.YtdgcbapclnnkkaaGreat.X
end
section
/- Elements of several cells, by assertions. Conditions: sizes below 2^40 elements. -/
set_option linter.unusedVariables false
set_option maxRecDepth 4000
namespace Go.Proofs.YtdgcbapclnnkkaaGreat.X
open Go
/-- cells that an address leads to, wherever the assertion holds -/
def At (P : SL) (a : Addr) (vs : List Value) : Prop := ∀ B w, Sat B P w → ∀ j v, vs[j]? = some v → w.cell? (a.add j) = some v
section
variable {B : World} {P Q R : SL} {t : K}
theorem At.init {a : Addr} {vs : List Value} (h : At P a vs) : At (P * Q) a vs := fun B w s => h B w s.left
theorem T_ixEl {s : Sl} {sz : Nat} {vs : List Value} {i : Int} {k : Addr → K} (hsz : 0 < sz) (h : Rd P s sz vs) (h0 : 0 ≤ i) (hi : (i.toNat + 1) * sz ≤ vs.length) (ht : ∀ a, At P a (cut vs (i.toNat * sz) sz) → T B P (k a)) : T B P (ixS s.p s.n i sz k) := by
  intro w hw
  obtain ⟨e1, _, e3⟩ := h B w hw
  have hlt : i.toNat < s.n := by
    rw [e1] at hi
    exact Nat.le_of_mul_le_mul_right hi hsz
  rw [Nat.add_mul, Nat.one_mul] at hi
  rcases e3 with ⟨_, rfl⟩ | ⟨a, p1, p2⟩
  · simp at hi; omega
  · refine ⟨a, p1, ⟨h0, by omega⟩, ht _ (fun B' w' hw' j v hj => ?_) w hw⟩
    obtain ⟨_, _, f3⟩ := h B' w' hw'
    have hjs : j < sz := by
      have : (cut vs (i.toNat * sz) sz).length = sz := cut_length hi
      rw [← this]; exact (List.getElem?_eq_some_iff.1 hj).1
    rw [cut_get hjs] at hj
    rcases f3 with ⟨q1, _⟩ | ⟨a', q1, q2⟩
    · rw [p1] at q1; cases q1
    · rw [p1] at q1; cases q1
      rw [add_add]; exact q2 _ _ hj
theorem T_ldAt {a : Addr} {vs : List Value} {j : Nat} {kd : IntKind} {n : Int} {k : Int → K} (h : At P a vs) (hj : vs[j]? = some (.int kd n)) (ht : T B P (k n)) : T B P (ldI kd (a.add j) k) :=
  fun w hw => ⟨n, h B w hw j _ hj, ht w hw⟩
theorem T_vopen {E : TypeId} {sz : Nat} {s : Sl} {vs : List Value} (hF : Frm P (vec E sz s vs) R) (hne : vs ≠ [])
    (ht : ∀ b rest, s.p = some ⟨b, 0, none⟩ → s.n * sz = vs.length → s.c * sz = vs.length + rest.length → s.c ≤ maxLen → T B (R * pt b (.cells (vs ++ rest).toArray E)) t) : T B P t := by
  unfold Frm at hF; subst hF
  intro w hw
  rcases vec_cases hw with ⟨_, _, rfl, _⟩ | ⟨b, rest, h1, h2, h3, h4, hR⟩
  · exact absurd rfl hne
  · exact ht b rest h1 h2 h3 h4 w hR
/-- headers of blocks -/
def hds (l : List Hd) : List Value := l.flatMap fun h => [.int .i64 h.1, .int .i64 h.2.1, .int .i64 h.2.2]
def prs (l : List (Int × Int)) : List Value := l.flatMap fun h => [.int .i64 h.1, .int .i64 h.2]
theorem kd_hd : Kd Tryz.prog 80 143 3 := ⟨by kernel_rfl, by kernel_rfl, by kernel_rfl, by kernel_rfl, by kernel_rfl, by decide +kernel, by decide +kernel⟩
theorem kd_sp : Kd Tryz.prog 150 152 2 := ⟨by kernel_rfl, by kernel_rfl, by kernel_rfl, by kernel_rfl, by kernel_rfl, by decide +kernel, by decide +kernel⟩
theorem hds_cons (h : Hd) (l : List Hd) : hds (h :: l) = .int .i64 h.1 :: .int .i64 h.2.1 :: .int .i64 h.2.2 :: hds l := rfl
theorem prs_cons (h : Int × Int) (l : List (Int × Int)) : prs (h :: l) = .int .i64 h.1 :: .int .i64 h.2 :: prs l := rfl
theorem hds_append (l m : List Hd) : hds (l ++ m) = hds l ++ hds m := List.flatMap_append
theorem prs_append (l m : List (Int × Int)) : prs (l ++ m) = prs l ++ prs m := List.flatMap_append
theorem hds_len (l : List Hd) : (hds l).length = l.length * 3 := by
  induction l with
  | nil => rfl
  | cons h l ih => rw [hds_cons]; simp only [List.length_cons, ih]; omega
theorem prs_len (l : List (Int × Int)) : (prs l).length = l.length * 2 := by
  induction l with
  | nil => rfl
  | cons h l ih => rw [prs_cons]; simp only [List.length_cons, ih]; omega
theorem hds_scal (l : List Hd) : (hds l).all scal = true := by
  induction l with
  | nil => rfl
  | cons h l ih => rw [hds_cons]; simp only [List.all_cons, ih, scal, Bool.and_self]
theorem hds_cut {l : List Hd} {i : Nat} (h : i < l.length) : cut (hds l) (i * 3) 3 = [.int .i64 l[i].1, .int .i64 l[i].2.1, .int .i64 l[i].2.2] := by
  induction l generalizing i with
  | nil => simp at h
  | cons x l ih =>
    cases i with
    | zero => rfl
    | succ i =>
      have := ih (i := i) (by simpa using h)
      rw [hds_cons, List.getElem_cons_succ, ← this]
      unfold cut
      rw [show (i + 1) * 3 = i * 3 + 1 + 1 + 1 by omega]; rfl
theorem prs_cut {l : List (Int × Int)} {i : Nat} (h : i < l.length) : cut (prs l) (i * 2) 2 = [.int .i64 l[i].1, .int .i64 l[i].2] := by
  induction l generalizing i with
  | nil => simp at h
  | cons x l ih =>
    cases i with
    | zero => rfl
    | succ i =>
      have := ih (i := i) (by simpa using h)
      rw [prs_cons, List.getElem_cons_succ, ← this]
      unfold cut
      rw [show (i + 1) * 2 = i * 2 + 1 + 1 by omega]; rfl
theorem hds_set {l : List Hd} {i : Nat} {x : Hd} (h : i < l.length) : (((hds l).set (i * 3) (.int .i64 x.1)).set (i * 3 + 1) (.int .i64 x.2.1)).set (i * 3 + 2) (.int .i64 x.2.2) = hds (l.set i x) := by
  induction l generalizing i with
  | nil => simp at h
  | cons y l ih =>
    cases i with
    | zero => rfl
    | succ i =>
      have := ih (i := i) (by simpa using h)
      rw [List.set_cons_succ, hds_cons, hds_cons, ← this, show (i + 1) * 3 = i * 3 + 1 + 1 + 1 by omega]; rfl
theorem prs_set1 {l : List (Int × Int)} {i : Nat} {x : Int} (h : i < l.length) : (prs l).set (i * 2 + 1) (.int .i64 x) = prs (l.set i (l[i].1, x)) := by
  induction l generalizing i with
  | nil => simp at h
  | cons y l ih =>
    cases i with
    | zero => rfl
    | succ i =>
      have := ih (i := i) (by simpa using h)
      rw [List.getElem_cons_succ, List.set_cons_succ, prs_cons, prs_cons, ← this, show (i + 1) * 2 + 1 = i * 2 + 1 + 1 + 1 by omega]; rfl
theorem repZ_hds (n : Nat) : repZ (zerosP Tryz.prog 143) n = hds (List.replicate n (0, 0, 0)) := by
  have : zerosP Tryz.prog 143 = [.int .i64 0, .int .i64 0, .int .i64 0] := by kernel_rfl
  rw [this]
  induction n with
  | zero => rfl
  | succ n ih => rw [List.replicate_succ, hds_cons, ← ih]; rfl
/-- a header out of a slice -/
theorem T_ixH {s : Sl} {l : List Hd} {i : Int} {k : Addr → K} (h : Rd P s 3 (hds l)) (h0 : 0 ≤ i) (hi : i.toNat < l.length)
    (ht : ∀ a, At P a [.int .i64 l[i.toNat].1, .int .i64 l[i.toNat].2.1, .int .i64 l[i.toNat].2.2] → T B P (k a)) : T B P (ixS s.p s.n i 3 k) := by
  refine T_ixEl (by omega) h h0 (by rw [hds_len]; omega) fun a ha => ?_
  rw [hds_cut hi] at ha
  exact ht a ha
theorem T_ixP {s : Sl} {l : List (Int × Int)} {i : Int} {k : Addr → K} (h : Rd P s 2 (prs l)) (h0 : 0 ≤ i) (hi : i.toNat < l.length)
    (ht : ∀ a, At P a [.int .i64 l[i.toNat].1, .int .i64 l[i.toNat].2] → T B P (k a)) : T B P (ixS s.p s.n i 2 k) := by
  refine T_ixEl (by omega) h h0 (by rw [prs_len]; omega) fun a ha => ?_
  rw [prs_cut hi] at ha
  exact ht a ha
theorem T_stH {s : Sl} {l : List Hd} {i : Int} {x : Hd} (hF : Frm P (vec 143 3 s (hds l)) R) (h0 : 0 ≤ i) (hi : i.toNat < l.length) (ht : T B (R * vec 143 3 s (hds (l.set i.toNat x))) t) :
    T B P (ixS s.p s.n i 3 fun a => stK (a.add 0) (.int .i64 x.1) (stK (a.add 1) (.int .i64 x.2.1) (stK (a.add 2) (.int .i64 x.2.2) t))) := by
  have hl := hds_len l
  refine T_vopen hF (fun e => by rw [e] at hl; simp at hl; omega) fun b rest h1 h2 h3 h4 => ?_
  refine T_ixS h1 h0 (by omega) ?_
  rw [add_mk, Nat.zero_add]
  refine T_st (i := i.toNat * 3) (by rw [add_mk]; rfl) Upd.last (by simp; omega) ?_
  refine T_st (i := i.toNat * 3 + 1) (by rw [add_mk]) Upd.last (by simp; omega) ?_
  refine T_st (i := i.toNat * 3 + 2) (by rw [add_mk]) Upd.last (by simp; omega) ?_
  rw [List.set_append_left _ _ (by omega), List.set_append_left _ _ (by simp; omega), List.set_append_left _ _ (by simp; omega), hds_set hi]
  refine T_vecI h1 ?_ ?_ h4 ht
  · rw [h2, hds_len, hds_len]; simp
  · rw [h3, hds_len, hds_len]; simp
theorem T_stP1 {s : Sl} {l : List (Int × Int)} {i : Int} {x : Int} (hF : Frm P (vec 152 2 s (prs l)) R) (h0 : 0 ≤ i) (hi : i.toNat < l.length) (ht : T B (R * vec 152 2 s (prs (l.set i.toNat (l[i.toNat].1, x)))) t) :
    T B P (ixS s.p s.n i 2 fun a => stK ((a.add 1).add 0) (.int .i64 x) t) := by
  have hl := prs_len l
  refine T_vopen hF (fun e => by rw [e] at hl; simp at hl; omega) fun b rest h1 h2 h3 h4 => ?_
  refine T_ixS h1 h0 (by omega) ?_
  rw [add_mk, Nat.zero_add]
  refine T_st (i := i.toNat * 2 + 1) (by rw [add_mk, add_mk]) Upd.last (by simp; omega) ?_
  rw [List.set_append_left _ _ (by omega), prs_set1 hi]
  refine T_vecI h1 ?_ ?_ h4 ht
  · rw [h2, prs_len, prs_len]; simp
  · rw [h3, prs_len, prs_len]; simp
end
end Go.Proofs.YtdgcbapclnnkkaaGreat.X
end
section
/- Printed by a program of this session (gen.py): the functions of the dump over typed primitives, and that they serve for the model's code. No condition. -/
set_option maxRecDepth 100000
set_option linter.unusedVariables false
namespace Go.Proofs.YtdgcbapclnnkkaaGreat.X
open Go
@[reducible] def blocks_Table_Len_s0 (k : (Int → K)) (x2 : Int) : K :=
  k x2
@[reducible] def blocks_Table_Len_s1 (t : (Option Addr)) (k : (Int → K)) : K :=
  nn t fun x4 =>
  ldS (Addr.add x4 2) fun x6 =>
  blocks_Table_Len_s0 k ((x6.n : Nat) : Int)
@[reducible] def blocks_Table_Len (t : (Option Addr)) : M Int := fun k =>
  blocks_Table_Len_s1 t k
theorem blocks_Table_Len_ok (t : (Option Addr)) (k : Int → K) (w : World) (hyp_ : blocks_Table_Len t k w) : c_blocks_Table_Len t k w :=
  cl_of (P := Tryz.prog) Tryz.func13 rfl (by kernel_rfl)
  (RefK.seq [] [0] (fun z_ => [(0, .pointer t)]) (fun z_ => blocks_Table_Len_s1 t k) (by kernel_rfl) (fun _ => by kernel_rfl)
  (RefK.plain [] (by kernel_rfl))
  (fun _ => RefK.seq [(2, .int .i64)] [] (fun z_ => [(2, .int .i64 z_.1)]) (fun z_ => blocks_Table_Len_s0 k z_.1) (by kernel_rfl) (fun _ => by kernel_rfl)
  (RefK.plain [] (by kernel_rfl))
  (fun ⟨x2, _⟩ => RefK.ret (by kernel_rfl)))) hyp_
@[reducible] def blocks_Table_All_s0 (k : (Sl → K)) (x2 : Sl) : K :=
  k x2
@[reducible] def blocks_Table_All_s1 (t : (Option Addr)) (k : (Sl → K)) : K :=
  alK (.cells #[] 143) fun b =>
  nn t fun x5 =>
  ldS (Addr.add x5 2) fun x7 =>
  semT Tryz.prog (Builtin.append_ #[80, 80] 80 #[.slice (some ⟨b, 0, none⟩) 0 0, x7.v]) (.one (.sc (.slice))) fun x8 =>
  blocks_Table_All_s0 k x8
@[reducible] def blocks_Table_All (t : (Option Addr)) : M Sl := fun k =>
  blocks_Table_All_s1 t k
theorem blocks_Table_All_ok (t : (Option Addr)) (k : Sl → K) (w : World) (hyp_ : blocks_Table_All t k w) : c_blocks_Table_All t k w :=
  cl_of (P := Tryz.prog) Tryz.func36 rfl (by kernel_rfl)
  (RefK.seq [] [0] (fun z_ => [(0, .pointer t)]) (fun z_ => blocks_Table_All_s1 t k) (by kernel_rfl) (fun _ => by kernel_rfl)
  (RefK.plain [] (by kernel_rfl))
  (fun _ => RefK.seq [(2, .slice)] [] (fun z_ => [(2, z_.1.v)]) (fun z_ => blocks_Table_All_s0 k z_.1) (by kernel_rfl) (fun _ => by kernel_rfl)
  (RefK.plain [] (by kernel_rfl))
  (fun ⟨x2, _⟩ => RefK.ret (by kernel_rfl)))) hyp_
@[reducible] def bman_Manager_Geometry_s0 (k : (Int → K)) (x2 : Addr) : K :=
  ldI .i64 (Addr.add x2 0) fun x2_0 =>
  k x2_0
@[reducible] def bman_Manager_Geometry_s1 (m : (Option Addr)) (k : (Int → K)) (x2 : Addr) : K :=
  nn m fun x4 =>
  ldI .i64 (Addr.add (Addr.add x4 2) 0) fun x6_0 =>
  stK (Addr.add x2 0) (.int .i64 x6_0) <|
  bman_Manager_Geometry_s0 k x2
@[reducible] def bman_Manager_Geometry (m : (Option Addr)) : M Int := fun k =>
  alK (.cells #[.int .i64 0] 43) fun b =>
  bman_Manager_Geometry_s1 m k ⟨b, 0, none⟩
theorem bman_Manager_Geometry_ok (m : (Option Addr)) (k : Int → K) (w : World) (hyp_ : bman_Manager_Geometry m k w) : c_bman_Manager_Geometry m k w :=
  cl_of (P := Tryz.prog) Tryz.func57 rfl (by kernel_rfl)
  (RefK.seq [(2, .addr)] [0] (fun z_ => [(2, .pointer (some z_.1)), (0, .pointer m)]) (fun z_ => bman_Manager_Geometry_s1 m k z_.1) (by kernel_rfl) (fun _ => by kernel_rfl)
  (RefK.plain [] (by kernel_rfl))
  (fun ⟨x2, _⟩ => RefK.seq [] [2] (fun z_ => [(2, .pointer (some x2))]) (fun z_ => bman_Manager_Geometry_s0 k x2) (by kernel_rfl) (fun _ => by kernel_rfl)
  (RefK.plain [] (by kernel_rfl))
  (fun _ => RefK.ret (by kernel_rfl)))) hyp_
@[reducible] def bitmap_Set_Has_s0 (k : (Bool → K)) (x4 : Bool) : K :=
  k x4
@[reducible] def bitmap_Set_Has_s1 (s : (Option Addr)) (at_1 : Int) (k : (Bool → K)) : K :=
  c_bitmap_Set_in s at_1 fun x7 =>
  brK x7
  (nn s fun x10 =>
  ldS (Addr.add x10 0) fun x12 =>
  ixS x12.p x12.n (IntKind.wrap .i64 (Int.tdiv at_1 64)) 1 fun x15 =>
  ldI .u64 x15 fun x16 =>
  nneg (IntKind.wrap .u64 (Int.tmod at_1 64)) <|
  bitmap_Set_Has_s0 k ((bitI .and .u64 (shrI .u64 x16 (IntKind.wrap .u64 (Int.tmod at_1 64))) 1) == 1))
  (bitmap_Set_Has_s0 k false)
@[reducible] def bitmap_Set_Has (s : (Option Addr)) (at_1 : Int) : M Bool := fun k =>
  bitmap_Set_Has_s1 s at_1 k
theorem bitmap_Set_Has_ok (s : (Option Addr)) (at_1 : Int) (k : Bool → K) (w : World) (hyp_ : bitmap_Set_Has s at_1 k w) : c_bitmap_Set_Has s at_1 k w :=
  cl_of (P := Tryz.prog) Tryz.func77 rfl (by kernel_rfl)
  (RefK.seq [] [0, 1] (fun z_ => [(0, .pointer s), (1, .int .i64 at_1)]) (fun z_ => bitmap_Set_Has_s1 s at_1 k) (by kernel_rfl) (fun _ => by kernel_rfl)
  (RefK.plain [] (by kernel_rfl))
  (fun _ => RefK.seq [(4, .bool)] [] (fun z_ => [(4, .bool z_.1)]) (fun z_ => bitmap_Set_Has_s0 k z_.1) (by kernel_rfl) (fun _ => by kernel_rfl)
  (RefK.plain [3] (by kernel_rfl))
  (fun ⟨x4, _⟩ => RefK.ret (by kernel_rfl)))) hyp_
@[reducible] def bman_Manager_Release_s0 (k : (Int → K)) (x4 : Int) : K :=
  k x4
@[reducible] def bman_Manager_Release_s1 (m : (Option Addr)) (block : Int) (k : (Int → K)) (n_1 : Int) : K :=
  nn m fun x50 =>
  ldP (Addr.add x50 1) fun x52 =>
  c_runs_Index_Give x52 block n_1 fun x55 =>
  bman_Manager_Release_s0 k x55
@[reducible] def bman_Manager_Release_s2 (k : (Int → K)) (x4_1 : Int) : K :=
  k x4_1
@[reducible] def bman_Manager_Release_s3 (m : (Option Addr)) (block : Int) (k : (Int → K)) (n_1 : Int) (e : Int) (x47 : Bool) : K :=
  brK x47
  (bman_Manager_Release_s2 k e)
  (bman_Manager_Release_s1 m block k n_1)
@[reducible] def bman_Manager_Release_s4 (m : (Option Addr)) (block : Int) (k : (Int → K)) (n_1 : Int) (e : Int) : K :=
  bman_Manager_Release_s3 m block k n_1 e (e != 0)
@[reducible] def bman_Manager_Release_s5 (m : (Option Addr)) (block : Int) (k : (Int → K)) (n_1 : Int) : K :=
  tick fun _ =>
  nn m fun x37 =>
  ldP (Addr.add x37 0) fun x39 =>
  mkS Tryz.prog 143 (IntKind.wrap .i64 (n_1 - 1)) (IntKind.wrap .i64 (n_1 - 1)) fun b =>
  c_blocks_Table_Put x39 (IntKind.wrap .i64 (block + 1)) ⟨(some ⟨b, 0, none⟩), (Int.toNat (IntKind.wrap .i64 (n_1 - 1))), (Int.toNat (IntKind.wrap .i64 (n_1 - 1)))⟩ fun x45 =>
  bman_Manager_Release_s4 m block k n_1 x45
@[reducible] def bman_Manager_Release_s6 (m : (Option Addr)) (block : Int) (k : (Int → K)) (n_1 : Int) (x35 : Bool) : K :=
  brK x35
  (bman_Manager_Release_s5 m block k n_1)
  (bman_Manager_Release_s1 m block k n_1)
@[reducible] def bman_Manager_Release_s7 (k : (Int → K)) (x4_2 : Int) : K :=
  k x4_2
@[reducible] def bman_Manager_Release_s8 (m : (Option Addr)) (block : Int) (k : (Int → K)) (n_1 : Int) (e_1 : Int) (x32 : Bool) : K :=
  brK x32
  (bman_Manager_Release_s7 k e_1)
  (bman_Manager_Release_s6 m block k n_1 (decide (n_1 > 1)))
@[reducible] def bman_Manager_Release_s9 (m : (Option Addr)) (block : Int) (k : (Int → K)) (n_1 : Int) (e_1 : Int) : K :=
  bman_Manager_Release_s8 m block k n_1 e_1 (e_1 != 0)
@[reducible] def bman_Manager_Release_s10 (m : (Option Addr)) (block : Int) (k : (Int → K)) (n_1 : Int) : K :=
  nn m fun x24 =>
  ldP (Addr.add x24 0) fun x26 =>
  alK (.cells #[.int .i64 0, .int .i64 0, .int .i64 0] 143) fun b_1 =>
  c_blocks_Table_Put x26 block ⟨(some ⟨b_1, 0, none⟩), 1, 1⟩ fun x30 =>
  bman_Manager_Release_s9 m block k n_1 x30
@[reducible] def bman_Manager_Release_s11 (k : (Int → K)) (x4_3 : Int) : K :=
  k x4_3
@[reducible] def bman_Manager_Release_s12 (m : (Option Addr)) (block : Int) (k : (Int → K)) (h : Addr) : K :=
  ldI .i64 (Addr.add h 2) fun x22 =>
  bman_Manager_Release_s10 m block k x22
@[reducible] def bman_Manager_Release_s13 (m : (Option Addr)) (block : Int) (k : (Int → K)) (h : Addr) (x19 : Bool) : K :=
  brK x19
  (bman_Manager_Release_s12 m block k h)
  (bman_Manager_Release_s11 k 42)
@[reducible] def bman_Manager_Release_s14 (m : (Option Addr)) (block : Int) (k : (Int → K)) (h : Addr) (n : Int) (x16 : Int) (x17 : Bool) : K :=
  brK x17
  (bman_Manager_Release_s10 m block k n)
  (bman_Manager_Release_s13 m block k h (x16 == 2))
@[reducible] def bman_Manager_Release_s15 (m : (Option Addr)) (block : Int) (k : (Int → K)) (h : Addr) (n : Int) (x16 : Int) : K :=
  bman_Manager_Release_s14 m block k h n x16 (x16 == 1)
@[reducible] def bman_Manager_Release_s16 (m : (Option Addr)) (block : Int) (k : (Int → K)) (h : Addr) (n : Int) : K :=
  ldI .i64 (Addr.add h 0) fun x16_1 =>
  bman_Manager_Release_s15 m block k h n x16_1
@[reducible] def bman_Manager_Release_s17 (m : (Option Addr)) (block : Int) (k : (Int → K)) (h : Addr) : K :=
  bman_Manager_Release_s16 m block k h 1
@[reducible] def bman_Manager_Release_s18 (m : (Option Addr)) (block : Int) (k : (Int → K)) : K :=
  nn m fun x10 =>
  ldP (Addr.add x10 0) fun x12 =>
  c_blocks_Table_Get x12 block fun x14 =>
  alK (.cells #[.int .i64 0, .int .i64 0, .int .i64 0] 143) fun b_2 =>
  stK (Addr.add ⟨b_2, 0, none⟩ 0) (.int .i64 x14.1) <|
  stK (Addr.add ⟨b_2, 0, none⟩ 1) (.int .i64 x14.2.1) <|
  stK (Addr.add ⟨b_2, 0, none⟩ 2) (.int .i64 x14.2.2) <|
  bman_Manager_Release_s17 m block k ⟨b_2, 0, none⟩
@[reducible] def bman_Manager_Release (m : (Option Addr)) (block : Int) : M Int := fun k =>
  bman_Manager_Release_s18 m block k
theorem bman_Manager_Release_ok (m : (Option Addr)) (block : Int) (k : Int → K) (w : World) (hyp_ : bman_Manager_Release m block k w) : c_bman_Manager_Release m block k w :=
  cl_of (P := Tryz.prog) Tryz.func79 rfl (by kernel_rfl)
  (RefK.seq [] [0, 1] (fun z_ => [(0, .pointer m), (1, .int .i64 block)]) (fun z_ => bman_Manager_Release_s18 m block k) (by kernel_rfl) (fun _ => by kernel_rfl)
  (RefK.plain [] (by kernel_rfl))
  (fun _ => RefK.seq [(5, .addr)] [0, 1] (fun z_ => [(5, .pointer (some z_.1)), (0, .pointer m), (1, .int .i64 block)]) (fun z_ => bman_Manager_Release_s17 m block k z_.1) (by kernel_rfl) (fun _ => by kernel_rfl)
  (RefK.plain [] (by kernel_rfl))
  (fun ⟨h, _⟩ => RefK.seq [(6, .int .i64)] [0, 1, 5] (fun z_ => [(6, .int .i64 z_.1), (0, .pointer m), (1, .int .i64 block), (5, .pointer (some h))]) (fun z_ => bman_Manager_Release_s16 m block k h z_.1) (by kernel_rfl) (fun _ => by kernel_rfl)
  (RefK.plain [] (by kernel_rfl))
  (fun ⟨n, _⟩ => RefK.seq [(6, .int .i64)] [0, 1] (fun z_ => [(6, .int .i64 z_.1), (0, .pointer m), (1, .int .i64 block)]) (fun z_ => bman_Manager_Release_s10 m block k z_.1) (by kernel_rfl) (fun _ => by kernel_rfl)
  (RefK.seq [(16, .int .i64)] [0, 1, 5, 6] (fun z_ => [(16, .int .i64 z_.1), (0, .pointer m), (1, .int .i64 block), (5, .pointer (some h)), (6, .int .i64 n)]) (fun z_ => bman_Manager_Release_s15 m block k h n z_.1) (by kernel_rfl) (fun _ => by kernel_rfl)
  (RefK.plain [] (by kernel_rfl))
  (fun ⟨x16, _⟩ => RefK.block (RefK.seq [(17, .bool)] [0, 1, 5, 6, 16] (fun z_ => [(17, .bool z_.1), (0, .pointer m), (1, .int .i64 block), (5, .pointer (some h)), (6, .int .i64 n), (16, .int .i64 x16)]) (fun z_ => bman_Manager_Release_s14 m block k h n x16 z_.1) (by kernel_rfl) (fun _ => by kernel_rfl)
  (RefK.plain [] (by kernel_rfl))
  (fun ⟨x17, _⟩ => RefK.cond (b := x17) (t1 := bman_Manager_Release_s10 m block k n) (t2 := bman_Manager_Release_s13 m block k h (x16 == 2)) (by kernel_rfl) (by kernel_rfl) (fun w h => brK_spec w h) (RefK.skip (by kernel_rfl)) (RefK.seq [(19, .bool)] [0, 1, 5] (fun z_ => [(19, .bool z_.1), (0, .pointer m), (1, .int .i64 block), (5, .pointer (some h))]) (fun z_ => bman_Manager_Release_s13 m block k h z_.1) (by kernel_rfl) (fun _ => by kernel_rfl)
  (RefK.plain [] (by kernel_rfl))
  (fun ⟨x19, _⟩ => RefK.cond (b := x19) (t1 := bman_Manager_Release_s12 m block k h) (t2 := bman_Manager_Release_s11 k 42) (by kernel_rfl) (by kernel_rfl) (fun w h => brK_spec w h) (RefK.plain [] (by kernel_rfl)) (RefK.seq [(4, .int .i64)] [] (fun z_ => [(4, .int .i64 z_.1)]) (fun z_ => bman_Manager_Release_s11 k z_.1) (by kernel_rfl) (fun _ => by kernel_rfl)
  (RefK.plain [] (by kernel_rfl))
  (fun ⟨x4_3, _⟩ => RefK.ret (by kernel_rfl)))))))))
  (fun ⟨n_1, _⟩ => RefK.seq [] [0, 1, 6] (fun z_ => [(0, .pointer m), (1, .int .i64 block), (6, .int .i64 n_1)]) (fun z_ => bman_Manager_Release_s6 m block k n_1 (decide (n_1 > 1))) (by kernel_rfl) (fun _ => by kernel_rfl)
  (RefK.seq [(7, .int .i64)] [0, 1, 6] (fun z_ => [(7, .int .i64 z_.1), (0, .pointer m), (1, .int .i64 block), (6, .int .i64 n_1)]) (fun z_ => bman_Manager_Release_s9 m block k n_1 z_.1) (by kernel_rfl) (fun _ => by kernel_rfl)
  (RefK.plain [] (by kernel_rfl))
  (fun ⟨e_1, _⟩ => RefK.seq [(32, .bool)] [0, 1, 6, 7] (fun z_ => [(32, .bool z_.1), (0, .pointer m), (1, .int .i64 block), (6, .int .i64 n_1), (7, .int .i64 e_1)]) (fun z_ => bman_Manager_Release_s8 m block k n_1 e_1 z_.1) (by kernel_rfl) (fun _ => by kernel_rfl)
  (RefK.plain [] (by kernel_rfl))
  (fun ⟨x32, _⟩ => RefK.cond (b := x32) (t1 := bman_Manager_Release_s7 k e_1) (t2 := bman_Manager_Release_s6 m block k n_1 (decide (n_1 > 1))) (by kernel_rfl) (by kernel_rfl) (fun w h => brK_spec w h) (RefK.seq [(4, .int .i64)] [] (fun z_ => [(4, .int .i64 z_.1)]) (fun z_ => bman_Manager_Release_s7 k z_.1) (by kernel_rfl) (fun _ => by kernel_rfl)
  (RefK.plain [] (by kernel_rfl))
  (fun ⟨x4_2, _⟩ => RefK.ret (by kernel_rfl))) (RefK.skip (by kernel_rfl)))))
  (fun _ => RefK.seq [] [0, 1, 6] (fun z_ => [(0, .pointer m), (1, .int .i64 block), (6, .int .i64 n_1)]) (fun z_ => bman_Manager_Release_s1 m block k n_1) (by kernel_rfl) (fun _ => by kernel_rfl)
  (RefK.seq [(35, .bool)] [0, 1, 6] (fun z_ => [(35, .bool z_.1), (0, .pointer m), (1, .int .i64 block), (6, .int .i64 n_1)]) (fun z_ => bman_Manager_Release_s6 m block k n_1 z_.1) (by kernel_rfl) (fun _ => by kernel_rfl)
  (RefK.plain [] (by kernel_rfl))
  (fun ⟨x35, _⟩ => RefK.cond (b := x35) (t1 := bman_Manager_Release_s5 m block k n_1) (t2 := bman_Manager_Release_s1 m block k n_1) (by kernel_rfl) (by kernel_rfl) (fun w h => brK_spec w h) (RefK.seq [(8, .int .i64)] [0, 1, 6] (fun z_ => [(8, .int .i64 z_.1), (0, .pointer m), (1, .int .i64 block), (6, .int .i64 n_1)]) (fun z_ => bman_Manager_Release_s4 m block k n_1 z_.1) (by kernel_rfl) (fun _ => by kernel_rfl)
  (RefK.draw [] [0, 1, 3, 7, 0, 16, 0, 64, 192, 511, 1023] [0, 1, 2, 3, 4, 5, 6, 7, 8, 9, 10] [0, 1, 2, 3, 4, 5, 6, 7, 8, 9, 10] (by kernel_rfl) (by kernel_rfl))
  (fun ⟨e, _⟩ => RefK.seq [(47, .bool)] [0, 1, 6, 8] (fun z_ => [(47, .bool z_.1), (0, .pointer m), (1, .int .i64 block), (6, .int .i64 n_1), (8, .int .i64 e)]) (fun z_ => bman_Manager_Release_s3 m block k n_1 e z_.1) (by kernel_rfl) (fun _ => by kernel_rfl)
  (RefK.plain [] (by kernel_rfl))
  (fun ⟨x47, _⟩ => RefK.cond (b := x47) (t1 := bman_Manager_Release_s2 k e) (t2 := bman_Manager_Release_s1 m block k n_1) (by kernel_rfl) (by kernel_rfl) (fun w h => brK_spec w h) (RefK.seq [(4, .int .i64)] [] (fun z_ => [(4, .int .i64 z_.1)]) (fun z_ => bman_Manager_Release_s2 k z_.1) (by kernel_rfl) (fun _ => by kernel_rfl)
  (RefK.plain [] (by kernel_rfl))
  (fun ⟨x4_1, _⟩ => RefK.ret (by kernel_rfl))) (RefK.skip (by kernel_rfl))))) (RefK.skip (by kernel_rfl))))
  (fun _ => RefK.seq [(4, .int .i64)] [] (fun z_ => [(4, .int .i64 z_.1)]) (fun z_ => bman_Manager_Release_s0 k z_.1) (by kernel_rfl) (fun _ => by kernel_rfl)
  (RefK.plain [] (by kernel_rfl))
  (fun ⟨x4, _⟩ => RefK.ret (by kernel_rfl))))))))) hyp_
@[reducible] def bitmap_Set_Drop_s0 (k : (Bool → K)) (x4 : Bool) : K :=
  k x4
@[reducible] def bitmap_Set_Drop_s1 (s : (Option Addr)) (k : (Bool → K)) : K :=
  nn s fun x24 =>
  ldI .i64 (Addr.add x24 2) fun x26 =>
  nn s fun x28 =>
  stK (Addr.add (Addr.add x28 2) 0) (.int .i64 (IntKind.wrap .i64 (x26 - 1))) <|
  bitmap_Set_Drop_s0 k true
@[reducible] def bitmap_Set_Drop_s2 (s : (Option Addr)) (at_1 : Int) (k : (Bool → K)) : K :=
  nn s fun x10 =>
  ldS (Addr.add x10 0) fun x12 =>
  ixS x12.p x12.n (IntKind.wrap .i64 (Int.tdiv at_1 64)) 1 fun x15 =>
  ldI .u64 x15 fun x16 =>
  nneg (IntKind.wrap .u64 (Int.tmod at_1 64)) <|
  ixS x12.p x12.n (IntKind.wrap .i64 (Int.tdiv at_1 64)) 1 fun x22 =>
  stK (Addr.add x22 0) (.int .u64 (bitI .andNot .u64 x16 (shlI .u64 1 (IntKind.wrap .u64 (Int.tmod at_1 64))))) <|
  bitmap_Set_Drop_s1 s k
@[reducible] def bitmap_Set_Drop_s3 (k : (Bool → K)) (x4_1 : Bool) : K :=
  k x4_1
@[reducible] def bitmap_Set_Drop_s4 (s : (Option Addr)) (at_1 : Int) (k : (Bool → K)) (x8 : Bool) : K :=
  brK x8
  (bitmap_Set_Drop_s3 k false)
  (bitmap_Set_Drop_s2 s at_1 k)
@[reducible] def bitmap_Set_Drop_s5 (s : (Option Addr)) (at_1 : Int) (k : (Bool → K)) : K :=
  c_bitmap_Set_Has s at_1 fun x7 =>
  bitmap_Set_Drop_s4 s at_1 k (!x7)
@[reducible] def bitmap_Set_Drop (s : (Option Addr)) (at_1 : Int) : M Bool := fun k =>
  bitmap_Set_Drop_s5 s at_1 k
theorem bitmap_Set_Drop_ok (s : (Option Addr)) (at_1 : Int) (k : Bool → K) (w : World) (hyp_ : bitmap_Set_Drop s at_1 k w) : c_bitmap_Set_Drop s at_1 k w :=
  cl_of (P := Tryz.prog) Tryz.func81 rfl (by kernel_rfl)
  (RefK.seq [] [0, 1] (fun z_ => [(0, .pointer s), (1, .int .i64 at_1)]) (fun z_ => bitmap_Set_Drop_s5 s at_1 k) (by kernel_rfl) (fun _ => by kernel_rfl)
  (RefK.plain [] (by kernel_rfl))
  (fun _ => RefK.seq [] [0, 1] (fun z_ => [(0, .pointer s), (1, .int .i64 at_1)]) (fun z_ => bitmap_Set_Drop_s2 s at_1 k) (by kernel_rfl) (fun _ => by kernel_rfl)
  (RefK.seq [(8, .bool)] [0, 1] (fun z_ => [(8, .bool z_.1), (0, .pointer s), (1, .int .i64 at_1)]) (fun z_ => bitmap_Set_Drop_s4 s at_1 k z_.1) (by kernel_rfl) (fun _ => by kernel_rfl)
  (RefK.plain [] (by kernel_rfl))
  (fun ⟨x8, _⟩ => RefK.cond (b := x8) (t1 := bitmap_Set_Drop_s3 k false) (t2 := bitmap_Set_Drop_s2 s at_1 k) (by kernel_rfl) (by kernel_rfl) (fun w h => brK_spec w h) (RefK.seq [(4, .bool)] [] (fun z_ => [(4, .bool z_.1)]) (fun z_ => bitmap_Set_Drop_s3 k z_.1) (by kernel_rfl) (fun _ => by kernel_rfl)
  (RefK.plain [] (by kernel_rfl))
  (fun ⟨x4_1, _⟩ => RefK.ret (by kernel_rfl))) (RefK.skip (by kernel_rfl))))
  (fun _ => RefK.seq [] [0] (fun z_ => [(0, .pointer s)]) (fun z_ => bitmap_Set_Drop_s1 s k) (by kernel_rfl) (fun _ => by kernel_rfl)
  (RefK.plain [] (by kernel_rfl))
  (fun _ => RefK.seq [] [] (fun z_ => []) (fun z_ => bitmap_Set_Drop_s0 k true) (by kernel_rfl) (fun _ => by kernel_rfl)
  (RefK.plain [] (by kernel_rfl))
  (fun _ => RefK.seq [(4, .bool)] [] (fun z_ => [(4, .bool z_.1)]) (fun z_ => bitmap_Set_Drop_s0 k z_.1) (by kernel_rfl) (fun _ => by kernel_rfl)
  (RefK.plain [] (by kernel_rfl))
  (fun ⟨x4, _⟩ => RefK.ret (by kernel_rfl))))))) hyp_
@[reducible] def free_Lists_Push_s0 (k : (Int → K)) (x6 : Int) : K :=
  k x6
@[reducible] def free_Lists_Push_s1 (l : (Option Addr)) (k_1 : Int) (at_1 : Int) (k : (Int → K)) : K :=
  tick fun _ =>
  nn l fun x20 =>
  ixA (Addr.add x20 0) 32 k_1 1 fun x22 =>
  ldS x22 fun x23 =>
  nn l fun x27 =>
  alK (.cells #[.int .i64 at_1] 3) fun b =>
  semT Tryz.prog (Builtin.append_ #[27, 27] 27 #[x23.v, .slice (some ⟨b, 0, none⟩) 1 1]) (.one (.sc (.slice))) fun x26 =>
  ixA (Addr.add x27 0) 32 k_1 1 fun x29 =>
  stK (Addr.add x29 0) (x26.v) <|
  free_Lists_Push_s0 k 0
@[reducible] def free_Lists_Push_s2 (k : (Int → K)) (x6_1 : Int) : K :=
  k x6_1
@[reducible] def free_Lists_Push_s3 (k : (Int → K)) (x6_2 : Int) : K :=
  k x6_2
@[reducible] def free_Lists_Push_s4 (l : (Option Addr)) (k_1 : Int) (at_1 : Int) (k : (Int → K)) (x11 : Bool) : K :=
  brK x11
  (free_Lists_Push_s3 k 41)
  (free_Lists_Push_s1 l k_1 at_1 k)
@[reducible] def free_Lists_Push_s5 (l : (Option Addr)) (k_1 : Int) (at_1 : Int) (k : (Int → K)) : K :=
  c_free_Lists_Has l k_1 at_1 fun x15 =>
  free_Lists_Push_s4 l k_1 at_1 k x15
@[reducible] def free_Lists_Push_s6 (l : (Option Addr)) (k_1 : Int) (at_1 : Int) (k : (Int → K)) (x7 : Bool) : K :=
  brK x7
  (free_Lists_Push_s2 k 1)
  (free_Lists_Push_s5 l k_1 at_1 k)
@[reducible] def free_Lists_Push_s7 (l : (Option Addr)) (k_1 : Int) (at_1 : Int) (k : (Int → K)) : K :=
  c_class_Right k_1 fun x9 =>
  free_Lists_Push_s6 l k_1 at_1 k (!x9)
@[reducible] def free_Lists_Push (l : (Option Addr)) (k_1 : Int) (at_1 : Int) : M Int := fun k =>
  free_Lists_Push_s7 l k_1 at_1 k
theorem free_Lists_Push_ok (l : (Option Addr)) (k_1 : Int) (at_1 : Int) (k : Int → K) (w : World) (hyp_ : free_Lists_Push l k_1 at_1 k w) : c_free_Lists_Push l k_1 at_1 k w :=
  cl_of (P := Tryz.prog) Tryz.func82 rfl (by kernel_rfl)
  (RefK.seq [] [0, 1, 2] (fun z_ => [(0, .pointer l), (1, .int .i64 k_1), (2, .int .i64 at_1)]) (fun z_ => free_Lists_Push_s7 l k_1 at_1 k) (by kernel_rfl) (fun _ => by kernel_rfl)
  (RefK.plain [] (by kernel_rfl))
  (fun _ => RefK.seq [] [0, 1, 2] (fun z_ => [(0, .pointer l), (1, .int .i64 k_1), (2, .int .i64 at_1)]) (fun z_ => free_Lists_Push_s1 l k_1 at_1 k) (by kernel_rfl) (fun _ => by kernel_rfl)
  (RefK.block (RefK.seq [(7, .bool)] [0, 1, 2] (fun z_ => [(7, .bool z_.1), (0, .pointer l), (1, .int .i64 k_1), (2, .int .i64 at_1)]) (fun z_ => free_Lists_Push_s6 l k_1 at_1 k z_.1) (by kernel_rfl) (fun _ => by kernel_rfl)
  (RefK.plain [] (by kernel_rfl))
  (fun ⟨x7, _⟩ => RefK.cond (b := x7) (t1 := free_Lists_Push_s2 k 1) (t2 := free_Lists_Push_s5 l k_1 at_1 k) (by kernel_rfl) (by kernel_rfl) (fun w h => brK_spec w h) (RefK.seq [(6, .int .i64)] [] (fun z_ => [(6, .int .i64 z_.1)]) (fun z_ => free_Lists_Push_s2 k z_.1) (by kernel_rfl) (fun _ => by kernel_rfl)
  (RefK.plain [] (by kernel_rfl))
  (fun ⟨x6_1, _⟩ => RefK.ret (by kernel_rfl))) (RefK.seq [(11, .bool)] [0, 1, 2] (fun z_ => [(11, .bool z_.1), (0, .pointer l), (1, .int .i64 k_1), (2, .int .i64 at_1)]) (fun z_ => free_Lists_Push_s4 l k_1 at_1 k z_.1) (by kernel_rfl) (fun _ => by kernel_rfl)
  (RefK.plain [] (by kernel_rfl))
  (fun ⟨x11, _⟩ => RefK.cond (b := x11) (t1 := free_Lists_Push_s3 k 41) (t2 := free_Lists_Push_s1 l k_1 at_1 k) (by kernel_rfl) (by kernel_rfl) (fun w h => brK_spec w h) (RefK.seq [(6, .int .i64)] [] (fun z_ => [(6, .int .i64 z_.1)]) (fun z_ => free_Lists_Push_s3 k z_.1) (by kernel_rfl) (fun _ => by kernel_rfl)
  (RefK.plain [] (by kernel_rfl))
  (fun ⟨x6_2, _⟩ => RefK.ret (by kernel_rfl))) (RefK.skip (by kernel_rfl)))))))
  (fun _ => RefK.seq [] [] (fun z_ => []) (fun z_ => free_Lists_Push_s0 k 0) (by kernel_rfl) (fun _ => by kernel_rfl)
  (RefK.draw [] [0, 0, 0, 0, 4, 20, 60, 124, 0, 256, 1020, 1, 2049, 8191, 16383] [0, 1, 2, 3, 4, 5, 6, 7, 8, 11, 12, 9, 10, 13, 14] [0, 1, 2, 3, 4, 5, 6, 7, 8, 9, 10, 11, 12, 13, 14] (by kernel_rfl) (by kernel_rfl))
  (fun _ => RefK.seq [(6, .int .i64)] [] (fun z_ => [(6, .int .i64 z_.1)]) (fun z_ => free_Lists_Push_s0 k z_.1) (by kernel_rfl) (fun _ => by kernel_rfl)
  (RefK.plain [] (by kernel_rfl))
  (fun ⟨x6, _⟩ => RefK.ret (by kernel_rfl)))))) hyp_
@[reducible] def free_Lists_Put_s0 (k : (Int → K)) (x8 : Int) : K :=
  k x8
@[reducible] def free_Lists_Put_s1 (x0 : (Option Addr)) (k : (Int → K)) (x9 : Addr) (x10 : Sl) (x11 : Int) : K :=
  tick fun _ =>
  nn x0 fun x64 =>
  ldM (Addr.add x64 32) fun x66 =>
  ldI .i64 (Addr.add x9 0) fun x67_0 =>
  ldI .i64 (Addr.add x9 1) fun x67_1 =>
  loB (some (.int .i64 x11)) 0 x10.n fun l =>
  c_slices_Clone_Sint_int ⟨(cutP x10.p l x10.c 1), (x10.n - l), (x10.c - l)⟩ fun x71 =>
  chk [.cell (Addr.add x9 0) (.int .i64 x67_0), .cell (Addr.add x9 1) (.int .i64 x67_1), .cell (Addr.add x64 32) (.map x66)] fun _ =>
  semU Tryz.prog (Instr.mapUpdate 197 (.map x66) (.agg #[.int .i64 x67_0, .int .i64 x67_1]) x71.v) <|
  free_Lists_Put_s0 k 0
@[reducible] def free_Lists_Put_s2 (x0 : (Option Addr)) (x2 : Int) (k : (Int → K)) (x9 : Addr) (x10 : Sl) (x11 : Int) : K :=
  tick fun _ =>
  nn x0 fun x52 =>
  ixA (Addr.add x52 0) 32 x2 1 fun x54 =>
  ldS x54 fun x55 =>
  loB (some (.int .i64 x11)) x10.n x10.c fun h =>
  nn x0 fun x60 =>
  semT Tryz.prog (Builtin.append_ #[27, 27] 27 #[x55.v, .slice (cutP x10.p 0 x10.c 1) (h - 0) (x10.c - 0)]) (.one (.sc (.slice))) fun x59 =>
  ixA (Addr.add x60 0) 32 x2 1 fun x62 =>
  stK (Addr.add x62 0) (x59.v) <|
  free_Lists_Put_s1 x0 k x9 x10 x11
@[reducible] def free_Lists_Put_s3 (x0 : (Option Addr)) (x2 : Int) (k : (Int → K)) (x9 : Addr) (x10 : Sl) (x44 : Bool) : K :=
  brK x44
  (free_Lists_Put_s2 x0 x2 k x9 x10 (IntKind.wrap .i64 (Int.tdiv ((x10.n : Nat) : Int) 2)))
  (free_Lists_Put_s0 k 0)
@[reducible] def free_Lists_Put_s4 (x0 : (Option Addr)) (x2 : Int) (k : (Int → K)) (x9 : Addr) (x10 : Sl) : K :=
  free_Lists_Put_s3 x0 x2 k x9 x10 (decide (((x10.n : Nat) : Int) > 8))
@[reducible] def free_Lists_Put_s5 (x0 : (Option Addr)) (x2 : Int) (k : (Int → K)) (x9 : Addr) : K :=
  tick fun _ =>
  nn x0 fun x37 =>
  ldM (Addr.add x37 32) fun x39 =>
  ldI .i64 (Addr.add x9 0) fun x40_0 =>
  ldI .i64 (Addr.add x9 1) fun x40_1 =>
  lkE Tryz.prog 201 (.slice none 0 0) (.sc (.slice)) x39 (.agg #[.int .i64 x40_0, .int .i64 x40_1]) fun r ob x41 ok =>
  free_Lists_Put_s4 x0 x2 k x9 x41
@[reducible] def free_Lists_Put_s6 (x0 : (Option Addr)) (x2 : Int) (x3 : Int) (k : (Int → K)) (x9 : Addr) : K :=
  tick fun _ =>
  nn x0 fun x26 =>
  ldM (Addr.add x26 32) fun x28 =>
  ldI .i64 (Addr.add x9 0) fun x29_0 =>
  ldI .i64 (Addr.add x9 1) fun x29_1 =>
  alK (.cells #[.int .i64 x3] 3) fun b =>
  semT Tryz.prog (Instr.mapEntry 197 (.map x28) (.agg #[.int .i64 x29_0, .int .i64 x29_1])) (.tup [.sc (.slice), .sc (.int .i64)]) fun e =>
  semT Tryz.prog (Builtin.append_ #[27, 27] 27 #[e.1.v, .slice (some ⟨b, 0, none⟩) 1 1]) (.one (.sc (.slice))) fun x34 =>
  semU Tryz.prog (Instr.entryStore 197 (.map x28) (.int .i64 e.2) x34.v) <|
  free_Lists_Put_s5 x0 x2 k x9
@[reducible] def free_Lists_Put_s7 (x0 : (Option Addr)) (x1 : Int) (x2 : Int) (x3 : Int) (k : (Int → K)) : K :=
  alK (.cells #[.int .i64 0, .int .i64 0] 201) fun b_1 =>
  stK (Addr.add ⟨b_1, 0, none⟩ 0) (.int .i64 x1) <|
  stK (Addr.add ⟨b_1, 0, none⟩ 1) (.int .i64 x2) <|
  free_Lists_Put_s6 x0 x2 x3 k ⟨b_1, 0, none⟩
@[reducible] def free_Lists_Put_s8 (k : (Int → K)) (x8_1 : Int) : K :=
  k x8_1
@[reducible] def free_Lists_Put_s9 (k : (Int → K)) (x8_2 : Int) : K :=
  k x8_2
@[reducible] def free_Lists_Put_s10 (x0 : (Option Addr)) (x1 : Int) (x2 : Int) (x3 : Int) (k : (Int → K)) (x17 : Bool) : K :=
  brK x17
  (free_Lists_Put_s9 k 41)
  (free_Lists_Put_s7 x0 x1 x2 x3 k)
@[reducible] def free_Lists_Put_s11 (x0 : (Option Addr)) (x1 : Int) (x2 : Int) (x3 : Int) (k : (Int → K)) : K :=
  c_free_Lists_Has x0 x2 x3 fun x21 =>
  free_Lists_Put_s10 x0 x1 x2 x3 k x21
@[reducible] def free_Lists_Put_s12 (x0 : (Option Addr)) (x1 : Int) (x2 : Int) (x3 : Int) (k : (Int → K)) (x12 : Bool) : K :=
  brK x12
  (free_Lists_Put_s8 k 1)
  (free_Lists_Put_s11 x0 x1 x2 x3 k)
@[reducible] def free_Lists_Put_s13 (x0 : (Option Addr)) (x1 : Int) (x2 : Int) (x3 : Int) (k : (Int → K)) : K :=
  c_free_right x1 x2 fun x15 =>
  free_Lists_Put_s12 x0 x1 x2 x3 k (!x15)
@[reducible] def free_Lists_Put (x0 : (Option Addr)) (x1 : Int) (x2 : Int) (x3 : Int) : M Int := fun k =>
  free_Lists_Put_s13 x0 x1 x2 x3 k
theorem free_Lists_Put_ok (x0 : (Option Addr)) (x1 : Int) (x2 : Int) (x3 : Int) (k : Int → K) (w : World) (hyp_ : free_Lists_Put x0 x1 x2 x3 k w) : c_free_Lists_Put x0 x1 x2 x3 k w :=
  cl_of (P := Tryz.prog) Tryz.func83 rfl (by kernel_rfl)
  (RefK.seq [] [0, 1, 2, 3] (fun z_ => [(0, .pointer x0), (1, .int .i64 x1), (2, .int .i64 x2), (3, .int .i64 x3)]) (fun z_ => free_Lists_Put_s13 x0 x1 x2 x3 k) (by kernel_rfl) (fun _ => by kernel_rfl)
  (RefK.plain [] (by kernel_rfl))
  (fun _ => RefK.seq [] [0, 1, 2, 3] (fun z_ => [(0, .pointer x0), (1, .int .i64 x1), (2, .int .i64 x2), (3, .int .i64 x3)]) (fun z_ => free_Lists_Put_s7 x0 x1 x2 x3 k) (by kernel_rfl) (fun _ => by kernel_rfl)
  (RefK.block (RefK.seq [(12, .bool)] [0, 1, 2, 3] (fun z_ => [(12, .bool z_.1), (0, .pointer x0), (1, .int .i64 x1), (2, .int .i64 x2), (3, .int .i64 x3)]) (fun z_ => free_Lists_Put_s12 x0 x1 x2 x3 k z_.1) (by kernel_rfl) (fun _ => by kernel_rfl)
  (RefK.plain [] (by kernel_rfl))
  (fun ⟨x12, _⟩ => RefK.cond (b := x12) (t1 := free_Lists_Put_s8 k 1) (t2 := free_Lists_Put_s11 x0 x1 x2 x3 k) (by kernel_rfl) (by kernel_rfl) (fun w h => brK_spec w h) (RefK.seq [(8, .int .i64)] [] (fun z_ => [(8, .int .i64 z_.1)]) (fun z_ => free_Lists_Put_s8 k z_.1) (by kernel_rfl) (fun _ => by kernel_rfl)
  (RefK.plain [] (by kernel_rfl))
  (fun ⟨x8_1, _⟩ => RefK.ret (by kernel_rfl))) (RefK.seq [(17, .bool)] [0, 1, 2, 3] (fun z_ => [(17, .bool z_.1), (0, .pointer x0), (1, .int .i64 x1), (2, .int .i64 x2), (3, .int .i64 x3)]) (fun z_ => free_Lists_Put_s10 x0 x1 x2 x3 k z_.1) (by kernel_rfl) (fun _ => by kernel_rfl)
  (RefK.plain [] (by kernel_rfl))
  (fun ⟨x17, _⟩ => RefK.cond (b := x17) (t1 := free_Lists_Put_s9 k 41) (t2 := free_Lists_Put_s7 x0 x1 x2 x3 k) (by kernel_rfl) (by kernel_rfl) (fun w h => brK_spec w h) (RefK.seq [(8, .int .i64)] [] (fun z_ => [(8, .int .i64 z_.1)]) (fun z_ => free_Lists_Put_s9 k z_.1) (by kernel_rfl) (fun _ => by kernel_rfl)
  (RefK.plain [] (by kernel_rfl))
  (fun ⟨x8_2, _⟩ => RefK.ret (by kernel_rfl))) (RefK.skip (by kernel_rfl)))))))
  (fun _ => RefK.seq [(9, .addr)] [0, 2, 3] (fun z_ => [(9, .pointer (some z_.1)), (0, .pointer x0), (2, .int .i64 x2), (3, .int .i64 x3)]) (fun z_ => free_Lists_Put_s6 x0 x2 x3 k z_.1) (by kernel_rfl) (fun _ => by kernel_rfl)
  (RefK.plain [] (by kernel_rfl))
  (fun ⟨x9, _⟩ => RefK.seq [] [0, 2, 9] (fun z_ => [(0, .pointer x0), (2, .int .i64 x2), (9, .pointer (some x9))]) (fun z_ => free_Lists_Put_s5 x0 x2 k x9) (by kernel_rfl) (fun _ => by kernel_rfl)
  (RefK.draw [] [0, 1, 3, 7, 0, 0, 32, 127, 255, 511, 255, 2047] [0, 1, 2, 3, 4, 5, 6, 7, 8, 10, 9, 11] [0, 1, 2, 3, 4, 5, 6, 7, 8, 9, 10, 11] (by kernel_rfl) (by kernel_rfl))
  (fun _ => RefK.seq [] [] (fun z_ => []) (fun z_ => free_Lists_Put_s0 k 0) (by kernel_rfl) (fun _ => by kernel_rfl)
  (RefK.seq [(10, .slice)] [0, 2, 9] (fun z_ => [(10, z_.1.v), (0, .pointer x0), (2, .int .i64 x2), (9, .pointer (some x9))]) (fun z_ => free_Lists_Put_s4 x0 x2 k x9 z_.1) (by kernel_rfl) (fun _ => by kernel_rfl)
  (RefK.draw [] [0, 1, 3, 7, 0, 31, 63] [0, 1, 2, 3, 4, 5, 6] [0, 1, 2, 3, 4, 5, 6] (by kernel_rfl) (by kernel_rfl))
  (fun ⟨x10, _⟩ => RefK.seq [(44, .bool)] [0, 2, 9, 10] (fun z_ => [(44, .bool z_.1), (0, .pointer x0), (2, .int .i64 x2), (9, .pointer (some x9)), (10, x10.v)]) (fun z_ => free_Lists_Put_s3 x0 x2 k x9 x10 z_.1) (by kernel_rfl) (fun _ => by kernel_rfl)
  (RefK.plain [] (by kernel_rfl))
  (fun ⟨x44, _⟩ => RefK.cond (b := x44) (t1 := free_Lists_Put_s2 x0 x2 k x9 x10 (IntKind.wrap .i64 (Int.tdiv ((x10.n : Nat) : Int) 2))) (t2 := free_Lists_Put_s0 k 0) (by kernel_rfl) (by kernel_rfl) (fun w h => brK_spec w h) (RefK.seq [(11, .int .i64)] [0, 2, 9, 10] (fun z_ => [(11, .int .i64 z_.1), (0, .pointer x0), (2, .int .i64 x2), (9, .pointer (some x9)), (10, x10.v)]) (fun z_ => free_Lists_Put_s2 x0 x2 k x9 x10 z_.1) (by kernel_rfl) (fun _ => by kernel_rfl)
  (RefK.plain [] (by kernel_rfl))
  (fun ⟨x11, _⟩ => RefK.seq [] [0, 9, 10, 11] (fun z_ => [(0, .pointer x0), (9, .pointer (some x9)), (10, x10.v), (11, .int .i64 x11)]) (fun z_ => free_Lists_Put_s1 x0 k x9 x10 x11) (by kernel_rfl) (fun _ => by kernel_rfl)
  (RefK.draw [] [0, 0, 0, 0, 4, 20, 60, 124, 0, 0, 768, 2044, 1, 4097, 16383, 32767] [0, 1, 2, 3, 4, 5, 6, 7, 8, 9, 10, 12, 13, 11, 14, 15] [0, 1, 2, 3, 4, 5, 6, 7, 8, 9, 10, 11, 12, 13, 14, 15] (by kernel_rfl) (by kernel_rfl))
  (fun _ => RefK.draw [] [0, 1, 3, 7, 0, 0, 0, 96, 224, 511] [0, 1, 2, 3, 4, 5, 6, 7, 8, 9] [0, 1, 2, 3, 4, 5, 6, 7, 8, 9] (by kernel_rfl) (by kernel_rfl)))) (RefK.skip (by kernel_rfl)))))
  (fun _ => RefK.seq [(8, .int .i64)] [] (fun z_ => [(8, .int .i64 z_.1)]) (fun z_ => free_Lists_Put_s0 k z_.1) (by kernel_rfl) (fun _ => by kernel_rfl)
  (RefK.plain [] (by kernel_rfl))
  (fun ⟨x8, _⟩ => RefK.ret (by kernel_rfl)))))))) hyp_
@[reducible] def bitmap_Set_Add_s0 (k : (Bool → K)) (x4 : Bool) : K :=
  k x4
@[reducible] def bitmap_Set_Add_s1 (s : (Option Addr)) (k : (Bool → K)) : K :=
  nn s fun x29 =>
  ldI .i64 (Addr.add x29 2) fun x31 =>
  nn s fun x33 =>
  stK (Addr.add (Addr.add x33 2) 0) (.int .i64 (IntKind.wrap .i64 (x31 + 1))) <|
  bitmap_Set_Add_s0 k true
@[reducible] def bitmap_Set_Add_s2 (s : (Option Addr)) (at_1 : Int) (k : (Bool → K)) : K :=
  nn s fun x15 =>
  ldS (Addr.add x15 0) fun x17 =>
  ixS x17.p x17.n (IntKind.wrap .i64 (Int.tdiv at_1 64)) 1 fun x20 =>
  ldI .u64 x20 fun x21 =>
  nneg (IntKind.wrap .u64 (Int.tmod at_1 64)) <|
  ixS x17.p x17.n (IntKind.wrap .i64 (Int.tdiv at_1 64)) 1 fun x27 =>
  stK (Addr.add x27 0) (.int .u64 (bitI .or .u64 x21 (shlI .u64 1 (IntKind.wrap .u64 (Int.tmod at_1 64))))) <|
  bitmap_Set_Add_s1 s k
@[reducible] def bitmap_Set_Add_s3 (k : (Bool → K)) (x4_1 : Bool) : K :=
  k x4_1
@[reducible] def bitmap_Set_Add_s4 (s : (Option Addr)) (at_1 : Int) (k : (Bool → K)) (x13 : Bool) : K :=
  brK x13
  (bitmap_Set_Add_s3 k false)
  (bitmap_Set_Add_s2 s at_1 k)
@[reducible] def bitmap_Set_Add_s5 (s : (Option Addr)) (at_1 : Int) (k : (Bool → K)) : K :=
  c_bitmap_Set_in s at_1 fun x7 =>
  brK (!x7)
  (bitmap_Set_Add_s4 s at_1 k true)
  (c_bitmap_Set_Has s at_1 fun x12 =>
  bitmap_Set_Add_s4 s at_1 k x12)
@[reducible] def bitmap_Set_Add (s : (Option Addr)) (at_1 : Int) : M Bool := fun k =>
  bitmap_Set_Add_s5 s at_1 k
theorem bitmap_Set_Add_ok (s : (Option Addr)) (at_1 : Int) (k : Bool → K) (w : World) (hyp_ : bitmap_Set_Add s at_1 k w) : c_bitmap_Set_Add s at_1 k w :=
  cl_of (P := Tryz.prog) Tryz.func91 rfl (by kernel_rfl)
  (RefK.seq [] [0, 1] (fun z_ => [(0, .pointer s), (1, .int .i64 at_1)]) (fun z_ => bitmap_Set_Add_s5 s at_1 k) (by kernel_rfl) (fun _ => by kernel_rfl)
  (RefK.plain [] (by kernel_rfl))
  (fun _ => RefK.seq [] [0, 1] (fun z_ => [(0, .pointer s), (1, .int .i64 at_1)]) (fun z_ => bitmap_Set_Add_s2 s at_1 k) (by kernel_rfl) (fun _ => by kernel_rfl)
  (RefK.seq [(13, .bool)] [0, 1] (fun z_ => [(13, .bool z_.1), (0, .pointer s), (1, .int .i64 at_1)]) (fun z_ => bitmap_Set_Add_s4 s at_1 k z_.1) (by kernel_rfl) (fun _ => by kernel_rfl)
  (RefK.plain [4] (by kernel_rfl))
  (fun ⟨x13, _⟩ => RefK.cond (b := x13) (t1 := bitmap_Set_Add_s3 k false) (t2 := bitmap_Set_Add_s2 s at_1 k) (by kernel_rfl) (by kernel_rfl) (fun w h => brK_spec w h) (RefK.seq [(4, .bool)] [] (fun z_ => [(4, .bool z_.1)]) (fun z_ => bitmap_Set_Add_s3 k z_.1) (by kernel_rfl) (fun _ => by kernel_rfl)
  (RefK.plain [] (by kernel_rfl))
  (fun ⟨x4_1, _⟩ => RefK.ret (by kernel_rfl))) (RefK.skip (by kernel_rfl))))
  (fun _ => RefK.seq [] [0] (fun z_ => [(0, .pointer s)]) (fun z_ => bitmap_Set_Add_s1 s k) (by kernel_rfl) (fun _ => by kernel_rfl)
  (RefK.plain [] (by kernel_rfl))
  (fun _ => RefK.seq [] [] (fun z_ => []) (fun z_ => bitmap_Set_Add_s0 k true) (by kernel_rfl) (fun _ => by kernel_rfl)
  (RefK.plain [] (by kernel_rfl))
  (fun _ => RefK.seq [(4, .bool)] [] (fun z_ => [(4, .bool z_.1)]) (fun z_ => bitmap_Set_Add_s0 k z_.1) (by kernel_rfl) (fun _ => by kernel_rfl)
  (RefK.plain [] (by kernel_rfl))
  (fun ⟨x4, _⟩ => RefK.ret (by kernel_rfl))))))) hyp_
@[reducible] def bman_Manager_Longest_s0 (k : (Int → K)) (x2 : Int) : K :=
  k x2
@[reducible] def bman_Manager_Longest_s1 (m : (Option Addr)) (k : (Int → K)) : K :=
  nn m fun x4 =>
  ldP (Addr.add x4 1) fun x6 =>
  c_runs_Index_Longest x6 fun x7 =>
  bman_Manager_Longest_s0 k x7
@[reducible] def bman_Manager_Longest (m : (Option Addr)) : M Int := fun k =>
  bman_Manager_Longest_s1 m k
theorem bman_Manager_Longest_ok (m : (Option Addr)) (k : Int → K) (w : World) (hyp_ : bman_Manager_Longest m k w) : c_bman_Manager_Longest m k w :=
  cl_of (P := Tryz.prog) Tryz.func95 rfl (by kernel_rfl)
  (RefK.seq [] [0] (fun z_ => [(0, .pointer m)]) (fun z_ => bman_Manager_Longest_s1 m k) (by kernel_rfl) (fun _ => by kernel_rfl)
  (RefK.plain [] (by kernel_rfl))
  (fun _ => RefK.seq [(2, .int .i64)] [] (fun z_ => [(2, .int .i64 z_.1)]) (fun z_ => bman_Manager_Longest_s0 k z_.1) (by kernel_rfl) (fun _ => by kernel_rfl)
  (RefK.plain [] (by kernel_rfl))
  (fun ⟨x2, _⟩ => RefK.ret (by kernel_rfl)))) hyp_
@[reducible] def bman_Manager_FreeBlocks_s0 (k : (Int → K)) (x2 : Int) : K :=
  k x2
@[reducible] def bman_Manager_FreeBlocks_s1 (m : (Option Addr)) (k : (Int → K)) : K :=
  nn m fun x4 =>
  ldP (Addr.add x4 1) fun x6 =>
  c_runs_Index_Total x6 fun x7 =>
  bman_Manager_FreeBlocks_s0 k x7
@[reducible] def bman_Manager_FreeBlocks (m : (Option Addr)) : M Int := fun k =>
  bman_Manager_FreeBlocks_s1 m k
theorem bman_Manager_FreeBlocks_ok (m : (Option Addr)) (k : Int → K) (w : World) (hyp_ : bman_Manager_FreeBlocks m k w) : c_bman_Manager_FreeBlocks m k w :=
  cl_of (P := Tryz.prog) Tryz.func101 rfl (by kernel_rfl)
  (RefK.seq [] [0] (fun z_ => [(0, .pointer m)]) (fun z_ => bman_Manager_FreeBlocks_s1 m k) (by kernel_rfl) (fun _ => by kernel_rfl)
  (RefK.plain [] (by kernel_rfl))
  (fun _ => RefK.seq [(2, .int .i64)] [] (fun z_ => [(2, .int .i64 z_.1)]) (fun z_ => bman_Manager_FreeBlocks_s0 k z_.1) (by kernel_rfl) (fun _ => by kernel_rfl)
  (RefK.plain [] (by kernel_rfl))
  (fun ⟨x2, _⟩ => RefK.ret (by kernel_rfl)))) hyp_
@[reducible] def bman_Manager_Runs_s0 (k : (Sl → K)) (x2 : Sl) : K :=
  k x2
@[reducible] def bman_Manager_Runs_s1 (m : (Option Addr)) (k : (Sl → K)) : K :=
  nn m fun x4 =>
  ldP (Addr.add x4 1) fun x6 =>
  c_runs_Index_List x6 fun x7 =>
  bman_Manager_Runs_s0 k x7
@[reducible] def bman_Manager_Runs (m : (Option Addr)) : M Sl := fun k =>
  bman_Manager_Runs_s1 m k
theorem bman_Manager_Runs_ok (m : (Option Addr)) (k : Sl → K) (w : World) (hyp_ : bman_Manager_Runs m k w) : c_bman_Manager_Runs m k w :=
  cl_of (P := Tryz.prog) Tryz.func103 rfl (by kernel_rfl)
  (RefK.seq [] [0] (fun z_ => [(0, .pointer m)]) (fun z_ => bman_Manager_Runs_s1 m k) (by kernel_rfl) (fun _ => by kernel_rfl)
  (RefK.plain [] (by kernel_rfl))
  (fun _ => RefK.seq [(2, .slice)] [] (fun z_ => [(2, z_.1.v)]) (fun z_ => bman_Manager_Runs_s0 k z_.1) (by kernel_rfl) (fun _ => by kernel_rfl)
  (RefK.plain [] (by kernel_rfl))
  (fun ⟨x2, _⟩ => RefK.ret (by kernel_rfl)))) hyp_
@[reducible] def blocks_Format_s0 (k : (Int → K)) (x4 : Int) : K :=
  k x4
@[reducible] def blocks_Format_s1 (d : (Option Addr)) (k : (Int → K)) (g_1 : Addr) : K :=
  tick fun _ =>
  ldI .i64 (Addr.add g_1 0) fun x25_0 =>
  ldI .i64 (Addr.add g_1 0) fun x28 =>
  c_geom_Geometry_Header x25_0 1 fun x26 =>
  chk [.cell (Addr.add g_1 0) (.int .i64 x28)] fun _ =>
  c_nvm_Device_Persist d x26 (IntKind.wrap .i64 (x28 - 1)) fun x30 =>
  blocks_Format_s0 k x30
@[reducible] def blocks_Format_s2 (k : (Int → K)) (x4_1 : Int) : K :=
  k x4_1
@[reducible] def blocks_Format_s3 (k : (Int → K)) (b_1 : Int) (c : ((Int × Unit) → K)) (e : Int) (x22 : Bool) : K :=
  brK x22
  (blocks_Format_s2 k e)
  (c ((IntKind.wrap .i64 (b_1 + 1)), ()))
@[reducible] def blocks_Format_s4 (k : (Int → K)) (b_1 : Int) (c : ((Int × Unit) → K)) (e : Int) : K :=
  blocks_Format_s3 k b_1 c e (e != 0)
@[reducible] def blocks_Format_s5 (d : (Option Addr)) (k : (Int → K)) (g_1 : Addr) (b_1 : Int) (c : ((Int × Unit) → K)) : K :=
  ldI .i64 (Addr.add g_1 0) fun x14_0 =>
  c_geom_Geometry_Header x14_0 b_1 fun x16 =>
  c_bhead_Encode b_1 (0, (0, 0)) fun x19 =>
  c_nvm_Device_Store d x16 x19 fun x20 =>
  blocks_Format_s4 k b_1 c x20
@[reducible] def blocks_Format_s6 (d : (Option Addr)) (k : (Int → K)) (g_1 : Addr) (b_1 : Int) (c : ((Int × Unit) → K)) (x10 : Bool) : K :=
  brK x10
  (blocks_Format_s5 d k g_1 b_1 c)
  (blocks_Format_s1 d k g_1)
@[reducible] def blocks_Format_l7 (d : (Option Addr)) (k : (Int → K)) (g_1 : Addr) (b_1 : Int) (c : ((Int × Unit) → K)) : K :=
  ldI .i64 (Addr.add g_1 0) fun x9 =>
  blocks_Format_s6 d k g_1 b_1 c (decide (b_1 < x9))
@[reducible] def blocks_Format_s8 (d : (Option Addr)) (k : (Int → K)) (g_1 : Addr) (b : Int) : K :=
  lp (fun (z_ : (Int × Unit)) c_ => blocks_Format_l7 d k g_1 z_.1 c_) (b, ())
@[reducible] def blocks_Format_s9 (d : (Option Addr)) (k : (Int → K)) (g_1 : Addr) : K :=
  blocks_Format_s8 d k g_1 1
@[reducible] def blocks_Format (d : (Option Addr)) (g : Int) : M Int := fun k =>
  alK (.cells #[.int .i64 g] 43) fun b_2 =>
  blocks_Format_s9 d k ⟨b_2, 0, none⟩
theorem blocks_Format_ok (d : (Option Addr)) (g : Int) (k : Int → K) (w : World) (hyp_ : blocks_Format d g k w) : c_blocks_Format d g k w :=
  cl_of (P := Tryz.prog) Tryz.func122 rfl (by kernel_rfl)
  (RefK.seq [(3, .addr)] [0] (fun z_ => [(3, .pointer (some z_.1)), (0, .pointer d)]) (fun z_ => blocks_Format_s9 d k z_.1) (by kernel_rfl) (fun _ => by kernel_rfl)
  (RefK.plain [] (by kernel_rfl))
  (fun ⟨g_1, _⟩ => RefK.seq [] [0, 3] (fun z_ => [(0, .pointer d), (3, .pointer (some g_1))]) (fun z_ => blocks_Format_s1 d k g_1) (by kernel_rfl) (fun _ => by kernel_rfl)
  (RefK.seq [(5, .int .i64)] [0, 3] (fun z_ => [(5, .int .i64 z_.1), (0, .pointer d), (3, .pointer (some g_1))]) (fun z_ => blocks_Format_s8 d k g_1 z_.1) (by kernel_rfl) (fun _ => by kernel_rfl)
  (RefK.plain [] (by kernel_rfl))
  (fun ⟨b, _⟩ => RefK.block (RefK.loop [(5, .int .i64)] [0, 3] (fun z_ => [(5, .int .i64 z_.1), (0, .pointer d), (3, .pointer (some g_1))]) (fun (z_ : (Int × Unit)) c_ => blocks_Format_l7 d k g_1 z_.1 c_) (b, ()) (by kernel_rfl) (fun _ => by kernel_rfl) (by kernel_rfl) (by kernel_rfl)
  (fun ⟨b_1, _⟩ c => RefK.seq [] [0, 3, 5] (fun z_ => [(0, .pointer d), (3, .pointer (some g_1)), (5, .int .i64 b_1)]) (fun z_ => blocks_Format_s5 d k g_1 b_1 c) (by kernel_rfl) (fun _ => by kernel_rfl)
  (RefK.seq [(10, .bool)] [0, 3, 5] (fun z_ => [(10, .bool z_.1), (0, .pointer d), (3, .pointer (some g_1)), (5, .int .i64 b_1)]) (fun z_ => blocks_Format_s6 d k g_1 b_1 c z_.1) (by kernel_rfl) (fun _ => by kernel_rfl)
  (RefK.plain [] (by kernel_rfl))
  (fun ⟨x10, _⟩ => RefK.cond (b := x10) (t1 := blocks_Format_s5 d k g_1 b_1 c) (t2 := blocks_Format_s1 d k g_1) (by kernel_rfl) (by kernel_rfl) (fun w h => brK_spec w h) (RefK.skip (by kernel_rfl)) (RefK.exit (by kernel_rfl))))
  (fun _ => RefK.seq [] [0, 3, 5] (fun z_ => [(0, .pointer d), (3, .pointer (some g_1)), (5, .int .i64 b_1)]) (fun z_ => c ((IntKind.wrap .i64 (b_1 + 1)), ())) (by kernel_rfl) (fun _ => by kernel_rfl)
  (RefK.block (RefK.seq [(6, .int .i64)] [0, 3, 5] (fun z_ => [(6, .int .i64 z_.1), (0, .pointer d), (3, .pointer (some g_1)), (5, .int .i64 b_1)]) (fun z_ => blocks_Format_s4 k b_1 c z_.1) (by kernel_rfl) (fun _ => by kernel_rfl)
  (RefK.plain [] (by kernel_rfl))
  (fun ⟨e, _⟩ => RefK.seq [(22, .bool)] [0, 3, 5, 6] (fun z_ => [(22, .bool z_.1), (0, .pointer d), (3, .pointer (some g_1)), (5, .int .i64 b_1), (6, .int .i64 e)]) (fun z_ => blocks_Format_s3 k b_1 c e z_.1) (by kernel_rfl) (fun _ => by kernel_rfl)
  (RefK.plain [] (by kernel_rfl))
  (fun ⟨x22, _⟩ => RefK.cond (b := x22) (t1 := blocks_Format_s2 k e) (t2 := c ((IntKind.wrap .i64 (b_1 + 1)), ())) (by kernel_rfl) (by kernel_rfl) (fun w h => brK_spec w h) (RefK.seq [(4, .int .i64)] [] (fun z_ => [(4, .int .i64 z_.1)]) (fun z_ => blocks_Format_s2 k z_.1) (by kernel_rfl) (fun _ => by kernel_rfl)
  (RefK.plain [] (by kernel_rfl))
  (fun ⟨x4_1, _⟩ => RefK.ret (by kernel_rfl))) (RefK.skip (by kernel_rfl))))))
  (fun _ => RefK.plain [] (by kernel_rfl)))))))
  (fun _ => RefK.seq [(4, .int .i64)] [] (fun z_ => [(4, .int .i64 z_.1)]) (fun z_ => blocks_Format_s0 k z_.1) (by kernel_rfl) (fun _ => by kernel_rfl)
  (RefK.draw [] [0, 0, 2, 0, 8, 24, 63, 127] [0, 1, 3, 4, 5, 2, 6, 7] [0, 1, 2, 3, 4, 5, 6, 7] (by kernel_rfl) (by kernel_rfl))
  (fun ⟨x4, _⟩ => RefK.ret (by kernel_rfl))))) hyp_
@[reducible] def bman_Open_s0 (k : (((Option Addr) × Int) → K)) (x4 : Addr) (x5 : Int) : K :=
  k ((some x4), x5)
@[reducible] def bman_Open_s1 (k : (((Option Addr) × Int) → K)) (g_1 : Addr) (t : (Option Addr)) (x : (Option Addr)) : K :=
  ldI .i64 (Addr.add g_1 0) fun x41_0 =>
  alK (.cells #[.pointer t, .pointer x, .int .i64 x41_0] 51) fun b =>
  bman_Open_s0 k ⟨b, 0, none⟩ 0
@[reducible] def bman_Open_s2 (k : (((Option Addr) × Int) → K)) (x4_1 : (Option Addr)) (x5_1 : Int) : K :=
  k (x4_1, x5_1)
@[reducible] def bman_Open_s3 (k : (((Option Addr) × Int) → K)) (g_1 : Addr) (t : (Option Addr)) (e_1 : Int) (x : (Option Addr)) (x37 : Bool) : K :=
  brK x37
  (bman_Open_s2 k none e_1)
  (bman_Open_s1 k g_1 t x)
@[reducible] def bman_Open_s4 (k : (((Option Addr) × Int) → K)) (g_1 : Addr) (t : (Option Addr)) (e_1 : Int) (x : (Option Addr)) : K :=
  bman_Open_s3 k g_1 t e_1 x (e_1 != 0)
@[reducible] def bman_Open_s5 (k : (((Option Addr) × Int) → K)) (g_1 : Addr) (t : (Option Addr)) : K :=
  tick fun _ =>
  ldI .i64 (Addr.add g_1 0) fun x30 =>
  c_blocks_Table_Spans t fun x32 =>
  chk [.cell (Addr.add g_1 0) (.int .i64 x30)] fun _ =>
  c_runs_Fill x30 x32 fun x33 =>
  bman_Open_s4 k g_1 t x33.2 x33.1
@[reducible] def bman_Open_s6 (k : (((Option Addr) × Int) → K)) (x4_2 : (Option Addr)) (x5_2 : Int) : K :=
  k (x4_2, x5_2)
@[reducible] def bman_Open_s7 (k : (((Option Addr) × Int) → K)) (g_1 : Addr) (t : (Option Addr)) (x27 : Bool) : K :=
  brK x27
  (bman_Open_s6 k none 40)
  (bman_Open_s5 k g_1 t)
@[reducible] def bman_Open_s8 (k : (((Option Addr) × Int) → K)) (g_1 : Addr) (t : (Option Addr)) (ok : Bool) : K :=
  bman_Open_s7 k g_1 t (!ok)
@[reducible] def bman_Open_s9 (k : (((Option Addr) × Int) → K)) (g_1 : Addr) (t : (Option Addr)) : K :=
  c_blocks_Table_All t fun x22 =>
  c_bman_Sound x22 fun x23 =>
  bman_Open_s8 k g_1 t x23.2
@[reducible] def bman_Open_s10 (k : (((Option Addr) × Int) → K)) (x4_3 : (Option Addr)) (x5_3 : Int) : K :=
  k (x4_3, x5_3)
@[reducible] def bman_Open_s11 (k : (((Option Addr) × Int) → K)) (g_1 : Addr) (t : (Option Addr)) (e : Int) (x18 : Bool) : K :=
  brK x18
  (bman_Open_s10 k none e)
  (bman_Open_s9 k g_1 t)
@[reducible] def bman_Open_s12 (k : (((Option Addr) × Int) → K)) (g_1 : Addr) (t : (Option Addr)) (e : Int) : K :=
  bman_Open_s11 k g_1 t e (e != 0)
@[reducible] def bman_Open_s13 (d : (Option Addr)) (k : (((Option Addr) × Int) → K)) (g_1 : Addr) : K :=
  ldI .i64 (Addr.add g_1 0) fun x13_0 =>
  c_blocks_Open d x13_0 fun x14 =>
  bman_Open_s12 k g_1 x14.1 x14.2
@[reducible] def bman_Open (d : (Option Addr)) (g : Int) : M ((Option Addr) × Int) := fun k =>
  alK (.cells #[.int .i64 g] 43) fun b_1 =>
  bman_Open_s13 d k ⟨b_1, 0, none⟩
theorem bman_Open_ok (d : (Option Addr)) (g : Int) (k : ((Option Addr) × Int) → K) (w : World) (hyp_ : bman_Open d g k w) : c_bman_Open d g k w :=
  cl_of (P := Tryz.prog) Tryz.func123 rfl (by kernel_rfl)
  (RefK.seq [(3, .addr)] [0] (fun z_ => [(3, .pointer (some z_.1)), (0, .pointer d)]) (fun z_ => bman_Open_s13 d k z_.1) (by kernel_rfl) (fun _ => by kernel_rfl)
  (RefK.plain [] (by kernel_rfl))
  (fun ⟨g_1, _⟩ => RefK.seq [(6, .ptr), (7, .int .i64)] [3] (fun z_ => [(6, .pointer z_.1), (7, .int .i64 z_.2.1), (3, .pointer (some g_1))]) (fun z_ => bman_Open_s12 k g_1 z_.1 z_.2.1) (by kernel_rfl) (fun _ => by kernel_rfl)
  (RefK.plain [] (by kernel_rfl))
  (fun ⟨t, e, _⟩ => RefK.seq [] [3, 6] (fun z_ => [(3, .pointer (some g_1)), (6, .pointer t)]) (fun z_ => bman_Open_s9 k g_1 t) (by kernel_rfl) (fun _ => by kernel_rfl)
  (RefK.seq [(18, .bool)] [3, 6, 7] (fun z_ => [(18, .bool z_.1), (3, .pointer (some g_1)), (6, .pointer t), (7, .int .i64 e)]) (fun z_ => bman_Open_s11 k g_1 t e z_.1) (by kernel_rfl) (fun _ => by kernel_rfl)
  (RefK.plain [] (by kernel_rfl))
  (fun ⟨x18, _⟩ => RefK.cond (b := x18) (t1 := bman_Open_s10 k none e) (t2 := bman_Open_s9 k g_1 t) (by kernel_rfl) (by kernel_rfl) (fun w h => brK_spec w h) (RefK.seq [(4, .ptr), (5, .int .i64)] [] (fun z_ => [(4, .pointer z_.1), (5, .int .i64 z_.2.1)]) (fun z_ => bman_Open_s10 k z_.1 z_.2.1) (by kernel_rfl) (fun _ => by kernel_rfl)
  (RefK.plain [] (by kernel_rfl))
  (fun ⟨x4_3, x5_3, _⟩ => RefK.ret (by kernel_rfl))) (RefK.skip (by kernel_rfl))))
  (fun _ => RefK.seq [] [3, 6] (fun z_ => [(3, .pointer (some g_1)), (6, .pointer t)]) (fun z_ => bman_Open_s5 k g_1 t) (by kernel_rfl) (fun _ => by kernel_rfl)
  (RefK.seq [(9, .bool)] [3, 6] (fun z_ => [(9, .bool z_.1), (3, .pointer (some g_1)), (6, .pointer t)]) (fun z_ => bman_Open_s8 k g_1 t z_.1) (by kernel_rfl) (fun _ => by kernel_rfl)
  (RefK.plain [] (by kernel_rfl))
  (fun ⟨ok, _⟩ => RefK.seq [(27, .bool)] [3, 6] (fun z_ => [(27, .bool z_.1), (3, .pointer (some g_1)), (6, .pointer t)]) (fun z_ => bman_Open_s7 k g_1 t z_.1) (by kernel_rfl) (fun _ => by kernel_rfl)
  (RefK.plain [] (by kernel_rfl))
  (fun ⟨x27, _⟩ => RefK.cond (b := x27) (t1 := bman_Open_s6 k none 40) (t2 := bman_Open_s5 k g_1 t) (by kernel_rfl) (by kernel_rfl) (fun w h => brK_spec w h) (RefK.seq [(4, .ptr), (5, .int .i64)] [] (fun z_ => [(4, .pointer z_.1), (5, .int .i64 z_.2.1)]) (fun z_ => bman_Open_s6 k z_.1 z_.2.1) (by kernel_rfl) (fun _ => by kernel_rfl)
  (RefK.plain [] (by kernel_rfl))
  (fun ⟨x4_2, x5_2, _⟩ => RefK.ret (by kernel_rfl))) (RefK.skip (by kernel_rfl)))))
  (fun _ => RefK.seq [(7, .int .i64), (10, .ptr)] [3, 6] (fun z_ => [(7, .int .i64 z_.1), (10, .pointer z_.2.1), (3, .pointer (some g_1)), (6, .pointer t)]) (fun z_ => bman_Open_s4 k g_1 t z_.1 z_.2.1) (by kernel_rfl) (fun _ => by kernel_rfl)
  (RefK.draw [] [0, 1, 0, 4, 15, 31, 63, 63, 127, 511] [0, 1, 2, 3, 4, 5, 6, 7, 8, 9] [0, 1, 2, 3, 4, 5, 6, 8, 7, 9] (by kernel_rfl) (by kernel_rfl))
  (fun ⟨e_1, x, _⟩ => RefK.seq [] [3, 6, 10] (fun z_ => [(3, .pointer (some g_1)), (6, .pointer t), (10, .pointer x)]) (fun z_ => bman_Open_s1 k g_1 t x) (by kernel_rfl) (fun _ => by kernel_rfl)
  (RefK.seq [(37, .bool)] [3, 6, 7, 10] (fun z_ => [(37, .bool z_.1), (3, .pointer (some g_1)), (6, .pointer t), (7, .int .i64 e_1), (10, .pointer x)]) (fun z_ => bman_Open_s3 k g_1 t e_1 x z_.1) (by kernel_rfl) (fun _ => by kernel_rfl)
  (RefK.plain [] (by kernel_rfl))
  (fun ⟨x37, _⟩ => RefK.cond (b := x37) (t1 := bman_Open_s2 k none e_1) (t2 := bman_Open_s1 k g_1 t x) (by kernel_rfl) (by kernel_rfl) (fun w h => brK_spec w h) (RefK.seq [(4, .ptr), (5, .int .i64)] [] (fun z_ => [(4, .pointer z_.1), (5, .int .i64 z_.2.1)]) (fun z_ => bman_Open_s2 k z_.1 z_.2.1) (by kernel_rfl) (fun _ => by kernel_rfl)
  (RefK.plain [] (by kernel_rfl))
  (fun ⟨x4_1, x5_1, _⟩ => RefK.ret (by kernel_rfl))) (RefK.skip (by kernel_rfl))))
  (fun _ => RefK.seq [(4, .addr), (5, .int .i64)] [] (fun z_ => [(4, .pointer (some z_.1)), (5, .int .i64 z_.2.1)]) (fun z_ => bman_Open_s0 k z_.1 z_.2.1) (by kernel_rfl) (fun _ => by kernel_rfl)
  (RefK.plain [] (by kernel_rfl))
  (fun ⟨x4, x5, _⟩ => RefK.ret (by kernel_rfl))))))))) hyp_
@[reducible] def bitmap_Set_in_s0 (k : (Bool → K)) (x4 : Bool) : K :=
  k x4
@[reducible] def bitmap_Set_in_s1 (s : (Option Addr)) (at_1 : Int) (k : (Bool → K)) : K :=
  brK (decide (at_1 ≥ 0))
  (nn s fun x10 =>
  ldI .i64 (Addr.add x10 1) fun x12 =>
  bitmap_Set_in_s0 k (decide (at_1 < x12)))
  (bitmap_Set_in_s0 k false)
@[reducible] def bitmap_Set_in (s : (Option Addr)) (at_1 : Int) : M Bool := fun k =>
  bitmap_Set_in_s1 s at_1 k
theorem bitmap_Set_in_ok (s : (Option Addr)) (at_1 : Int) (k : Bool → K) (w : World) (hyp_ : bitmap_Set_in s at_1 k w) : c_bitmap_Set_in s at_1 k w :=
  cl_of (P := Tryz.prog) Tryz.func139 rfl (by kernel_rfl)
  (RefK.seq [] [0, 1] (fun z_ => [(0, .pointer s), (1, .int .i64 at_1)]) (fun z_ => bitmap_Set_in_s1 s at_1 k) (by kernel_rfl) (fun _ => by kernel_rfl)
  (RefK.plain [] (by kernel_rfl))
  (fun _ => RefK.seq [(4, .bool)] [] (fun z_ => [(4, .bool z_.1)]) (fun z_ => bitmap_Set_in_s0 k z_.1) (by kernel_rfl) (fun _ => by kernel_rfl)
  (RefK.plain [2] (by kernel_rfl))
  (fun ⟨x4, _⟩ => RefK.ret (by kernel_rfl)))) hyp_
@[reducible] def blocks_Table_Get_s0 (k : ((Int × (Int × Int)) → K)) (x4 : Addr) : K :=
  ldI .i64 (Addr.add x4 0) fun x4_0 =>
  ldI .i64 (Addr.add x4 1) fun x4_1 =>
  ldI .i64 (Addr.add x4 2) fun x4_2 =>
  k (x4_0, (x4_1, x4_2))
@[reducible] def blocks_Table_Get_s1 (t : (Option Addr)) (block : Int) (k : ((Int × (Int × Int)) → K)) (x4 : Addr) : K :=
  nn t fun x18 =>
  ldS (Addr.add x18 2) fun x20 =>
  ixS x20.p x20.n block 3 fun x22 =>
  ldI .i64 (Addr.add x22 0) fun x23_0 =>
  ldI .i64 (Addr.add x22 1) fun x23_1 =>
  ldI .i64 (Addr.add x22 2) fun x23_2 =>
  stK (Addr.add x4 0) (.int .i64 x23_0) <|
  stK (Addr.add x4 1) (.int .i64 x23_1) <|
  stK (Addr.add x4 2) (.int .i64 x23_2) <|
  blocks_Table_Get_s0 k x4
@[reducible] def blocks_Table_Get_s2 (k : ((Int × (Int × Int)) → K)) (x4 : Addr) : K :=
  ldI .i64 (Addr.add x4 0) fun x4_0_1 =>
  ldI .i64 (Addr.add x4 1) fun x4_1_1 =>
  ldI .i64 (Addr.add x4 2) fun x4_2_1 =>
  k (x4_0_1, (x4_1_1, x4_2_1))
@[reducible] def blocks_Table_Get_s3 (k : ((Int × (Int × Int)) → K)) (x4 : Addr) : K :=
  stK (Addr.add x4 0) (.int .i64 0) <|
  stK (Addr.add x4 1) (.int .i64 0) <|
  stK (Addr.add x4 2) (.int .i64 0) <|
  blocks_Table_Get_s2 k x4
@[reducible] def blocks_Table_Get_s4 (t : (Option Addr)) (block : Int) (k : ((Int × (Int × Int)) → K)) (x4 : Addr) (x15 : Bool) : K :=
  brK x15
  (blocks_Table_Get_s3 k x4)
  (blocks_Table_Get_s1 t block k x4)
@[reducible] def blocks_Table_Get_s5 (t : (Option Addr)) (block : Int) (k : ((Int × (Int × Int)) → K)) (x4 : Addr) : K :=
  brK (decide (block < 1))
  (blocks_Table_Get_s4 t block k x4 true)
  (nn t fun x10 =>
  ldS (Addr.add x10 2) fun x12 =>
  blocks_Table_Get_s4 t block k x4 (decide (block ≥ ((x12.n : Nat) : Int))))
@[reducible] def blocks_Table_Get (t : (Option Addr)) (block : Int) : M (Int × (Int × Int)) := fun k =>
  alK (.cells #[.int .i64 0, .int .i64 0, .int .i64 0] 143) fun b =>
  blocks_Table_Get_s5 t block k ⟨b, 0, none⟩
theorem blocks_Table_Get_ok (t : (Option Addr)) (block : Int) (k : (Int × (Int × Int)) → K) (w : World) (hyp_ : blocks_Table_Get t block k w) : c_blocks_Table_Get t block k w :=
  cl_of (P := Tryz.prog) Tryz.func141 rfl (by kernel_rfl)
  (RefK.seq [(4, .addr)] [0, 1] (fun z_ => [(4, .pointer (some z_.1)), (0, .pointer t), (1, .int .i64 block)]) (fun z_ => blocks_Table_Get_s5 t block k z_.1) (by kernel_rfl) (fun _ => by kernel_rfl)
  (RefK.plain [] (by kernel_rfl))
  (fun ⟨x4, _⟩ => RefK.seq [] [0, 1, 4] (fun z_ => [(0, .pointer t), (1, .int .i64 block), (4, .pointer (some x4))]) (fun z_ => blocks_Table_Get_s1 t block k x4) (by kernel_rfl) (fun _ => by kernel_rfl)
  (RefK.seq [(15, .bool)] [0, 1, 4] (fun z_ => [(15, .bool z_.1), (0, .pointer t), (1, .int .i64 block), (4, .pointer (some x4))]) (fun z_ => blocks_Table_Get_s4 t block k x4 z_.1) (by kernel_rfl) (fun _ => by kernel_rfl)
  (RefK.plain [2] (by kernel_rfl))
  (fun ⟨x15, _⟩ => RefK.cond (b := x15) (t1 := blocks_Table_Get_s3 k x4) (t2 := blocks_Table_Get_s1 t block k x4) (by kernel_rfl) (by kernel_rfl) (fun w h => brK_spec w h) (RefK.seq [] [4] (fun z_ => [(4, .pointer (some x4))]) (fun z_ => blocks_Table_Get_s2 k x4) (by kernel_rfl) (fun _ => by kernel_rfl)
  (RefK.plain [] (by kernel_rfl))
  (fun _ => RefK.ret (by kernel_rfl))) (RefK.skip (by kernel_rfl))))
  (fun _ => RefK.seq [] [4] (fun z_ => [(4, .pointer (some x4))]) (fun z_ => blocks_Table_Get_s0 k x4) (by kernel_rfl) (fun _ => by kernel_rfl)
  (RefK.plain [] (by kernel_rfl))
  (fun _ => RefK.ret (by kernel_rfl))))) hyp_
@[reducible] def blocks_Table_Put_s0 (k : (Int → K)) (x6 : Int) : K :=
  k x6
@[reducible] def blocks_Table_Put_s1 (x0 : (Option Addr)) (x1 : Int) (x2 : Sl) (k : (Int → K)) : K :=
  tick fun _ =>
  nn x0 fun x87 =>
  ldP (Addr.add x87 0) fun x89 =>
  nn x0 fun x91 =>
  ldI .i64 (Addr.add (Addr.add x91 1) 0) fun x93_0 =>
  c_geom_Geometry_Header x93_0 x1 fun x95 =>
  chk [.cell (Addr.add x87 0) (.pointer x89)] fun _ =>
  c_nvm_Device_Persist x89 x95 ((x2.n : Nat) : Int) fun x98 =>
  blocks_Table_Put_s0 k x98
@[reducible] def blocks_Table_Put_s2 (x0 : (Option Addr)) (x1 : Int) (x50_1 : Int) (c : ((Int × Unit) → K)) (x9 : Int) (x10 : Addr) : K :=
  tick fun _ =>
  nn x0 fun x77 =>
  ldS (Addr.add x77 2) fun x79 =>
  ldI .i64 (Addr.add x10 0) fun x83_0 =>
  ldI .i64 (Addr.add x10 1) fun x83_1 =>
  ldI .i64 (Addr.add x10 2) fun x83_2 =>
  ixS x79.p x79.n (IntKind.wrap .i64 (x1 + x9)) 3 fun x84 =>
  stK (Addr.add x84 0) (.int .i64 x83_0) <|
  stK (Addr.add x84 1) (.int .i64 x83_1) <|
  stK (Addr.add x84 2) (.int .i64 x83_2) <|
  c ((IntKind.wrap .i64 (x50_1 + 1)), ())
@[reducible] def blocks_Table_Put_s3 (k : (Int → K)) (x6_1 : Int) : K :=
  k x6_1
@[reducible] def blocks_Table_Put_s4 (x0 : (Option Addr)) (x1 : Int) (k : (Int → K)) (x50_1 : Int) (c : ((Int × Unit) → K)) (x9 : Int) (x10 : Addr) (x11 : Int) (x74 : Bool) : K :=
  brK x74
  (blocks_Table_Put_s3 k x11)
  (blocks_Table_Put_s2 x0 x1 x50_1 c x9 x10)
@[reducible] def blocks_Table_Put_s5 (x0 : (Option Addr)) (x1 : Int) (k : (Int → K)) (x50_1 : Int) (c : ((Int × Unit) → K)) (x9 : Int) (x10 : Addr) (x11 : Int) : K :=
  blocks_Table_Put_s4 x0 x1 k x50_1 c x9 x10 x11 (x11 != 0)
@[reducible] def blocks_Table_Put_s6 (x0 : (Option Addr)) (x1 : Int) (k : (Int → K)) (x50_1 : Int) (c : ((Int × Unit) → K)) (x9 : Int) (x10 : Addr) : K :=
  tick fun _ =>
  nn x0 fun x56 =>
  ldP (Addr.add x56 0) fun x58 =>
  nn x0 fun x60 =>
  ldI .i64 (Addr.add (Addr.add x60 1) 0) fun x62_0 =>
  ldI .i64 (Addr.add x10 0) fun x70_0 =>
  ldI .i64 (Addr.add x10 1) fun x70_1 =>
  ldI .i64 (Addr.add x10 2) fun x70_2 =>
  c_geom_Geometry_Header x62_0 (IntKind.wrap .i64 (x1 + x9)) fun x66 =>
  chk [.cell (Addr.add x10 0) (.int .i64 x70_0), .cell (Addr.add x10 1) (.int .i64 x70_1), .cell (Addr.add x10 2) (.int .i64 x70_2), .cell (Addr.add x56 0) (.pointer x58)] fun _ =>
  c_bhead_Encode (IntKind.wrap .i64 (x1 + x9)) (x70_0, (x70_1, x70_2)) fun x71 =>
  chk [.cell (Addr.add x56 0) (.pointer x58)] fun _ =>
  c_nvm_Device_Store x58 x66 x71 fun x72 =>
  blocks_Table_Put_s5 x0 x1 k x50_1 c x9 x10 x72
@[reducible] def blocks_Table_Put_s7 (x0 : (Option Addr)) (x1 : Int) (k : (Int → K)) (x48 : Sl) (x50_1 : Int) (c : ((Int × Unit) → K)) : K :=
  ixS x48.p x48.n x50_1 3 fun x53 =>
  ldI .i64 (Addr.add x53 0) fun x54_0 =>
  ldI .i64 (Addr.add x53 1) fun x54_1 =>
  ldI .i64 (Addr.add x53 2) fun x54_2 =>
  alK (.cells #[.int .i64 0, .int .i64 0, .int .i64 0] 143) fun b =>
  stK (Addr.add ⟨b, 0, none⟩ 0) (.int .i64 x54_0) <|
  stK (Addr.add ⟨b, 0, none⟩ 1) (.int .i64 x54_1) <|
  stK (Addr.add ⟨b, 0, none⟩ 2) (.int .i64 x54_2) <|
  blocks_Table_Put_s6 x0 x1 k x50_1 c x50_1 ⟨b, 0, none⟩
@[reducible] def blocks_Table_Put_s8 (x0 : (Option Addr)) (x1 : Int) (x2 : Sl) (k : (Int → K)) (x48 : Sl) (x50_1 : Int) (c : ((Int × Unit) → K)) (x51 : Bool) : K :=
  brK x51
  (blocks_Table_Put_s7 x0 x1 k x48 x50_1 c)
  (blocks_Table_Put_s1 x0 x1 x2 k)
@[reducible] def blocks_Table_Put_l9 (x0 : (Option Addr)) (x1 : Int) (x2 : Sl) (k : (Int → K)) (x48 : Sl) (x49 : Int) (x50_1 : Int) (c : ((Int × Unit) → K)) : K :=
  blocks_Table_Put_s8 x0 x1 x2 k x48 x50_1 c (decide (x50_1 < x49))
@[reducible] def blocks_Table_Put_s10 (x0 : (Option Addr)) (x1 : Int) (x2 : Sl) (k : (Int → K)) (x48 : Sl) (x49 : Int) (x50 : Int) : K :=
  lp (fun (z_ : (Int × Unit)) c_ => blocks_Table_Put_l9 x0 x1 x2 k x48 x49 z_.1 c_) (x50, ())
@[reducible] def blocks_Table_Put_s11 (k : (Int → K)) (x6_2 : Int) : K :=
  k x6_2
@[reducible] def blocks_Table_Put_s12 (x0 : (Option Addr)) (x1 : Int) (x2 : Sl) (k : (Int → K)) (x47 : Bool) : K :=
  brK x47
  (blocks_Table_Put_s11 k 0)
  (blocks_Table_Put_s10 x0 x1 x2 k x2 ((x2.n : Nat) : Int) 0)
@[reducible] def blocks_Table_Put_s13 (k : (Int → K)) (x6_3 : Int) : K :=
  k x6_3
@[reducible] def blocks_Table_Put_s14 (k : (Int → K)) (x37_1 : Int) (c_1 : ((Int × Unit) → K)) (x43 : Bool) : K :=
  brK x43
  (blocks_Table_Put_s13 k 1)
  (c_1 ((IntKind.wrap .i64 (x37_1 + 1)), ()))
@[reducible] def blocks_Table_Put_s15 (k : (Int → K)) (x37_1 : Int) (c_1 : ((Int × Unit) → K)) (x8 : Addr) : K :=
  ldI .i64 (Addr.add x8 0) fun x41_0 =>
  ldI .i64 (Addr.add x8 1) fun x41_1 =>
  ldI .i64 (Addr.add x8 2) fun x41_2 =>
  c_bhead_Header_Right (x41_0, (x41_1, x41_2)) fun x42 =>
  blocks_Table_Put_s14 k x37_1 c_1 (!x42)
@[reducible] def blocks_Table_Put_s16 (k : (Int → K)) (x35 : Sl) (x37_1 : Int) (c_1 : ((Int × Unit) → K)) : K :=
  ixS x35.p x35.n x37_1 3 fun x39 =>
  ldI .i64 (Addr.add x39 0) fun x40_0 =>
  ldI .i64 (Addr.add x39 1) fun x40_1 =>
  ldI .i64 (Addr.add x39 2) fun x40_2 =>
  alK (.cells #[.int .i64 0, .int .i64 0, .int .i64 0] 143) fun b_1 =>
  stK (Addr.add ⟨b_1, 0, none⟩ 0) (.int .i64 x40_0) <|
  stK (Addr.add ⟨b_1, 0, none⟩ 1) (.int .i64 x40_1) <|
  stK (Addr.add ⟨b_1, 0, none⟩ 2) (.int .i64 x40_2) <|
  blocks_Table_Put_s15 k x37_1 c_1 ⟨b_1, 0, none⟩
@[reducible] def blocks_Table_Put_s17 (x0 : (Option Addr)) (x1 : Int) (x2 : Sl) (k : (Int → K)) (x35 : Sl) (x37_1 : Int) (c_1 : ((Int × Unit) → K)) (x38 : Bool) : K :=
  brK x38
  (blocks_Table_Put_s16 k x35 x37_1 c_1)
  (blocks_Table_Put_s12 x0 x1 x2 k (((x2.n : Nat) : Int) == 0))
@[reducible] def blocks_Table_Put_l18 (x0 : (Option Addr)) (x1 : Int) (x2 : Sl) (k : (Int → K)) (x35 : Sl) (x36 : Int) (x37_1 : Int) (c_1 : ((Int × Unit) → K)) : K :=
  blocks_Table_Put_s17 x0 x1 x2 k x35 x37_1 c_1 (decide (x37_1 < x36))
@[reducible] def blocks_Table_Put_s19 (x0 : (Option Addr)) (x1 : Int) (x2 : Sl) (k : (Int → K)) (x35 : Sl) (x36 : Int) (x37 : Int) : K :=
  lp (fun (z_ : (Int × Unit)) c_ => blocks_Table_Put_l18 x0 x1 x2 k x35 x36 z_.1 c_) (x37, ())
@[reducible] def blocks_Table_Put_s20 (k : (Int → K)) (x6_4 : Int) : K :=
  k x6_4
@[reducible] def blocks_Table_Put_s21 (x0 : (Option Addr)) (x1 : Int) (x2 : Sl) (k : (Int → K)) (x34 : Bool) : K :=
  brK x34
  (blocks_Table_Put_s20 k 1)
  (blocks_Table_Put_s19 x0 x1 x2 k x2 ((x2.n : Nat) : Int) 0)
@[reducible] def blocks_Table_Put_s22 (x0 : (Option Addr)) (x1 : Int) (x2 : Sl) (k : (Int → K)) : K :=
  brK (decide (x1 < 1))
  (blocks_Table_Put_s21 x0 x1 x2 k true)
  (nn x0 fun x17 =>
  ldS (Addr.add x17 2) fun x19 =>
  brK (decide (x1 > ((x19.n : Nat) : Int)))
  (blocks_Table_Put_s21 x0 x1 x2 k true)
  (nn x0 fun x27 =>
  ldS (Addr.add x27 2) fun x29 =>
  blocks_Table_Put_s21 x0 x1 x2 k (decide (((x2.n : Nat) : Int) > (IntKind.wrap .i64 (((x29.n : Nat) : Int) - x1))))))
@[reducible] def blocks_Table_Put (x0 : (Option Addr)) (x1 : Int) (x2 : Sl) : M Int := fun k =>
  blocks_Table_Put_s22 x0 x1 x2 k
theorem blocks_Table_Put_ok (x0 : (Option Addr)) (x1 : Int) (x2 : Sl) (k : Int → K) (w : World) (hyp_ : blocks_Table_Put x0 x1 x2 k w) : c_blocks_Table_Put x0 x1 x2 k w :=
  cl_of (P := Tryz.prog) Tryz.func142 rfl (by kernel_rfl)
  (RefK.seq [] [0, 1, 2] (fun z_ => [(0, .pointer x0), (1, .int .i64 x1), (2, x2.v)]) (fun z_ => blocks_Table_Put_s22 x0 x1 x2 k) (by kernel_rfl) (fun _ => by kernel_rfl)
  (RefK.plain [] (by kernel_rfl))
  (fun _ => RefK.seq [] [0, 1, 2] (fun z_ => [(0, .pointer x0), (1, .int .i64 x1), (2, x2.v)]) (fun z_ => blocks_Table_Put_s19 x0 x1 x2 k x2 ((x2.n : Nat) : Int) 0) (by kernel_rfl) (fun _ => by kernel_rfl)
  (RefK.seq [(34, .bool)] [0, 1, 2] (fun z_ => [(34, .bool z_.1), (0, .pointer x0), (1, .int .i64 x1), (2, x2.v)]) (fun z_ => blocks_Table_Put_s21 x0 x1 x2 k z_.1) (by kernel_rfl) (fun _ => by kernel_rfl)
  (RefK.plain [2, 11] (by kernel_rfl))
  (fun ⟨x34, _⟩ => RefK.cond (b := x34) (t1 := blocks_Table_Put_s20 k 1) (t2 := blocks_Table_Put_s19 x0 x1 x2 k x2 ((x2.n : Nat) : Int) 0) (by kernel_rfl) (by kernel_rfl) (fun w h => brK_spec w h) (RefK.seq [(6, .int .i64)] [] (fun z_ => [(6, .int .i64 z_.1)]) (fun z_ => blocks_Table_Put_s20 k z_.1) (by kernel_rfl) (fun _ => by kernel_rfl)
  (RefK.plain [] (by kernel_rfl))
  (fun ⟨x6_4, _⟩ => RefK.ret (by kernel_rfl))) (RefK.skip (by kernel_rfl))))
  (fun _ => RefK.seq [] [0, 1, 2] (fun z_ => [(0, .pointer x0), (1, .int .i64 x1), (2, x2.v)]) (fun z_ => blocks_Table_Put_s12 x0 x1 x2 k (((x2.n : Nat) : Int) == 0)) (by kernel_rfl) (fun _ => by kernel_rfl)
  (RefK.seq [(35, .slice), (36, .int .i64), (37, .int .i64)] [0, 1, 2] (fun z_ => [(35, z_.1.v), (36, .int .i64 z_.2.1), (37, .int .i64 z_.2.2.1), (0, .pointer x0), (1, .int .i64 x1), (2, x2.v)]) (fun z_ => blocks_Table_Put_s19 x0 x1 x2 k z_.1 z_.2.1 z_.2.2.1) (by kernel_rfl) (fun _ => by kernel_rfl)
  (RefK.plain [] (by kernel_rfl))
  (fun ⟨x35, x36, x37, _⟩ => RefK.block (RefK.loop [(37, .int .i64)] [0, 1, 2, 35, 36] (fun z_ => [(37, .int .i64 z_.1), (0, .pointer x0), (1, .int .i64 x1), (2, x2.v), (35, x35.v), (36, .int .i64 x36)]) (fun (z_ : (Int × Unit)) c_ => blocks_Table_Put_l18 x0 x1 x2 k x35 x36 z_.1 c_) (x37, ()) (by kernel_rfl) (fun _ => by kernel_rfl) (by kernel_rfl) (by kernel_rfl)
  (fun ⟨x37_1, _⟩ c_1 => RefK.seq [(38, .bool)] [0, 1, 2, 35, 36, 37] (fun z_ => [(38, .bool z_.1), (0, .pointer x0), (1, .int .i64 x1), (2, x2.v), (35, x35.v), (36, .int .i64 x36), (37, .int .i64 x37_1)]) (fun z_ => blocks_Table_Put_s17 x0 x1 x2 k x35 x37_1 c_1 z_.1) (by kernel_rfl) (fun _ => by kernel_rfl)
  (RefK.plain [] (by kernel_rfl))
  (fun ⟨x38, _⟩ => RefK.seq [] [0, 1, 2, 35, 36, 37] (fun z_ => [(0, .pointer x0), (1, .int .i64 x1), (2, x2.v), (35, x35.v), (36, .int .i64 x36), (37, .int .i64 x37_1)]) (fun z_ => blocks_Table_Put_s16 k x35 x37_1 c_1) (by kernel_rfl) (fun _ => by kernel_rfl)
  (RefK.cond (b := x38) (t1 := blocks_Table_Put_s16 k x35 x37_1 c_1) (t2 := blocks_Table_Put_s12 x0 x1 x2 k (((x2.n : Nat) : Int) == 0)) (by kernel_rfl) (by kernel_rfl) (fun w h => brK_spec w h) (RefK.skip (by kernel_rfl)) (RefK.exit (by kernel_rfl)))
  (fun _ => RefK.seq [] [0, 1, 2, 35, 36, 37] (fun z_ => [(0, .pointer x0), (1, .int .i64 x1), (2, x2.v), (35, x35.v), (36, .int .i64 x36), (37, .int .i64 x37_1)]) (fun z_ => c_1 ((IntKind.wrap .i64 (x37_1 + 1)), ())) (by kernel_rfl) (fun _ => by kernel_rfl)
  (RefK.block (RefK.seq [(8, .addr)] [0, 1, 2, 35, 36, 37] (fun z_ => [(8, .pointer (some z_.1)), (0, .pointer x0), (1, .int .i64 x1), (2, x2.v), (35, x35.v), (36, .int .i64 x36), (37, .int .i64 x37_1)]) (fun z_ => blocks_Table_Put_s15 k x37_1 c_1 z_.1) (by kernel_rfl) (fun _ => by kernel_rfl)
  (RefK.plain [] (by kernel_rfl))
  (fun ⟨x8, _⟩ => RefK.seq [(43, .bool)] [0, 1, 2, 35, 36, 37] (fun z_ => [(43, .bool z_.1), (0, .pointer x0), (1, .int .i64 x1), (2, x2.v), (35, x35.v), (36, .int .i64 x36), (37, .int .i64 x37_1)]) (fun z_ => blocks_Table_Put_s14 k x37_1 c_1 z_.1) (by kernel_rfl) (fun _ => by kernel_rfl)
  (RefK.plain [] (by kernel_rfl))
  (fun ⟨x43, _⟩ => RefK.cond (b := x43) (t1 := blocks_Table_Put_s13 k 1) (t2 := c_1 ((IntKind.wrap .i64 (x37_1 + 1)), ())) (by kernel_rfl) (by kernel_rfl) (fun w h => brK_spec w h) (RefK.seq [(6, .int .i64)] [] (fun z_ => [(6, .int .i64 z_.1)]) (fun z_ => blocks_Table_Put_s13 k z_.1) (by kernel_rfl) (fun _ => by kernel_rfl)
  (RefK.plain [] (by kernel_rfl))
  (fun ⟨x6_3, _⟩ => RefK.ret (by kernel_rfl))) (RefK.skip (by kernel_rfl))))))
  (fun _ => RefK.plain [] (by kernel_rfl))))))))
  (fun _ => RefK.seq [] [0, 1, 2] (fun z_ => [(0, .pointer x0), (1, .int .i64 x1), (2, x2.v)]) (fun z_ => blocks_Table_Put_s10 x0 x1 x2 k x2 ((x2.n : Nat) : Int) 0) (by kernel_rfl) (fun _ => by kernel_rfl)
  (RefK.seq [(47, .bool)] [0, 1, 2] (fun z_ => [(47, .bool z_.1), (0, .pointer x0), (1, .int .i64 x1), (2, x2.v)]) (fun z_ => blocks_Table_Put_s12 x0 x1 x2 k z_.1) (by kernel_rfl) (fun _ => by kernel_rfl)
  (RefK.plain [] (by kernel_rfl))
  (fun ⟨x47, _⟩ => RefK.cond (b := x47) (t1 := blocks_Table_Put_s11 k 0) (t2 := blocks_Table_Put_s10 x0 x1 x2 k x2 ((x2.n : Nat) : Int) 0) (by kernel_rfl) (by kernel_rfl) (fun w h => brK_spec w h) (RefK.seq [(6, .int .i64)] [] (fun z_ => [(6, .int .i64 z_.1)]) (fun z_ => blocks_Table_Put_s11 k z_.1) (by kernel_rfl) (fun _ => by kernel_rfl)
  (RefK.plain [] (by kernel_rfl))
  (fun ⟨x6_2, _⟩ => RefK.ret (by kernel_rfl))) (RefK.skip (by kernel_rfl))))
  (fun _ => RefK.seq [] [0, 1, 2] (fun z_ => [(0, .pointer x0), (1, .int .i64 x1), (2, x2.v)]) (fun z_ => blocks_Table_Put_s1 x0 x1 x2 k) (by kernel_rfl) (fun _ => by kernel_rfl)
  (RefK.seq [(48, .slice), (49, .int .i64), (50, .int .i64)] [0, 1, 2] (fun z_ => [(48, z_.1.v), (49, .int .i64 z_.2.1), (50, .int .i64 z_.2.2.1), (0, .pointer x0), (1, .int .i64 x1), (2, x2.v)]) (fun z_ => blocks_Table_Put_s10 x0 x1 x2 k z_.1 z_.2.1 z_.2.2.1) (by kernel_rfl) (fun _ => by kernel_rfl)
  (RefK.plain [] (by kernel_rfl))
  (fun ⟨x48, x49, x50, _⟩ => RefK.block (RefK.loop [(50, .int .i64)] [0, 1, 2, 48, 49] (fun z_ => [(50, .int .i64 z_.1), (0, .pointer x0), (1, .int .i64 x1), (2, x2.v), (48, x48.v), (49, .int .i64 x49)]) (fun (z_ : (Int × Unit)) c_ => blocks_Table_Put_l9 x0 x1 x2 k x48 x49 z_.1 c_) (x50, ()) (by kernel_rfl) (fun _ => by kernel_rfl) (by kernel_rfl) (by kernel_rfl)
  (fun ⟨x50_1, _⟩ c => RefK.seq [(51, .bool)] [0, 1, 2, 48, 49, 50] (fun z_ => [(51, .bool z_.1), (0, .pointer x0), (1, .int .i64 x1), (2, x2.v), (48, x48.v), (49, .int .i64 x49), (50, .int .i64 x50_1)]) (fun z_ => blocks_Table_Put_s8 x0 x1 x2 k x48 x50_1 c z_.1) (by kernel_rfl) (fun _ => by kernel_rfl)
  (RefK.plain [] (by kernel_rfl))
  (fun ⟨x51, _⟩ => RefK.seq [] [0, 1, 2, 48, 49, 50] (fun z_ => [(0, .pointer x0), (1, .int .i64 x1), (2, x2.v), (48, x48.v), (49, .int .i64 x49), (50, .int .i64 x50_1)]) (fun z_ => blocks_Table_Put_s7 x0 x1 k x48 x50_1 c) (by kernel_rfl) (fun _ => by kernel_rfl)
  (RefK.cond (b := x51) (t1 := blocks_Table_Put_s7 x0 x1 k x48 x50_1 c) (t2 := blocks_Table_Put_s1 x0 x1 x2 k) (by kernel_rfl) (by kernel_rfl) (fun w h => brK_spec w h) (RefK.skip (by kernel_rfl)) (RefK.exit (by kernel_rfl)))
  (fun _ => RefK.seq [] [0, 1, 2, 48, 49, 50] (fun z_ => [(0, .pointer x0), (1, .int .i64 x1), (2, x2.v), (48, x48.v), (49, .int .i64 x49), (50, .int .i64 x50_1)]) (fun z_ => c ((IntKind.wrap .i64 (x50_1 + 1)), ())) (by kernel_rfl) (fun _ => by kernel_rfl)
  (RefK.block (RefK.seq [(9, .int .i64), (10, .addr)] [0, 1, 2, 48, 49, 50] (fun z_ => [(9, .int .i64 z_.1), (10, .pointer (some z_.2.1)), (0, .pointer x0), (1, .int .i64 x1), (2, x2.v), (48, x48.v), (49, .int .i64 x49), (50, .int .i64 x50_1)]) (fun z_ => blocks_Table_Put_s6 x0 x1 k x50_1 c z_.1 z_.2.1) (by kernel_rfl) (fun _ => by kernel_rfl)
  (RefK.plain [] (by kernel_rfl))
  (fun ⟨x9, x10, _⟩ => RefK.seq [] [0, 1, 2, 9, 10, 48, 49, 50] (fun z_ => [(0, .pointer x0), (1, .int .i64 x1), (2, x2.v), (9, .int .i64 x9), (10, .pointer (some x10)), (48, x48.v), (49, .int .i64 x49), (50, .int .i64 x50_1)]) (fun z_ => blocks_Table_Put_s2 x0 x1 x50_1 c x9 x10) (by kernel_rfl) (fun _ => by kernel_rfl)
  (RefK.seq [(11, .int .i64)] [0, 1, 2, 9, 10, 48, 49, 50] (fun z_ => [(11, .int .i64 z_.1), (0, .pointer x0), (1, .int .i64 x1), (2, x2.v), (9, .int .i64 x9), (10, .pointer (some x10)), (48, x48.v), (49, .int .i64 x49), (50, .int .i64 x50_1)]) (fun z_ => blocks_Table_Put_s5 x0 x1 k x50_1 c x9 x10 z_.1) (by kernel_rfl) (fun _ => by kernel_rfl)
  (RefK.draw [] [0, 1, 3, 7, 0, 16, 48, 112, 0, 0, 768, 2032, 0, 0, 12288, 0, 65520, 131071, 262143] [0, 1, 2, 3, 4, 5, 6, 7, 8, 9, 10, 12, 13, 14, 15, 11, 16, 17, 18] [0, 1, 2, 3, 4, 5, 6, 7, 8, 9, 10, 11, 12, 13, 14, 15, 16, 17, 18] (by kernel_rfl) (by kernel_rfl))
  (fun ⟨x11, _⟩ => RefK.seq [(74, .bool)] [0, 1, 2, 9, 10, 11, 48, 49, 50] (fun z_ => [(74, .bool z_.1), (0, .pointer x0), (1, .int .i64 x1), (2, x2.v), (9, .int .i64 x9), (10, .pointer (some x10)), (11, .int .i64 x11), (48, x48.v), (49, .int .i64 x49), (50, .int .i64 x50_1)]) (fun z_ => blocks_Table_Put_s4 x0 x1 k x50_1 c x9 x10 x11 z_.1) (by kernel_rfl) (fun _ => by kernel_rfl)
  (RefK.plain [] (by kernel_rfl))
  (fun ⟨x74, _⟩ => RefK.cond (b := x74) (t1 := blocks_Table_Put_s3 k x11) (t2 := blocks_Table_Put_s2 x0 x1 x50_1 c x9 x10) (by kernel_rfl) (by kernel_rfl) (fun w h => brK_spec w h) (RefK.seq [(6, .int .i64)] [] (fun z_ => [(6, .int .i64 z_.1)]) (fun z_ => blocks_Table_Put_s3 k z_.1) (by kernel_rfl) (fun _ => by kernel_rfl)
  (RefK.plain [] (by kernel_rfl))
  (fun ⟨x6_1, _⟩ => RefK.ret (by kernel_rfl))) (RefK.skip (by kernel_rfl)))))
  (fun _ => RefK.draw [] [0, 1, 3, 7, 0, 0, 48, 0, 255, 511] [0, 1, 2, 3, 4, 5, 6, 7, 8, 9] [0, 1, 2, 3, 4, 5, 6, 7, 8, 9] (by kernel_rfl) (by kernel_rfl)))))
  (fun _ => RefK.plain [] (by kernel_rfl))))))))
  (fun _ => RefK.seq [(6, .int .i64)] [] (fun z_ => [(6, .int .i64 z_.1)]) (fun z_ => blocks_Table_Put_s0 k z_.1) (by kernel_rfl) (fun _ => by kernel_rfl)
  (RefK.draw [] [0, 1, 3, 7, 0, 16, 48, 112, 0, 496, 0, 1024, 4095, 8191] [0, 1, 2, 3, 4, 5, 6, 7, 8, 10, 11, 9, 12, 13] [0, 1, 2, 3, 4, 5, 6, 7, 8, 9, 10, 11, 12, 13] (by kernel_rfl) (by kernel_rfl))
  (fun ⟨x6, _⟩ => RefK.ret (by kernel_rfl)))))))) hyp_
@[reducible] def runs_Index_Give_s0 (k : (Int → K)) (x6 : Int) : K :=
  k x6
@[reducible] def runs_Index_Give_s1 (x0 : (Option Addr)) (k : (Int → K)) (x1_1 : Int) (x2_2 : Int) : K :=
  c_runs_Index_add x0 x1_1 x2_2 fun x94 =>
  runs_Index_Give_s0 k 0
@[reducible] def runs_Index_Give_s2 (x0 : (Option Addr)) (k : (Int → K)) (x1_1 : Int) (x2_1 : Int) (x11 : Int) : K :=
  c_runs_Index_drop x0 (IntKind.wrap .i64 (x1_1 + x2_1)) fun x87 =>
  runs_Index_Give_s1 x0 k x1_1 (IntKind.wrap .i64 (x2_1 + x11))
@[reducible] def runs_Index_Give_s3 (x0 : (Option Addr)) (k : (Int → K)) (x1_1 : Int) (x2_1 : Int) (x11 : Int) (x82 : Bool) : K :=
  brK x82
  (runs_Index_Give_s2 x0 k x1_1 x2_1 x11)
  (runs_Index_Give_s1 x0 k x1_1 x2_1)
@[reducible] def runs_Index_Give_s4 (x0 : (Option Addr)) (k : (Int → K)) (x1_1 : Int) (x2_1 : Int) (x11 : Int) (x12 : Bool) : K :=
  runs_Index_Give_s3 x0 k x1_1 x2_1 x11 x12
@[reducible] def runs_Index_Give_s5 (x0 : (Option Addr)) (k : (Int → K)) (x1_1 : Int) (x2_1 : Int) : K :=
  nn x0 fun x73 =>
  ldM (Addr.add x73 0) fun x75 =>
  lkE Tryz.prog 3 (.int .i64 0) (.sc (.int .i64)) x75 (.int .i64 (IntKind.wrap .i64 (x1_1 + x2_1))) fun r ob x79 ok =>
  runs_Index_Give_s4 x0 k x1_1 x2_1 x79 ok
@[reducible] def runs_Index_Give_s6 (x0 : (Option Addr)) (x2 : Int) (k : (Int → K)) (x8 : Int) (x10 : Int) : K :=
  c_runs_Index_drop x0 x8 fun x66 =>
  runs_Index_Give_s5 x0 k x8 (IntKind.wrap .i64 (x2 + x10))
@[reducible] def runs_Index_Give_s7 (x0 : (Option Addr)) (x2 : Int) (k : (Int → K)) (x8 : Int) : K :=
  nn x0 fun x59 =>
  ldM (Addr.add x59 0) fun x61 =>
  lkE Tryz.prog 3 (.int .i64 0) (.sc (.int .i64)) x61 (.int .i64 x8) fun r_1 ob_1 x63 ok_1 =>
  runs_Index_Give_s6 x0 x2 k x8 x63
@[reducible] def runs_Index_Give_s8 (x0 : (Option Addr)) (x1 : Int) (x2 : Int) (k : (Int → K)) (x8 : Int) (x57 : Bool) : K :=
  brK x57
  (runs_Index_Give_s7 x0 x2 k x8)
  (runs_Index_Give_s5 x0 k x1 x2)
@[reducible] def runs_Index_Give_s9 (x0 : (Option Addr)) (x1 : Int) (x2 : Int) (k : (Int → K)) (x8 : Int) (x9 : Bool) : K :=
  runs_Index_Give_s8 x0 x1 x2 k x8 x9
@[reducible] def runs_Index_Give_s10 (x0 : (Option Addr)) (x1 : Int) (x2 : Int) (k : (Int → K)) : K :=
  nn x0 fun x50 =>
  ldM (Addr.add x50 1) fun x52 =>
  lkE Tryz.prog 3 (.int .i64 0) (.sc (.int .i64)) x52 (.int .i64 x1) fun r_2 ob_2 x54 ok_2 =>
  runs_Index_Give_s9 x0 x1 x2 k x54 ok_2
@[reducible] def runs_Index_Give_s11 (k : (Int → K)) (x6_1 : Int) : K :=
  k x6_1
@[reducible] def runs_Index_Give_s12 (k : (Int → K)) (x7_1 : Int) (c : ((Int × Unit) → K)) (x47 : Bool) : K :=
  brK x47
  (runs_Index_Give_s11 k 41)
  (c ((IntKind.wrap .i64 (x7_1 + 1)), ()))
@[reducible] def runs_Index_Give_s13 (x0 : (Option Addr)) (k : (Int → K)) (x7_1 : Int) (c : ((Int × Unit) → K)) : K :=
  c_runs_Index_Has x0 x7_1 fun x47_1 =>
  runs_Index_Give_s12 k x7_1 c x47_1
@[reducible] def runs_Index_Give_s14 (x0 : (Option Addr)) (x1 : Int) (x2 : Int) (k : (Int → K)) (x7_1 : Int) (c : ((Int × Unit) → K)) (x42 : Bool) : K :=
  brK x42
  (runs_Index_Give_s13 x0 k x7_1 c)
  (runs_Index_Give_s10 x0 x1 x2 k)
@[reducible] def runs_Index_Give_l15 (x0 : (Option Addr)) (x1 : Int) (x2 : Int) (k : (Int → K)) (x7_1 : Int) (c : ((Int × Unit) → K)) : K :=
  runs_Index_Give_s14 x0 x1 x2 k x7_1 c (decide (x7_1 < (IntKind.wrap .i64 (x1 + x2))))
@[reducible] def runs_Index_Give_s16 (x0 : (Option Addr)) (x1 : Int) (x2 : Int) (k : (Int → K)) (x7 : Int) : K :=
  lp (fun (z_ : (Int × Unit)) c_ => runs_Index_Give_l15 x0 x1 x2 k z_.1 c_) (x7, ())
@[reducible] def runs_Index_Give_s17 (k : (Int → K)) (x6_2 : Int) : K :=
  k x6_2
@[reducible] def runs_Index_Give_s18 (x0 : (Option Addr)) (x1 : Int) (x2 : Int) (k : (Int → K)) (x36 : Bool) : K :=
  brK x36
  (runs_Index_Give_s17 k 1)
  (runs_Index_Give_s16 x0 x1 x2 k x1)
@[reducible] def runs_Index_Give_s19 (x0 : (Option Addr)) (x1 : Int) (x2 : Int) (k : (Int → K)) : K :=
  brK (decide (x1 < 1))
  (runs_Index_Give_s18 x0 x1 x2 k true)
  (brK (decide (x2 < 1))
  (runs_Index_Give_s18 x0 x1 x2 k true)
  (nn x0 fun x22 =>
  ldI .i64 (Addr.add x22 2) fun x24 =>
  brK (decide (x1 ≥ x24))
  (runs_Index_Give_s18 x0 x1 x2 k true)
  (nn x0 fun x30 =>
  ldI .i64 (Addr.add x30 2) fun x32 =>
  runs_Index_Give_s18 x0 x1 x2 k (decide (x2 > (IntKind.wrap .i64 (x32 - x1)))))))
@[reducible] def runs_Index_Give (x0 : (Option Addr)) (x1 : Int) (x2 : Int) : M Int := fun k =>
  runs_Index_Give_s19 x0 x1 x2 k
theorem runs_Index_Give_ok (x0 : (Option Addr)) (x1 : Int) (x2 : Int) (k : Int → K) (w : World) (hyp_ : runs_Index_Give x0 x1 x2 k w) : c_runs_Index_Give x0 x1 x2 k w :=
  cl_of (P := Tryz.prog) Tryz.func143 rfl (by kernel_rfl)
  (RefK.seq [] [0, 1, 2] (fun z_ => [(0, .pointer x0), (1, .int .i64 x1), (2, .int .i64 x2)]) (fun z_ => runs_Index_Give_s19 x0 x1 x2 k) (by kernel_rfl) (fun _ => by kernel_rfl)
  (RefK.plain [] (by kernel_rfl))
  (fun _ => RefK.seq [] [0, 1, 2] (fun z_ => [(0, .pointer x0), (1, .int .i64 x1), (2, .int .i64 x2)]) (fun z_ => runs_Index_Give_s16 x0 x1 x2 k x1) (by kernel_rfl) (fun _ => by kernel_rfl)
  (RefK.seq [(36, .bool)] [0, 1, 2] (fun z_ => [(36, .bool z_.1), (0, .pointer x0), (1, .int .i64 x1), (2, .int .i64 x2)]) (fun z_ => runs_Index_Give_s18 x0 x1 x2 k z_.1) (by kernel_rfl) (fun _ => by kernel_rfl)
  (RefK.plain [2, 6, 14] (by kernel_rfl))
  (fun ⟨x36, _⟩ => RefK.cond (b := x36) (t1 := runs_Index_Give_s17 k 1) (t2 := runs_Index_Give_s16 x0 x1 x2 k x1) (by kernel_rfl) (by kernel_rfl) (fun w h => brK_spec w h) (RefK.seq [(6, .int .i64)] [] (fun z_ => [(6, .int .i64 z_.1)]) (fun z_ => runs_Index_Give_s17 k z_.1) (by kernel_rfl) (fun _ => by kernel_rfl)
  (RefK.plain [] (by kernel_rfl))
  (fun ⟨x6_2, _⟩ => RefK.ret (by kernel_rfl))) (RefK.skip (by kernel_rfl))))
  (fun _ => RefK.seq [] [0, 1, 2] (fun z_ => [(0, .pointer x0), (1, .int .i64 x1), (2, .int .i64 x2)]) (fun z_ => runs_Index_Give_s10 x0 x1 x2 k) (by kernel_rfl) (fun _ => by kernel_rfl)
  (RefK.seq [(7, .int .i64)] [0, 1, 2] (fun z_ => [(7, .int .i64 z_.1), (0, .pointer x0), (1, .int .i64 x1), (2, .int .i64 x2)]) (fun z_ => runs_Index_Give_s16 x0 x1 x2 k z_.1) (by kernel_rfl) (fun _ => by kernel_rfl)
  (RefK.plain [] (by kernel_rfl))
  (fun ⟨x7, _⟩ => RefK.block (RefK.loop [(7, .int .i64)] [0, 1, 2] (fun z_ => [(7, .int .i64 z_.1), (0, .pointer x0), (1, .int .i64 x1), (2, .int .i64 x2)]) (fun (z_ : (Int × Unit)) c_ => runs_Index_Give_l15 x0 x1 x2 k z_.1 c_) (x7, ()) (by kernel_rfl) (fun _ => by kernel_rfl) (by kernel_rfl) (by kernel_rfl)
  (fun ⟨x7_1, _⟩ c => RefK.seq [] [0, 1, 2, 7] (fun z_ => [(0, .pointer x0), (1, .int .i64 x1), (2, .int .i64 x2), (7, .int .i64 x7_1)]) (fun z_ => runs_Index_Give_s13 x0 k x7_1 c) (by kernel_rfl) (fun _ => by kernel_rfl)
  (RefK.seq [(42, .bool)] [0, 1, 2, 7] (fun z_ => [(42, .bool z_.1), (0, .pointer x0), (1, .int .i64 x1), (2, .int .i64 x2), (7, .int .i64 x7_1)]) (fun z_ => runs_Index_Give_s14 x0 x1 x2 k x7_1 c z_.1) (by kernel_rfl) (fun _ => by kernel_rfl)
  (RefK.plain [] (by kernel_rfl))
  (fun ⟨x42, _⟩ => RefK.cond (b := x42) (t1 := runs_Index_Give_s13 x0 k x7_1 c) (t2 := runs_Index_Give_s10 x0 x1 x2 k) (by kernel_rfl) (by kernel_rfl) (fun w h => brK_spec w h) (RefK.skip (by kernel_rfl)) (RefK.exit (by kernel_rfl))))
  (fun _ => RefK.seq [] [0, 1, 2, 7] (fun z_ => [(0, .pointer x0), (1, .int .i64 x1), (2, .int .i64 x2), (7, .int .i64 x7_1)]) (fun z_ => c ((IntKind.wrap .i64 (x7_1 + 1)), ())) (by kernel_rfl) (fun _ => by kernel_rfl)
  (RefK.block (RefK.seq [(47, .bool)] [0, 1, 2, 7] (fun z_ => [(47, .bool z_.1), (0, .pointer x0), (1, .int .i64 x1), (2, .int .i64 x2), (7, .int .i64 x7_1)]) (fun z_ => runs_Index_Give_s12 k x7_1 c z_.1) (by kernel_rfl) (fun _ => by kernel_rfl)
  (RefK.plain [] (by kernel_rfl))
  (fun ⟨x47, _⟩ => RefK.cond (b := x47) (t1 := runs_Index_Give_s11 k 41) (t2 := c ((IntKind.wrap .i64 (x7_1 + 1)), ())) (by kernel_rfl) (by kernel_rfl) (fun w h => brK_spec w h) (RefK.seq [(6, .int .i64)] [] (fun z_ => [(6, .int .i64 z_.1)]) (fun z_ => runs_Index_Give_s11 k z_.1) (by kernel_rfl) (fun _ => by kernel_rfl)
  (RefK.plain [] (by kernel_rfl))
  (fun ⟨x6_1, _⟩ => RefK.ret (by kernel_rfl))) (RefK.skip (by kernel_rfl)))))
  (fun _ => RefK.plain [] (by kernel_rfl)))))))
  (fun _ => RefK.seq [(1, .int .i64), (2, .int .i64)] [0] (fun z_ => [(1, .int .i64 z_.1), (2, .int .i64 z_.2.1), (0, .pointer x0)]) (fun z_ => runs_Index_Give_s5 x0 k z_.1 z_.2.1) (by kernel_rfl) (fun _ => by kernel_rfl)
  (RefK.seq [(8, .int .i64), (9, .bool)] [0, 1, 2] (fun z_ => [(8, .int .i64 z_.1), (9, .bool z_.2.1), (0, .pointer x0), (1, .int .i64 x1), (2, .int .i64 x2)]) (fun z_ => runs_Index_Give_s9 x0 x1 x2 k z_.1 z_.2.1) (by kernel_rfl) (fun _ => by kernel_rfl)
  (RefK.plain [] (by kernel_rfl))
  (fun ⟨x8, x9, _⟩ => RefK.seq [(57, .bool)] [0, 1, 2, 8] (fun z_ => [(57, .bool z_.1), (0, .pointer x0), (1, .int .i64 x1), (2, .int .i64 x2), (8, .int .i64 x8)]) (fun z_ => runs_Index_Give_s8 x0 x1 x2 k x8 z_.1) (by kernel_rfl) (fun _ => by kernel_rfl)
  (RefK.plain [] (by kernel_rfl))
  (fun ⟨x57, _⟩ => RefK.cond (b := x57) (t1 := runs_Index_Give_s7 x0 x2 k x8) (t2 := runs_Index_Give_s5 x0 k x1 x2) (by kernel_rfl) (by kernel_rfl) (fun w h => brK_spec w h) (RefK.seq [(10, .int .i64)] [0, 2, 8] (fun z_ => [(10, .int .i64 z_.1), (0, .pointer x0), (2, .int .i64 x2), (8, .int .i64 x8)]) (fun z_ => runs_Index_Give_s6 x0 x2 k x8 z_.1) (by kernel_rfl) (fun _ => by kernel_rfl)
  (RefK.plain [] (by kernel_rfl))
  (fun ⟨x10, _⟩ => RefK.seq [] [0, 2, 8, 10] (fun z_ => [(0, .pointer x0), (2, .int .i64 x2), (8, .int .i64 x8), (10, .int .i64 x10)]) (fun z_ => runs_Index_Give_s5 x0 k x8 (IntKind.wrap .i64 (x2 + x10))) (by kernel_rfl) (fun _ => by kernel_rfl)
  (RefK.plain [] (by kernel_rfl))
  (fun _ => RefK.plain [] (by kernel_rfl)))) (RefK.skip (by kernel_rfl)))))
  (fun ⟨x1_1, x2_1, _⟩ => RefK.seq [(2, .int .i64)] [0, 1] (fun z_ => [(2, .int .i64 z_.1), (0, .pointer x0), (1, .int .i64 x1_1)]) (fun z_ => runs_Index_Give_s1 x0 k x1_1 z_.1) (by kernel_rfl) (fun _ => by kernel_rfl)
  (RefK.seq [(11, .int .i64), (12, .bool)] [0, 1, 2] (fun z_ => [(11, .int .i64 z_.1), (12, .bool z_.2.1), (0, .pointer x0), (1, .int .i64 x1_1), (2, .int .i64 x2_1)]) (fun z_ => runs_Index_Give_s4 x0 k x1_1 x2_1 z_.1 z_.2.1) (by kernel_rfl) (fun _ => by kernel_rfl)
  (RefK.plain [] (by kernel_rfl))
  (fun ⟨x11, x12, _⟩ => RefK.seq [(82, .bool)] [0, 1, 2, 11] (fun z_ => [(82, .bool z_.1), (0, .pointer x0), (1, .int .i64 x1_1), (2, .int .i64 x2_1), (11, .int .i64 x11)]) (fun z_ => runs_Index_Give_s3 x0 k x1_1 x2_1 x11 z_.1) (by kernel_rfl) (fun _ => by kernel_rfl)
  (RefK.plain [] (by kernel_rfl))
  (fun ⟨x82, _⟩ => RefK.cond (b := x82) (t1 := runs_Index_Give_s2 x0 k x1_1 x2_1 x11) (t2 := runs_Index_Give_s1 x0 k x1_1 x2_1) (by kernel_rfl) (by kernel_rfl) (fun w h => brK_spec w h) (RefK.seq [] [0, 1, 2, 11] (fun z_ => [(0, .pointer x0), (1, .int .i64 x1_1), (2, .int .i64 x2_1), (11, .int .i64 x11)]) (fun z_ => runs_Index_Give_s1 x0 k x1_1 (IntKind.wrap .i64 (x2_1 + x11))) (by kernel_rfl) (fun _ => by kernel_rfl)
  (RefK.plain [] (by kernel_rfl))
  (fun _ => RefK.plain [] (by kernel_rfl))) (RefK.skip (by kernel_rfl)))))
  (fun ⟨x2_2, _⟩ => RefK.seq [] [] (fun z_ => []) (fun z_ => runs_Index_Give_s0 k 0) (by kernel_rfl) (fun _ => by kernel_rfl)
  (RefK.plain [] (by kernel_rfl))
  (fun _ => RefK.seq [(6, .int .i64)] [] (fun z_ => [(6, .int .i64 z_.1)]) (fun z_ => runs_Index_Give_s0 k z_.1) (by kernel_rfl) (fun _ => by kernel_rfl)
  (RefK.plain [] (by kernel_rfl))
  (fun ⟨x6, _⟩ => RefK.ret (by kernel_rfl))))))))) hyp_
@[reducible] def free_Lists_Has_s0 (k : (Bool → K)) (x6 : Bool) : K :=
  k x6
@[reducible] def free_Lists_Has_s1 (k : (Bool → K)) (x6_1 : Bool) : K :=
  k x6_1
@[reducible] def free_Lists_Has_s2 (k : (Bool → K)) (x19_1 : Int) (c : ((Int × Unit) → K)) (x31 : Bool) : K :=
  brK x31
  (free_Lists_Has_s1 k true)
  (c ((IntKind.wrap .i64 (x19_1 + 1)), ()))
@[reducible] def free_Lists_Has_s3 (l : (Option Addr)) (k_1 : Int) (at_1 : Int) (k : (Bool → K)) (x19_1 : Int) (c : ((Int × Unit) → K)) (m : Int) : K :=
  nn l fun x23 =>
  ldM (Addr.add x23 32) fun x25 =>
  lkE Tryz.prog 201 (.slice none 0 0) (.sc (.slice)) x25 (.agg #[.int .i64 m, .int .i64 k_1]) fun r ob x29 ok =>
  c_slices_Contains_Sint_int x29 at_1 fun x31_1 =>
  free_Lists_Has_s2 k x19_1 c x31_1
@[reducible] def free_Lists_Has_s4 (l : (Option Addr)) (k_1 : Int) (at_1 : Int) (k : (Bool → K)) (x19_1 : Int) (c : ((Int × Unit) → K)) (x20 : Bool) : K :=
  brK x20
  (free_Lists_Has_s3 l k_1 at_1 k x19_1 c x19_1)
  (free_Lists_Has_s0 k false)
@[reducible] def free_Lists_Has_l5 (l : (Option Addr)) (k_1 : Int) (at_1 : Int) (k : (Bool → K)) (x19_1 : Int) (c : ((Int × Unit) → K)) : K :=
  free_Lists_Has_s4 l k_1 at_1 k x19_1 c (decide (x19_1 < 4))
@[reducible] def free_Lists_Has_s6 (l : (Option Addr)) (k_1 : Int) (at_1 : Int) (k : (Bool → K)) (x19 : Int) : K :=
  lp (fun (z_ : (Int × Unit)) c_ => free_Lists_Has_l5 l k_1 at_1 k z_.1 c_) (x19, ())
@[reducible] def free_Lists_Has_s7 (k : (Bool → K)) (x6_2 : Bool) : K :=
  k x6_2
@[reducible] def free_Lists_Has_s8 (l : (Option Addr)) (k_1 : Int) (at_1 : Int) (k : (Bool → K)) (x18 : Bool) : K :=
  brK x18
  (free_Lists_Has_s7 k true)
  (free_Lists_Has_s6 l k_1 at_1 k 0)
@[reducible] def free_Lists_Has_s9 (l : (Option Addr)) (k_1 : Int) (at_1 : Int) (k : (Bool → K)) : K :=
  nn l fun x13 =>
  ixA (Addr.add x13 0) 32 k_1 1 fun x15 =>
  ldS x15 fun x16 =>
  c_slices_Contains_Sint_int x16 at_1 fun x18_1 =>
  free_Lists_Has_s8 l k_1 at_1 k x18_1
@[reducible] def free_Lists_Has_s10 (k : (Bool → K)) (x6_3 : Bool) : K :=
  k x6_3
@[reducible] def free_Lists_Has_s11 (l : (Option Addr)) (k_1 : Int) (at_1 : Int) (k : (Bool → K)) (x10 : Bool) : K :=
  brK x10
  (free_Lists_Has_s10 k false)
  (free_Lists_Has_s9 l k_1 at_1 k)
@[reducible] def free_Lists_Has_s12 (l : (Option Addr)) (k_1 : Int) (at_1 : Int) (k : (Bool → K)) : K :=
  c_class_Right k_1 fun x9 =>
  free_Lists_Has_s11 l k_1 at_1 k (!x9)
@[reducible] def free_Lists_Has (l : (Option Addr)) (k_1 : Int) (at_1 : Int) : M Bool := fun k =>
  free_Lists_Has_s12 l k_1 at_1 k
theorem free_Lists_Has_ok (l : (Option Addr)) (k_1 : Int) (at_1 : Int) (k : Bool → K) (w : World) (hyp_ : free_Lists_Has l k_1 at_1 k w) : c_free_Lists_Has l k_1 at_1 k w :=
  cl_of (P := Tryz.prog) Tryz.func144 rfl (by kernel_rfl)
  (RefK.seq [] [0, 1, 2] (fun z_ => [(0, .pointer l), (1, .int .i64 k_1), (2, .int .i64 at_1)]) (fun z_ => free_Lists_Has_s12 l k_1 at_1 k) (by kernel_rfl) (fun _ => by kernel_rfl)
  (RefK.plain [] (by kernel_rfl))
  (fun _ => RefK.seq [] [0, 1, 2] (fun z_ => [(0, .pointer l), (1, .int .i64 k_1), (2, .int .i64 at_1)]) (fun z_ => free_Lists_Has_s9 l k_1 at_1 k) (by kernel_rfl) (fun _ => by kernel_rfl)
  (RefK.seq [(10, .bool)] [0, 1, 2] (fun z_ => [(10, .bool z_.1), (0, .pointer l), (1, .int .i64 k_1), (2, .int .i64 at_1)]) (fun z_ => free_Lists_Has_s11 l k_1 at_1 k z_.1) (by kernel_rfl) (fun _ => by kernel_rfl)
  (RefK.plain [] (by kernel_rfl))
  (fun ⟨x10, _⟩ => RefK.cond (b := x10) (t1 := free_Lists_Has_s10 k false) (t2 := free_Lists_Has_s9 l k_1 at_1 k) (by kernel_rfl) (by kernel_rfl) (fun w h => brK_spec w h) (RefK.seq [(6, .bool)] [] (fun z_ => [(6, .bool z_.1)]) (fun z_ => free_Lists_Has_s10 k z_.1) (by kernel_rfl) (fun _ => by kernel_rfl)
  (RefK.plain [] (by kernel_rfl))
  (fun ⟨x6_3, _⟩ => RefK.ret (by kernel_rfl))) (RefK.skip (by kernel_rfl))))
  (fun _ => RefK.seq [] [0, 1, 2] (fun z_ => [(0, .pointer l), (1, .int .i64 k_1), (2, .int .i64 at_1)]) (fun z_ => free_Lists_Has_s6 l k_1 at_1 k 0) (by kernel_rfl) (fun _ => by kernel_rfl)
  (RefK.seq [(18, .bool)] [0, 1, 2] (fun z_ => [(18, .bool z_.1), (0, .pointer l), (1, .int .i64 k_1), (2, .int .i64 at_1)]) (fun z_ => free_Lists_Has_s8 l k_1 at_1 k z_.1) (by kernel_rfl) (fun _ => by kernel_rfl)
  (RefK.plain [] (by kernel_rfl))
  (fun ⟨x18, _⟩ => RefK.cond (b := x18) (t1 := free_Lists_Has_s7 k true) (t2 := free_Lists_Has_s6 l k_1 at_1 k 0) (by kernel_rfl) (by kernel_rfl) (fun w h => brK_spec w h) (RefK.seq [(6, .bool)] [] (fun z_ => [(6, .bool z_.1)]) (fun z_ => free_Lists_Has_s7 k z_.1) (by kernel_rfl) (fun _ => by kernel_rfl)
  (RefK.plain [] (by kernel_rfl))
  (fun ⟨x6_2, _⟩ => RefK.ret (by kernel_rfl))) (RefK.skip (by kernel_rfl))))
  (fun _ => RefK.seq [] [] (fun z_ => []) (fun z_ => free_Lists_Has_s0 k false) (by kernel_rfl) (fun _ => by kernel_rfl)
  (RefK.seq [(19, .int .i64)] [0, 1, 2] (fun z_ => [(19, .int .i64 z_.1), (0, .pointer l), (1, .int .i64 k_1), (2, .int .i64 at_1)]) (fun z_ => free_Lists_Has_s6 l k_1 at_1 k z_.1) (by kernel_rfl) (fun _ => by kernel_rfl)
  (RefK.plain [] (by kernel_rfl))
  (fun ⟨x19, _⟩ => RefK.block (RefK.loop [(19, .int .i64)] [0, 1, 2] (fun z_ => [(19, .int .i64 z_.1), (0, .pointer l), (1, .int .i64 k_1), (2, .int .i64 at_1)]) (fun (z_ : (Int × Unit)) c_ => free_Lists_Has_l5 l k_1 at_1 k z_.1 c_) (x19, ()) (by kernel_rfl) (fun _ => by kernel_rfl) (by kernel_rfl) (by kernel_rfl)
  (fun ⟨x19_1, _⟩ c => RefK.seq [(20, .bool)] [0, 1, 2, 19] (fun z_ => [(20, .bool z_.1), (0, .pointer l), (1, .int .i64 k_1), (2, .int .i64 at_1), (19, .int .i64 x19_1)]) (fun z_ => free_Lists_Has_s4 l k_1 at_1 k x19_1 c z_.1) (by kernel_rfl) (fun _ => by kernel_rfl)
  (RefK.plain [] (by kernel_rfl))
  (fun ⟨x20, _⟩ => RefK.seq [] [0, 1, 2, 19] (fun z_ => [(0, .pointer l), (1, .int .i64 k_1), (2, .int .i64 at_1), (19, .int .i64 x19_1)]) (fun z_ => free_Lists_Has_s3 l k_1 at_1 k x19_1 c x19_1) (by kernel_rfl) (fun _ => by kernel_rfl)
  (RefK.cond (b := x20) (t1 := free_Lists_Has_s3 l k_1 at_1 k x19_1 c x19_1) (t2 := free_Lists_Has_s0 k false) (by kernel_rfl) (by kernel_rfl) (fun w h => brK_spec w h) (RefK.skip (by kernel_rfl)) (RefK.exit (by kernel_rfl)))
  (fun _ => RefK.seq [] [0, 1, 2, 19] (fun z_ => [(0, .pointer l), (1, .int .i64 k_1), (2, .int .i64 at_1), (19, .int .i64 x19_1)]) (fun z_ => c ((IntKind.wrap .i64 (x19_1 + 1)), ())) (by kernel_rfl) (fun _ => by kernel_rfl)
  (RefK.block (RefK.seq [(7, .int .i64)] [0, 1, 2, 19] (fun z_ => [(7, .int .i64 z_.1), (0, .pointer l), (1, .int .i64 k_1), (2, .int .i64 at_1), (19, .int .i64 x19_1)]) (fun z_ => free_Lists_Has_s3 l k_1 at_1 k x19_1 c z_.1) (by kernel_rfl) (fun _ => by kernel_rfl)
  (RefK.plain [] (by kernel_rfl))
  (fun ⟨m, _⟩ => RefK.seq [(31, .bool)] [0, 1, 2, 19] (fun z_ => [(31, .bool z_.1), (0, .pointer l), (1, .int .i64 k_1), (2, .int .i64 at_1), (19, .int .i64 x19_1)]) (fun z_ => free_Lists_Has_s2 k x19_1 c z_.1) (by kernel_rfl) (fun _ => by kernel_rfl)
  (RefK.plain [] (by kernel_rfl))
  (fun ⟨x31, _⟩ => RefK.cond (b := x31) (t1 := free_Lists_Has_s1 k true) (t2 := c ((IntKind.wrap .i64 (x19_1 + 1)), ())) (by kernel_rfl) (by kernel_rfl) (fun w h => brK_spec w h) (RefK.seq [(6, .bool)] [] (fun z_ => [(6, .bool z_.1)]) (fun z_ => free_Lists_Has_s1 k z_.1) (by kernel_rfl) (fun _ => by kernel_rfl)
  (RefK.plain [] (by kernel_rfl))
  (fun ⟨x6_1, _⟩ => RefK.ret (by kernel_rfl))) (RefK.skip (by kernel_rfl))))))
  (fun _ => RefK.plain [] (by kernel_rfl))))))))
  (fun _ => RefK.seq [(6, .bool)] [] (fun z_ => [(6, .bool z_.1)]) (fun z_ => free_Lists_Has_s0 k z_.1) (by kernel_rfl) (fun _ => by kernel_rfl)
  (RefK.plain [] (by kernel_rfl))
  (fun ⟨x6, _⟩ => RefK.ret (by kernel_rfl))))))) hyp_
@[reducible] def free_right_s0 (k : (Bool → K)) (x4 : Bool) : K :=
  k x4
@[reducible] def free_right_s1 (mutator : Int) (k_1 : Int) (k : (Bool → K)) : K :=
  brK (decide (mutator ≥ 0))
  (brK (decide (mutator < 4))
  (c_class_Right k_1 fun x13 =>
  free_right_s0 k x13)
  (free_right_s0 k false))
  (free_right_s0 k false)
@[reducible] def free_right (mutator : Int) (k_1 : Int) : M Bool := fun k =>
  free_right_s1 mutator k_1 k
theorem free_right_ok (mutator : Int) (k_1 : Int) (k : Bool → K) (w : World) (hyp_ : free_right mutator k_1 k w) : c_free_right mutator k_1 k w :=
  cl_of (P := Tryz.prog) Tryz.func145 rfl (by kernel_rfl)
  (RefK.seq [] [0, 1] (fun z_ => [(0, .int .i64 mutator), (1, .int .i64 k_1)]) (fun z_ => free_right_s1 mutator k_1 k) (by kernel_rfl) (fun _ => by kernel_rfl)
  (RefK.plain [] (by kernel_rfl))
  (fun _ => RefK.seq [(4, .bool)] [] (fun z_ => [(4, .bool z_.1)]) (fun z_ => free_right_s0 k z_.1) (by kernel_rfl) (fun _ => by kernel_rfl)
  (RefK.plain [2, 6] (by kernel_rfl))
  (fun ⟨x4, _⟩ => RefK.ret (by kernel_rfl)))) hyp_
@[reducible] def bman_Manager_Large_s0 (k : ((Int × Int) → K)) (x4 : Int) (x5 : Int) : K :=
  k (x4, x5)
@[reducible] def bman_Manager_Large_s1 (k : ((Int × Int) → K)) (x4_1 : Int) (x5_1 : Int) : K :=
  k (x4_1, x5_1)
@[reducible] def bman_Manager_Large_s2 (k : ((Int × Int) → K)) (b : Int) (e_1 : Int) (x56 : Bool) : K :=
  brK x56
  (bman_Manager_Large_s1 k 0 e_1)
  (bman_Manager_Large_s0 k b 0)
@[reducible] def bman_Manager_Large_s3 (k : ((Int × Int) → K)) (b : Int) (e_1 : Int) : K :=
  bman_Manager_Large_s2 k b e_1 (e_1 != 0)
@[reducible] def bman_Manager_Large_s4 (m : (Option Addr)) (k : ((Int × Int) → K)) (b : Int) (list : Sl) : K :=
  tick fun _ =>
  nn m fun x46 =>
  ldP (Addr.add x46 0) fun x48 =>
  ixS list.p list.n 0 3 fun x51 =>
  ldI .i64 (Addr.add x51 0) fun x52_0 =>
  ldI .i64 (Addr.add x51 1) fun x52_1 =>
  ldI .i64 (Addr.add x51 2) fun x52_2 =>
  alK (.cells #[.int .i64 x52_0, .int .i64 x52_1, .int .i64 x52_2] 143) fun b_1 =>
  c_blocks_Table_Put x48 b ⟨(some ⟨b_1, 0, none⟩), 1, 1⟩ fun x54 =>
  bman_Manager_Large_s3 k b x54
@[reducible] def bman_Manager_Large_s5 (k : ((Int × Int) → K)) (x4_2 : Int) (x5_2 : Int) : K :=
  k (x4_2, x5_2)
@[reducible] def bman_Manager_Large_s6 (m : (Option Addr)) (k : ((Int × Int) → K)) (b : Int) (list : Sl) (e_2 : Int) (x43 : Bool) : K :=
  brK x43
  (bman_Manager_Large_s5 k 0 e_2)
  (bman_Manager_Large_s4 m k b list)
@[reducible] def bman_Manager_Large_s7 (m : (Option Addr)) (k : ((Int × Int) → K)) (b : Int) (list : Sl) (e_2 : Int) : K :=
  bman_Manager_Large_s6 m k b list e_2 (e_2 != 0)
@[reducible] def bman_Manager_Large_s8 (m : (Option Addr)) (k : ((Int × Int) → K)) (b : Int) (list : Sl) : K :=
  tick fun _ =>
  nn m fun x34 =>
  ldP (Addr.add x34 0) fun x36 =>
  loB (some (.int .i64 1)) 0 list.n fun l =>
  c_blocks_Table_Put x36 (IntKind.wrap .i64 (b + 1)) ⟨(cutP list.p l list.c 3), (list.n - l), (list.c - l)⟩ fun x41 =>
  bman_Manager_Large_s7 m k b list x41
@[reducible] def bman_Manager_Large_s9 (m : (Option Addr)) (k : ((Int × Int) → K)) (b : Int) (list : Sl) (x32 : Bool) : K :=
  brK x32
  (bman_Manager_Large_s8 m k b list)
  (bman_Manager_Large_s4 m k b list)
@[reducible] def bman_Manager_Large_s10 (m : (Option Addr)) (n : Int) (k : ((Int × Int) → K)) (b : Int) (list : Sl) : K :=
  bman_Manager_Large_s9 m k b list (decide (n > 1))
@[reducible] def bman_Manager_Large_s11 (m : (Option Addr)) (n : Int) (k : ((Int × Int) → K)) (b : Int) : K :=
  c_bhead_Run n fun x30 =>
  bman_Manager_Large_s10 m n k b x30
@[reducible] def bman_Manager_Large_s12 (k : ((Int × Int) → K)) (x4_3 : Int) (x5_3 : Int) : K :=
  k (x4_3, x5_3)
@[reducible] def bman_Manager_Large_s13 (m : (Option Addr)) (n : Int) (k : ((Int × Int) → K)) (b : Int) (e : Int) (x27 : Bool) : K :=
  brK x27
  (bman_Manager_Large_s12 k 0 e)
  (bman_Manager_Large_s11 m n k b)
@[reducible] def bman_Manager_Large_s14 (m : (Option Addr)) (n : Int) (k : ((Int × Int) → K)) (b : Int) (e : Int) : K :=
  bman_Manager_Large_s13 m n k b e (e != 0)
@[reducible] def bman_Manager_Large_s15 (m : (Option Addr)) (n : Int) (k : ((Int × Int) → K)) : K :=
  nn m fun x19 =>
  ldP (Addr.add x19 1) fun x21 =>
  c_runs_Index_Take x21 n fun x23 =>
  bman_Manager_Large_s14 m n k x23.1 x23.2
@[reducible] def bman_Manager_Large_s16 (k : ((Int × Int) → K)) (x4_4 : Int) (x5_4 : Int) : K :=
  k (x4_4, x5_4)
@[reducible] def bman_Manager_Large_s17 (m : (Option Addr)) (n : Int) (k : ((Int × Int) → K)) (x16 : Bool) : K :=
  brK x16
  (bman_Manager_Large_s16 k 0 1)
  (bman_Manager_Large_s15 m n k)
@[reducible] def bman_Manager_Large_s18 (m : (Option Addr)) (n : Int) (k : ((Int × Int) → K)) : K :=
  brK (decide (n < 1))
  (bman_Manager_Large_s17 m n k true)
  (bman_Manager_Large_s17 m n k (decide (n ≥ 256)))
@[reducible] def bman_Manager_Large (m : (Option Addr)) (n : Int) : M (Int × Int) := fun k =>
  bman_Manager_Large_s18 m n k
theorem bman_Manager_Large_ok (m : (Option Addr)) (n : Int) (k : (Int × Int) → K) (w : World) (hyp_ : bman_Manager_Large m n k w) : c_bman_Manager_Large m n k w :=
  cl_of (P := Tryz.prog) Tryz.func149 rfl (by kernel_rfl)
  (RefK.seq [] [0, 1] (fun z_ => [(0, .pointer m), (1, .int .i64 n)]) (fun z_ => bman_Manager_Large_s18 m n k) (by kernel_rfl) (fun _ => by kernel_rfl)
  (RefK.plain [] (by kernel_rfl))
  (fun _ => RefK.seq [] [0, 1] (fun z_ => [(0, .pointer m), (1, .int .i64 n)]) (fun z_ => bman_Manager_Large_s15 m n k) (by kernel_rfl) (fun _ => by kernel_rfl)
  (RefK.seq [(16, .bool)] [0, 1] (fun z_ => [(16, .bool z_.1), (0, .pointer m), (1, .int .i64 n)]) (fun z_ => bman_Manager_Large_s17 m n k z_.1) (by kernel_rfl) (fun _ => by kernel_rfl)
  (RefK.plain [2] (by kernel_rfl))
  (fun ⟨x16, _⟩ => RefK.cond (b := x16) (t1 := bman_Manager_Large_s16 k 0 1) (t2 := bman_Manager_Large_s15 m n k) (by kernel_rfl) (by kernel_rfl) (fun w h => brK_spec w h) (RefK.seq [(4, .int .i64), (5, .int .i64)] [] (fun z_ => [(4, .int .i64 z_.1), (5, .int .i64 z_.2.1)]) (fun z_ => bman_Manager_Large_s16 k z_.1 z_.2.1) (by kernel_rfl) (fun _ => by kernel_rfl)
  (RefK.plain [] (by kernel_rfl))
  (fun ⟨x4_4, x5_4, _⟩ => RefK.ret (by kernel_rfl))) (RefK.skip (by kernel_rfl))))
  (fun _ => RefK.seq [(6, .int .i64), (7, .int .i64)] [0, 1] (fun z_ => [(6, .int .i64 z_.1), (7, .int .i64 z_.2.1), (0, .pointer m), (1, .int .i64 n)]) (fun z_ => bman_Manager_Large_s14 m n k z_.1 z_.2.1) (by kernel_rfl) (fun _ => by kernel_rfl)
  (RefK.plain [] (by kernel_rfl))
  (fun ⟨b, e, _⟩ => RefK.seq [] [0, 1, 6] (fun z_ => [(0, .pointer m), (1, .int .i64 n), (6, .int .i64 b)]) (fun z_ => bman_Manager_Large_s11 m n k b) (by kernel_rfl) (fun _ => by kernel_rfl)
  (RefK.seq [(27, .bool)] [0, 1, 6, 7] (fun z_ => [(27, .bool z_.1), (0, .pointer m), (1, .int .i64 n), (6, .int .i64 b), (7, .int .i64 e)]) (fun z_ => bman_Manager_Large_s13 m n k b e z_.1) (by kernel_rfl) (fun _ => by kernel_rfl)
  (RefK.plain [] (by kernel_rfl))
  (fun ⟨x27, _⟩ => RefK.cond (b := x27) (t1 := bman_Manager_Large_s12 k 0 e) (t2 := bman_Manager_Large_s11 m n k b) (by kernel_rfl) (by kernel_rfl) (fun w h => brK_spec w h) (RefK.seq [(4, .int .i64), (5, .int .i64)] [] (fun z_ => [(4, .int .i64 z_.1), (5, .int .i64 z_.2.1)]) (fun z_ => bman_Manager_Large_s12 k z_.1 z_.2.1) (by kernel_rfl) (fun _ => by kernel_rfl)
  (RefK.plain [] (by kernel_rfl))
  (fun ⟨x4_3, x5_3, _⟩ => RefK.ret (by kernel_rfl))) (RefK.skip (by kernel_rfl))))
  (fun _ => RefK.seq [(8, .slice)] [0, 1, 6] (fun z_ => [(8, z_.1.v), (0, .pointer m), (1, .int .i64 n), (6, .int .i64 b)]) (fun z_ => bman_Manager_Large_s10 m n k b z_.1) (by kernel_rfl) (fun _ => by kernel_rfl)
  (RefK.plain [] (by kernel_rfl))
  (fun ⟨list, _⟩ => RefK.seq [] [0, 6, 8] (fun z_ => [(0, .pointer m), (6, .int .i64 b), (8, list.v)]) (fun z_ => bman_Manager_Large_s4 m k b list) (by kernel_rfl) (fun _ => by kernel_rfl)
  (RefK.seq [(32, .bool)] [0, 6, 8] (fun z_ => [(32, .bool z_.1), (0, .pointer m), (6, .int .i64 b), (8, list.v)]) (fun z_ => bman_Manager_Large_s9 m k b list z_.1) (by kernel_rfl) (fun _ => by kernel_rfl)
  (RefK.plain [] (by kernel_rfl))
  (fun ⟨x32, _⟩ => RefK.cond (b := x32) (t1 := bman_Manager_Large_s8 m k b list) (t2 := bman_Manager_Large_s4 m k b list) (by kernel_rfl) (by kernel_rfl) (fun w h => brK_spec w h) (RefK.seq [(9, .int .i64)] [0, 6, 8] (fun z_ => [(9, .int .i64 z_.1), (0, .pointer m), (6, .int .i64 b), (8, list.v)]) (fun z_ => bman_Manager_Large_s7 m k b list z_.1) (by kernel_rfl) (fun _ => by kernel_rfl)
  (RefK.draw [] [0, 1, 3, 7, 0, 16, 0, 64, 255, 511] [0, 1, 2, 3, 4, 5, 6, 7, 8, 9] [0, 1, 2, 3, 4, 5, 6, 7, 8, 9] (by kernel_rfl) (by kernel_rfl))
  (fun ⟨e_2, _⟩ => RefK.seq [(43, .bool)] [0, 6, 8, 9] (fun z_ => [(43, .bool z_.1), (0, .pointer m), (6, .int .i64 b), (8, list.v), (9, .int .i64 e_2)]) (fun z_ => bman_Manager_Large_s6 m k b list e_2 z_.1) (by kernel_rfl) (fun _ => by kernel_rfl)
  (RefK.plain [] (by kernel_rfl))
  (fun ⟨x43, _⟩ => RefK.cond (b := x43) (t1 := bman_Manager_Large_s5 k 0 e_2) (t2 := bman_Manager_Large_s4 m k b list) (by kernel_rfl) (by kernel_rfl) (fun w h => brK_spec w h) (RefK.seq [(4, .int .i64), (5, .int .i64)] [] (fun z_ => [(4, .int .i64 z_.1), (5, .int .i64 z_.2.1)]) (fun z_ => bman_Manager_Large_s5 k z_.1 z_.2.1) (by kernel_rfl) (fun _ => by kernel_rfl)
  (RefK.plain [] (by kernel_rfl))
  (fun ⟨x4_2, x5_2, _⟩ => RefK.ret (by kernel_rfl))) (RefK.skip (by kernel_rfl))))) (RefK.skip (by kernel_rfl))))
  (fun _ => RefK.seq [] [6] (fun z_ => [(6, .int .i64 b)]) (fun z_ => bman_Manager_Large_s0 k b 0) (by kernel_rfl) (fun _ => by kernel_rfl)
  (RefK.seq [(10, .int .i64)] [6] (fun z_ => [(10, .int .i64 z_.1), (6, .int .i64 b)]) (fun z_ => bman_Manager_Large_s3 k b z_.1) (by kernel_rfl) (fun _ => by kernel_rfl)
  (RefK.draw [] [0, 1, 3, 7, 0, 0, 32, 96, 224, 511, 1023] [0, 1, 2, 3, 4, 5, 6, 7, 8, 9, 10] [0, 1, 2, 3, 4, 5, 6, 7, 8, 9, 10] (by kernel_rfl) (by kernel_rfl))
  (fun ⟨e_1, _⟩ => RefK.seq [(56, .bool)] [6, 10] (fun z_ => [(56, .bool z_.1), (6, .int .i64 b), (10, .int .i64 e_1)]) (fun z_ => bman_Manager_Large_s2 k b e_1 z_.1) (by kernel_rfl) (fun _ => by kernel_rfl)
  (RefK.plain [] (by kernel_rfl))
  (fun ⟨x56, _⟩ => RefK.cond (b := x56) (t1 := bman_Manager_Large_s1 k 0 e_1) (t2 := bman_Manager_Large_s0 k b 0) (by kernel_rfl) (by kernel_rfl) (fun w h => brK_spec w h) (RefK.seq [(4, .int .i64), (5, .int .i64)] [] (fun z_ => [(4, .int .i64 z_.1), (5, .int .i64 z_.2.1)]) (fun z_ => bman_Manager_Large_s1 k z_.1 z_.2.1) (by kernel_rfl) (fun _ => by kernel_rfl)
  (RefK.plain [] (by kernel_rfl))
  (fun ⟨x4_1, x5_1, _⟩ => RefK.ret (by kernel_rfl))) (RefK.skip (by kernel_rfl)))))
  (fun _ => RefK.seq [(4, .int .i64), (5, .int .i64)] [] (fun z_ => [(4, .int .i64 z_.1), (5, .int .i64 z_.2.1)]) (fun z_ => bman_Manager_Large_s0 k z_.1 z_.2.1) (by kernel_rfl) (fun _ => by kernel_rfl)
  (RefK.plain [] (by kernel_rfl))
  (fun ⟨x4, x5, _⟩ => RefK.ret (by kernel_rfl)))))))))) hyp_
@[reducible] def free_Lists_Take_s0 (k : ((Int × Int) → K)) (x6 : Int) (x7 : Int) : K :=
  k (x6, x7)
@[reducible] def free_Lists_Take_s1 (k : ((Int × Int) → K)) (x11 : Sl) : K :=
  ixS x11.p x11.n (IntKind.wrap .i64 (((x11.n : Nat) : Int) - 1)) 1 fun x94 =>
  ldI .i64 x94 fun x95 =>
  free_Lists_Take_s0 k x95 0
@[reducible] def free_Lists_Take_s2 (x0 : (Option Addr)) (k : ((Int × Int) → K)) (x8 : Addr) (x11 : Sl) : K :=
  tick fun _ =>
  nn x0 fun x81 =>
  ldM (Addr.add x81 32) fun x83 =>
  ldI .i64 (Addr.add x8 0) fun x84_0 =>
  ldI .i64 (Addr.add x8 1) fun x84_1 =>
  loB (some (.int .i64 (IntKind.wrap .i64 (((x11.n : Nat) : Int) - 1)))) x11.n x11.c fun h =>
  semU Tryz.prog (Instr.mapUpdate 197 (.map x83) (.agg #[.int .i64 x84_0, .int .i64 x84_1]) (.slice (cutP x11.p 0 x11.c 1) (h - 0) (x11.c - 0))) <|
  free_Lists_Take_s1 k x11
@[reducible] def free_Lists_Take_s3 (k : ((Int × Int) → K)) (x6_1 : Int) (x7_1 : Int) : K :=
  k (x6_1, x7_1)
@[reducible] def free_Lists_Take_s4 (x0 : (Option Addr)) (k : ((Int × Int) → K)) (x8 : Addr) (x11 : Sl) (x79 : Bool) : K :=
  brK x79
  (free_Lists_Take_s3 k 0 4)
  (free_Lists_Take_s2 x0 k x8 x11)
@[reducible] def free_Lists_Take_s5 (x0 : (Option Addr)) (k : ((Int × Int) → K)) (x8 : Addr) (x11 : Sl) : K :=
  free_Lists_Take_s4 x0 k x8 x11 (((x11.n : Nat) : Int) == 0)
@[reducible] def free_Lists_Take_s6 (x0 : (Option Addr)) (k : ((Int × Int) → K)) (x8 : Addr) : K :=
  tick fun _ =>
  nn x0 fun x72 =>
  ldM (Addr.add x72 32) fun x74 =>
  ldI .i64 (Addr.add x8 0) fun x75_0 =>
  ldI .i64 (Addr.add x8 1) fun x75_1 =>
  lkE Tryz.prog 201 (.slice none 0 0) (.sc (.slice)) x74 (.agg #[.int .i64 x75_0, .int .i64 x75_1]) fun r ob x76 ok =>
  free_Lists_Take_s5 x0 k x8 x76
@[reducible] def free_Lists_Take_s7 (x0 : (Option Addr)) (x2 : Int) (k : ((Int × Int) → K)) (x8 : Addr) (x10 : Int) : K :=
  tick fun _ =>
  nn x0 fun x62 =>
  ixA (Addr.add x62 0) 32 x2 1 fun x64 =>
  ldS x64 fun x65 =>
  loB (some (.int .i64 x10)) x65.n x65.c fun h_1 =>
  nn x0 fun x68 =>
  ixA (Addr.add x68 0) 32 x2 1 fun x70 =>
  stK (Addr.add x70 0) (.slice (cutP x65.p 0 x65.c 1) (h_1 - 0) (x65.c - 0)) <|
  free_Lists_Take_s6 x0 k x8
@[reducible] def free_Lists_Take_s8 (x0 : (Option Addr)) (x2 : Int) (k : ((Int × Int) → K)) (x8 : Addr) (x10 : Int) : K :=
  tick fun _ =>
  nn x0 fun x45 =>
  ldM (Addr.add x45 32) fun x47 =>
  ldI .i64 (Addr.add x8 0) fun x48_0 =>
  ldI .i64 (Addr.add x8 1) fun x48_1 =>
  nn x0 fun x51 =>
  ixA (Addr.add x51 0) 32 x2 1 fun x53 =>
  ldS x53 fun x54 =>
  loB (some (.int .i64 x10)) 0 x54.n fun l =>
  c_slices_Clone_Sint_int ⟨(cutP x54.p l x54.c 1), (x54.n - l), (x54.c - l)⟩ fun x57 =>
  chk [.cell (Addr.add x8 0) (.int .i64 x48_0), .cell (Addr.add x8 1) (.int .i64 x48_1), .cell (Addr.add x45 32) (.map x47)] fun _ =>
  semU Tryz.prog (Instr.mapUpdate 197 (.map x47) (.agg #[.int .i64 x48_0, .int .i64 x48_1]) x57.v) <|
  free_Lists_Take_s7 x0 x2 k x8 x10
@[reducible] def free_Lists_Take_s9 (x0 : (Option Addr)) (x2 : Int) (k : ((Int × Int) → K)) (x8 : Addr) (x9 : Int) : K :=
  nn x0 fun x37 =>
  ixA (Addr.add x37 0) 32 x2 1 fun x39 =>
  ldS x39 fun x40 =>
  free_Lists_Take_s8 x0 x2 k x8 (IntKind.wrap .i64 (((x40.n : Nat) : Int) - x9))
@[reducible] def free_Lists_Take_s10 (x0 : (Option Addr)) (x2 : Int) (k : ((Int × Int) → K)) (x8 : Addr) : K :=
  nn x0 fun x29 =>
  ixA (Addr.add x29 0) 32 x2 1 fun x31 =>
  ldS x31 fun x32 =>
  free_Lists_Take_s9 x0 x2 k x8 (min2I ((x32.n : Nat) : Int) 4)
@[reducible] def free_Lists_Take_s11 (x0 : (Option Addr)) (x2 : Int) (k : ((Int × Int) → K)) (x8 : Addr) (x26 : Bool) : K :=
  brK x26
  (free_Lists_Take_s10 x0 x2 k x8)
  (free_Lists_Take_s6 x0 k x8)
@[reducible] def free_Lists_Take_s12 (x0 : (Option Addr)) (x2 : Int) (k : ((Int × Int) → K)) (x8 : Addr) : K :=
  tick fun _ =>
  nn x0 fun x20 =>
  ldM (Addr.add x20 32) fun x22 =>
  ldI .i64 (Addr.add x8 0) fun x23_0 =>
  ldI .i64 (Addr.add x8 1) fun x23_1 =>
  lkE Tryz.prog 201 (.slice none 0 0) (.sc (.slice)) x22 (.agg #[.int .i64 x23_0, .int .i64 x23_1]) fun r_1 ob_1 x24 ok_1 =>
  free_Lists_Take_s11 x0 x2 k x8 (((x24.n : Nat) : Int) == 0)
@[reducible] def free_Lists_Take_s13 (x0 : (Option Addr)) (x1 : Int) (x2 : Int) (k : ((Int × Int) → K)) : K :=
  alK (.cells #[.int .i64 0, .int .i64 0] 201) fun b =>
  stK (Addr.add ⟨b, 0, none⟩ 0) (.int .i64 x1) <|
  stK (Addr.add ⟨b, 0, none⟩ 1) (.int .i64 x2) <|
  free_Lists_Take_s12 x0 x2 k ⟨b, 0, none⟩
@[reducible] def free_Lists_Take_s14 (k : ((Int × Int) → K)) (x6_2 : Int) (x7_2 : Int) : K :=
  k (x6_2, x7_2)
@[reducible] def free_Lists_Take_s15 (x0 : (Option Addr)) (x1 : Int) (x2 : Int) (k : ((Int × Int) → K)) (x15 : Bool) : K :=
  brK x15
  (free_Lists_Take_s14 k 0 1)
  (free_Lists_Take_s13 x0 x1 x2 k)
@[reducible] def free_Lists_Take_s16 (x0 : (Option Addr)) (x1 : Int) (x2 : Int) (k : ((Int × Int) → K)) : K :=
  c_free_right x1 x2 fun x14 =>
  free_Lists_Take_s15 x0 x1 x2 k (!x14)
@[reducible] def free_Lists_Take (x0 : (Option Addr)) (x1 : Int) (x2 : Int) : M (Int × Int) := fun k =>
  free_Lists_Take_s16 x0 x1 x2 k
theorem free_Lists_Take_ok (x0 : (Option Addr)) (x1 : Int) (x2 : Int) (k : (Int × Int) → K) (w : World) (hyp_ : free_Lists_Take x0 x1 x2 k w) : c_free_Lists_Take x0 x1 x2 k w :=
  cl_of (P := Tryz.prog) Tryz.func150 rfl (by kernel_rfl)
  (RefK.seq [] [0, 1, 2] (fun z_ => [(0, .pointer x0), (1, .int .i64 x1), (2, .int .i64 x2)]) (fun z_ => free_Lists_Take_s16 x0 x1 x2 k) (by kernel_rfl) (fun _ => by kernel_rfl)
  (RefK.plain [] (by kernel_rfl))
  (fun _ => RefK.seq [] [0, 1, 2] (fun z_ => [(0, .pointer x0), (1, .int .i64 x1), (2, .int .i64 x2)]) (fun z_ => free_Lists_Take_s13 x0 x1 x2 k) (by kernel_rfl) (fun _ => by kernel_rfl)
  (RefK.seq [(15, .bool)] [0, 1, 2] (fun z_ => [(15, .bool z_.1), (0, .pointer x0), (1, .int .i64 x1), (2, .int .i64 x2)]) (fun z_ => free_Lists_Take_s15 x0 x1 x2 k z_.1) (by kernel_rfl) (fun _ => by kernel_rfl)
  (RefK.plain [] (by kernel_rfl))
  (fun ⟨x15, _⟩ => RefK.cond (b := x15) (t1 := free_Lists_Take_s14 k 0 1) (t2 := free_Lists_Take_s13 x0 x1 x2 k) (by kernel_rfl) (by kernel_rfl) (fun w h => brK_spec w h) (RefK.seq [(6, .int .i64), (7, .int .i64)] [] (fun z_ => [(6, .int .i64 z_.1), (7, .int .i64 z_.2.1)]) (fun z_ => free_Lists_Take_s14 k z_.1 z_.2.1) (by kernel_rfl) (fun _ => by kernel_rfl)
  (RefK.plain [] (by kernel_rfl))
  (fun ⟨x6_2, x7_2, _⟩ => RefK.ret (by kernel_rfl))) (RefK.skip (by kernel_rfl))))
  (fun _ => RefK.seq [(8, .addr)] [0, 2] (fun z_ => [(8, .pointer (some z_.1)), (0, .pointer x0), (2, .int .i64 x2)]) (fun z_ => free_Lists_Take_s12 x0 x2 k z_.1) (by kernel_rfl) (fun _ => by kernel_rfl)
  (RefK.plain [] (by kernel_rfl))
  (fun ⟨x8, _⟩ => RefK.seq [] [0, 8] (fun z_ => [(0, .pointer x0), (8, .pointer (some x8))]) (fun z_ => free_Lists_Take_s6 x0 k x8) (by kernel_rfl) (fun _ => by kernel_rfl)
  (RefK.seq [(26, .bool)] [0, 2, 8] (fun z_ => [(26, .bool z_.1), (0, .pointer x0), (2, .int .i64 x2), (8, .pointer (some x8))]) (fun z_ => free_Lists_Take_s11 x0 x2 k x8 z_.1) (by kernel_rfl) (fun _ => by kernel_rfl)
  (RefK.draw [] [0, 1, 3, 7, 0, 31, 63, 127] [0, 1, 2, 3, 4, 5, 6, 7] [0, 1, 2, 3, 4, 5, 6, 7] (by kernel_rfl) (by kernel_rfl))
  (fun ⟨x26, _⟩ => RefK.cond (b := x26) (t1 := free_Lists_Take_s10 x0 x2 k x8) (t2 := free_Lists_Take_s6 x0 k x8) (by kernel_rfl) (by kernel_rfl) (fun w h => brK_spec w h) (RefK.seq [(9, .int .i64)] [0, 2, 8] (fun z_ => [(9, .int .i64 z_.1), (0, .pointer x0), (2, .int .i64 x2), (8, .pointer (some x8))]) (fun z_ => free_Lists_Take_s9 x0 x2 k x8 z_.1) (by kernel_rfl) (fun _ => by kernel_rfl)
  (RefK.plain [] (by kernel_rfl))
  (fun ⟨x9, _⟩ => RefK.seq [(10, .int .i64)] [0, 2, 8] (fun z_ => [(10, .int .i64 z_.1), (0, .pointer x0), (2, .int .i64 x2), (8, .pointer (some x8))]) (fun z_ => free_Lists_Take_s8 x0 x2 k x8 z_.1) (by kernel_rfl) (fun _ => by kernel_rfl)
  (RefK.plain [] (by kernel_rfl))
  (fun ⟨x10, _⟩ => RefK.seq [] [0, 2, 8, 10] (fun z_ => [(0, .pointer x0), (2, .int .i64 x2), (8, .pointer (some x8)), (10, .int .i64 x10)]) (fun z_ => free_Lists_Take_s7 x0 x2 k x8 x10) (by kernel_rfl) (fun _ => by kernel_rfl)
  (RefK.draw [] [0, 1, 3, 7, 0, 0, 0, 32, 160, 480, 992, 0, 4064, 8160, 16383] [0, 1, 2, 3, 4, 5, 6, 7, 8, 9, 10, 11, 12, 13, 14] [0, 1, 2, 3, 4, 5, 6, 7, 8, 9, 10, 11, 12, 13, 14] (by kernel_rfl) (by kernel_rfl))
  (fun _ => RefK.draw [] [0, 0, 0, 0, 4, 20, 60, 124, 0, 508, 1, 1025, 4095, 8191] [0, 1, 2, 3, 4, 5, 6, 7, 8, 9, 10, 11, 12, 13] [0, 1, 2, 3, 4, 5, 6, 7, 8, 9, 10, 11, 12, 13] (by kernel_rfl) (by kernel_rfl))))) (RefK.skip (by kernel_rfl))))
  (fun _ => RefK.seq [(11, .slice)] [0, 8] (fun z_ => [(11, z_.1.v), (0, .pointer x0), (8, .pointer (some x8))]) (fun z_ => free_Lists_Take_s5 x0 k x8 z_.1) (by kernel_rfl) (fun _ => by kernel_rfl)
  (RefK.draw [] [0, 1, 3, 7, 0, 31, 63] [0, 1, 2, 3, 4, 5, 6] [0, 1, 2, 3, 4, 5, 6] (by kernel_rfl) (by kernel_rfl))
  (fun ⟨x11, _⟩ => RefK.seq [] [0, 8, 11] (fun z_ => [(0, .pointer x0), (8, .pointer (some x8)), (11, x11.v)]) (fun z_ => free_Lists_Take_s2 x0 k x8 x11) (by kernel_rfl) (fun _ => by kernel_rfl)
  (RefK.seq [(79, .bool)] [0, 8, 11] (fun z_ => [(79, .bool z_.1), (0, .pointer x0), (8, .pointer (some x8)), (11, x11.v)]) (fun z_ => free_Lists_Take_s4 x0 k x8 x11 z_.1) (by kernel_rfl) (fun _ => by kernel_rfl)
  (RefK.plain [] (by kernel_rfl))
  (fun ⟨x79, _⟩ => RefK.cond (b := x79) (t1 := free_Lists_Take_s3 k 0 4) (t2 := free_Lists_Take_s2 x0 k x8 x11) (by kernel_rfl) (by kernel_rfl) (fun w h => brK_spec w h) (RefK.seq [(6, .int .i64), (7, .int .i64)] [] (fun z_ => [(6, .int .i64 z_.1), (7, .int .i64 z_.2.1)]) (fun z_ => free_Lists_Take_s3 k z_.1 z_.2.1) (by kernel_rfl) (fun _ => by kernel_rfl)
  (RefK.plain [] (by kernel_rfl))
  (fun ⟨x6_1, x7_1, _⟩ => RefK.ret (by kernel_rfl))) (RefK.skip (by kernel_rfl))))
  (fun _ => RefK.seq [] [11] (fun z_ => [(11, x11.v)]) (fun z_ => free_Lists_Take_s1 k x11) (by kernel_rfl) (fun _ => by kernel_rfl)
  (RefK.draw [] [0, 1, 3, 7, 0, 0, 0, 64, 192, 480, 1023] [0, 1, 2, 3, 4, 5, 6, 7, 8, 9, 10] [0, 1, 2, 3, 4, 5, 6, 7, 8, 9, 10] (by kernel_rfl) (by kernel_rfl))
  (fun _ => RefK.seq [(6, .int .i64), (7, .int .i64)] [] (fun z_ => [(6, .int .i64 z_.1), (7, .int .i64 z_.2.1)]) (fun z_ => free_Lists_Take_s0 k z_.1 z_.2.1) (by kernel_rfl) (fun _ => by kernel_rfl)
  (RefK.plain [] (by kernel_rfl))
  (fun ⟨x6, x7, _⟩ => RefK.ret (by kernel_rfl)))))))))) hyp_
@[reducible] def bman_Manager_Small_s0 (k : ((Int × Int) → K)) (x4 : Int) (x5 : Int) : K :=
  k (x4, x5)
@[reducible] def bman_Manager_Small_s1 (k : ((Int × Int) → K)) (x4_1 : Int) (x5_1 : Int) : K :=
  k (x4_1, x5_1)
@[reducible] def bman_Manager_Small_s2 (k : ((Int × Int) → K)) (b : Int) (e_1 : Int) (x35 : Bool) : K :=
  brK x35
  (bman_Manager_Small_s1 k 0 e_1)
  (bman_Manager_Small_s0 k b 0)
@[reducible] def bman_Manager_Small_s3 (k : ((Int × Int) → K)) (b : Int) (e_1 : Int) : K :=
  bman_Manager_Small_s2 k b e_1 (e_1 != 0)
@[reducible] def bman_Manager_Small_s4 (m : (Option Addr)) (k : ((Int × Int) → K)) (h : Addr) (b : Int) : K :=
  tick fun _ =>
  nn m fun x27 =>
  ldP (Addr.add x27 0) fun x29 =>
  ldI .i64 (Addr.add h 0) fun x31_0 =>
  ldI .i64 (Addr.add h 1) fun x31_1 =>
  ldI .i64 (Addr.add h 2) fun x31_2 =>
  alK (.cells #[.int .i64 x31_0, .int .i64 x31_1, .int .i64 x31_2] 143) fun b_1 =>
  c_blocks_Table_Put x29 b ⟨(some ⟨b_1, 0, none⟩), 1, 1⟩ fun x33 =>
  bman_Manager_Small_s3 k b x33
@[reducible] def bman_Manager_Small_s5 (k : ((Int × Int) → K)) (x4_2 : Int) (x5_2 : Int) : K :=
  k (x4_2, x5_2)
@[reducible] def bman_Manager_Small_s6 (m : (Option Addr)) (k : ((Int × Int) → K)) (h : Addr) (b : Int) (e : Int) (x24 : Bool) : K :=
  brK x24
  (bman_Manager_Small_s5 k 0 e)
  (bman_Manager_Small_s4 m k h b)
@[reducible] def bman_Manager_Small_s7 (m : (Option Addr)) (k : ((Int × Int) → K)) (h : Addr) (b : Int) (e : Int) : K :=
  bman_Manager_Small_s6 m k h b e (e != 0)
@[reducible] def bman_Manager_Small_s8 (m : (Option Addr)) (k : ((Int × Int) → K)) (h : Addr) : K :=
  nn m fun x17 =>
  ldP (Addr.add x17 1) fun x19 =>
  c_runs_Index_Take x19 1 fun x20 =>
  bman_Manager_Small_s7 m k h x20.1 x20.2
@[reducible] def bman_Manager_Small_s9 (k : ((Int × Int) → K)) (x4_3 : Int) (x5_3 : Int) : K :=
  k (x4_3, x5_3)
@[reducible] def bman_Manager_Small_s10 (m : (Option Addr)) (k : ((Int × Int) → K)) (h : Addr) (x14 : Bool) : K :=
  brK x14
  (bman_Manager_Small_s9 k 0 1)
  (bman_Manager_Small_s8 m k h)
@[reducible] def bman_Manager_Small_s11 (m : (Option Addr)) (k : ((Int × Int) → K)) (h : Addr) : K :=
  ldI .i64 (Addr.add h 0) fun x12_0 =>
  ldI .i64 (Addr.add h 1) fun x12_1 =>
  ldI .i64 (Addr.add h 2) fun x12_2 =>
  c_bhead_Header_Right (x12_0, (x12_1, x12_2)) fun x13 =>
  bman_Manager_Small_s10 m k h (!x13)
@[reducible] def bman_Manager_Small_s12 (m : (Option Addr)) (k_1 : Int) (k : ((Int × Int) → K)) : K :=
  alK (.cells #[.int .i64 0, .int .i64 0, .int .i64 0] 143) fun b_2 =>
  stK (Addr.add ⟨b_2, 0, none⟩ 0) (.int .i64 1) <|
  stK (Addr.add ⟨b_2, 0, none⟩ 1) (.int .i64 k_1) <|
  stK (Addr.add ⟨b_2, 0, none⟩ 2) (.int .i64 0) <|
  bman_Manager_Small_s11 m k ⟨b_2, 0, none⟩
@[reducible] def bman_Manager_Small (m : (Option Addr)) (k_1 : Int) : M (Int × Int) := fun k =>
  bman_Manager_Small_s12 m k_1 k
theorem bman_Manager_Small_ok (m : (Option Addr)) (k_1 : Int) (k : (Int × Int) → K) (w : World) (hyp_ : bman_Manager_Small m k_1 k w) : c_bman_Manager_Small m k_1 k w :=
  cl_of (P := Tryz.prog) Tryz.func151 rfl (by kernel_rfl)
  (RefK.seq [] [0, 1] (fun z_ => [(0, .pointer m), (1, .int .i64 k_1)]) (fun z_ => bman_Manager_Small_s12 m k_1 k) (by kernel_rfl) (fun _ => by kernel_rfl)
  (RefK.plain [] (by kernel_rfl))
  (fun _ => RefK.seq [(6, .addr)] [0] (fun z_ => [(6, .pointer (some z_.1)), (0, .pointer m)]) (fun z_ => bman_Manager_Small_s11 m k z_.1) (by kernel_rfl) (fun _ => by kernel_rfl)
  (RefK.plain [] (by kernel_rfl))
  (fun ⟨h, _⟩ => RefK.seq [] [0, 6] (fun z_ => [(0, .pointer m), (6, .pointer (some h))]) (fun z_ => bman_Manager_Small_s8 m k h) (by kernel_rfl) (fun _ => by kernel_rfl)
  (RefK.seq [(14, .bool)] [0, 6] (fun z_ => [(14, .bool z_.1), (0, .pointer m), (6, .pointer (some h))]) (fun z_ => bman_Manager_Small_s10 m k h z_.1) (by kernel_rfl) (fun _ => by kernel_rfl)
  (RefK.plain [] (by kernel_rfl))
  (fun ⟨x14, _⟩ => RefK.cond (b := x14) (t1 := bman_Manager_Small_s9 k 0 1) (t2 := bman_Manager_Small_s8 m k h) (by kernel_rfl) (by kernel_rfl) (fun w h => brK_spec w h) (RefK.seq [(4, .int .i64), (5, .int .i64)] [] (fun z_ => [(4, .int .i64 z_.1), (5, .int .i64 z_.2.1)]) (fun z_ => bman_Manager_Small_s9 k z_.1 z_.2.1) (by kernel_rfl) (fun _ => by kernel_rfl)
  (RefK.plain [] (by kernel_rfl))
  (fun ⟨x4_3, x5_3, _⟩ => RefK.ret (by kernel_rfl))) (RefK.skip (by kernel_rfl))))
  (fun _ => RefK.seq [(7, .int .i64), (8, .int .i64)] [0, 6] (fun z_ => [(7, .int .i64 z_.1), (8, .int .i64 z_.2.1), (0, .pointer m), (6, .pointer (some h))]) (fun z_ => bman_Manager_Small_s7 m k h z_.1 z_.2.1) (by kernel_rfl) (fun _ => by kernel_rfl)
  (RefK.plain [] (by kernel_rfl))
  (fun ⟨b, e, _⟩ => RefK.seq [] [0, 6, 7] (fun z_ => [(0, .pointer m), (6, .pointer (some h)), (7, .int .i64 b)]) (fun z_ => bman_Manager_Small_s4 m k h b) (by kernel_rfl) (fun _ => by kernel_rfl)
  (RefK.seq [(24, .bool)] [0, 6, 7, 8] (fun z_ => [(24, .bool z_.1), (0, .pointer m), (6, .pointer (some h)), (7, .int .i64 b), (8, .int .i64 e)]) (fun z_ => bman_Manager_Small_s6 m k h b e z_.1) (by kernel_rfl) (fun _ => by kernel_rfl)
  (RefK.plain [] (by kernel_rfl))
  (fun ⟨x24, _⟩ => RefK.cond (b := x24) (t1 := bman_Manager_Small_s5 k 0 e) (t2 := bman_Manager_Small_s4 m k h b) (by kernel_rfl) (by kernel_rfl) (fun w h => brK_spec w h) (RefK.seq [(4, .int .i64), (5, .int .i64)] [] (fun z_ => [(4, .int .i64 z_.1), (5, .int .i64 z_.2.1)]) (fun z_ => bman_Manager_Small_s5 k z_.1 z_.2.1) (by kernel_rfl) (fun _ => by kernel_rfl)
  (RefK.plain [] (by kernel_rfl))
  (fun ⟨x4_2, x5_2, _⟩ => RefK.ret (by kernel_rfl))) (RefK.skip (by kernel_rfl))))
  (fun _ => RefK.seq [] [7] (fun z_ => [(7, .int .i64 b)]) (fun z_ => bman_Manager_Small_s0 k b 0) (by kernel_rfl) (fun _ => by kernel_rfl)
  (RefK.seq [(9, .int .i64)] [7] (fun z_ => [(9, .int .i64 z_.1), (7, .int .i64 b)]) (fun z_ => bman_Manager_Small_s3 k b z_.1) (by kernel_rfl) (fun _ => by kernel_rfl)
  (RefK.draw [] [0, 1, 3, 7, 0, 0, 32, 127, 255] [0, 1, 2, 3, 4, 5, 6, 7, 8] [0, 1, 2, 3, 4, 5, 6, 7, 8] (by kernel_rfl) (by kernel_rfl))
  (fun ⟨e_1, _⟩ => RefK.seq [(35, .bool)] [7, 9] (fun z_ => [(35, .bool z_.1), (7, .int .i64 b), (9, .int .i64 e_1)]) (fun z_ => bman_Manager_Small_s2 k b e_1 z_.1) (by kernel_rfl) (fun _ => by kernel_rfl)
  (RefK.plain [] (by kernel_rfl))
  (fun ⟨x35, _⟩ => RefK.cond (b := x35) (t1 := bman_Manager_Small_s1 k 0 e_1) (t2 := bman_Manager_Small_s0 k b 0) (by kernel_rfl) (by kernel_rfl) (fun w h => brK_spec w h) (RefK.seq [(4, .int .i64), (5, .int .i64)] [] (fun z_ => [(4, .int .i64 z_.1), (5, .int .i64 z_.2.1)]) (fun z_ => bman_Manager_Small_s1 k z_.1 z_.2.1) (by kernel_rfl) (fun _ => by kernel_rfl)
  (RefK.plain [] (by kernel_rfl))
  (fun ⟨x4_1, x5_1, _⟩ => RefK.ret (by kernel_rfl))) (RefK.skip (by kernel_rfl)))))
  (fun _ => RefK.seq [(4, .int .i64), (5, .int .i64)] [] (fun z_ => [(4, .int .i64 z_.1), (5, .int .i64 z_.2.1)]) (fun z_ => bman_Manager_Small_s0 k z_.1 z_.2.1) (by kernel_rfl) (fun _ => by kernel_rfl)
  (RefK.plain [] (by kernel_rfl))
  (fun ⟨x4, x5, _⟩ => RefK.ret (by kernel_rfl))))))))) hyp_
@[reducible] def runs_Index_Longest_s0 (k : (Int → K)) (x2 : Int) : K :=
  k x2
@[reducible] def runs_Index_Longest_s1 (k : (Int → K)) (n_1 : Int) : K :=
  runs_Index_Longest_s0 k n_1
@[reducible] def runs_Index_Longest_s2 (n_2 : Int) (c : ((Int × Unit) → K)) (k_1 : Int) : K :=
  c ((max2I n_2 k_1), ())
@[reducible] def runs_Index_Longest_s3 (x10 : (Option Addr)) (n_2 : Int) (c : ((Int × Unit) → K)) : K :=
  semT Tryz.prog (Instr.entry (.pointer x10)) (.tup [.sc (.any), .sc (.any)]) fun e =>
  decSh (.int .i64) e.2 fun x14 =>
  runs_Index_Longest_s2 n_2 c x14
@[reducible] def runs_Index_Longest_s4 (k : (Int → K)) (x10 : (Option Addr)) (n_2 : Int) (c : ((Int × Unit) → K)) (x12 : Bool) : K :=
  brK x12
  (runs_Index_Longest_s3 x10 n_2 c)
  (runs_Index_Longest_s1 k n_2)
@[reducible] def runs_Index_Longest_l5 (k : (Int → K)) (x10 : (Option Addr)) (n_2 : Int) (c : ((Int × Unit) → K)) : K :=
  nextM Tryz.prog (Instr.next (.pointer x10) false 0) fun go rest =>
  runs_Index_Longest_s4 k x10 n_2 c go
@[reducible] def runs_Index_Longest_s6 (k : (Int → K)) (n : Int) (x10 : (Option Addr)) : K :=
  lp (fun (z_ : (Int × Unit)) c_ => runs_Index_Longest_l5 k x10 z_.1 c_) (n, ())
@[reducible] def runs_Index_Longest_s7 (x : (Option Addr)) (k : (Int → K)) (n : Int) : K :=
  nn x fun x7 =>
  ldM (Addr.add x7 0) fun x9 =>
  semT Tryz.prog (Instr.range 240 (.map x9)) (.one (.sc (.ptr))) fun it =>
  runs_Index_Longest_s6 k n it
@[reducible] def runs_Index_Longest (x : (Option Addr)) : M Int := fun k =>
  runs_Index_Longest_s7 x k 0
theorem runs_Index_Longest_ok (x : (Option Addr)) (k : Int → K) (w : World) (hyp_ : runs_Index_Longest x k w) : c_runs_Index_Longest x k w :=
  cl_of (P := Tryz.prog) Tryz.func156 rfl (by kernel_rfl)
  (RefK.seq [] [0] (fun z_ => [(0, .pointer x)]) (fun z_ => runs_Index_Longest_s7 x k 0) (by kernel_rfl) (fun _ => by kernel_rfl)
  (RefK.plain [] (by kernel_rfl))
  (fun _ => RefK.seq [(3, .int .i64)] [0] (fun z_ => [(3, .int .i64 z_.1), (0, .pointer x)]) (fun z_ => runs_Index_Longest_s7 x k z_.1) (by kernel_rfl) (fun _ => by kernel_rfl)
  (RefK.plain [] (by kernel_rfl))
  (fun ⟨n, _⟩ => RefK.seq [(3, .int .i64)] [] (fun z_ => [(3, .int .i64 z_.1)]) (fun z_ => runs_Index_Longest_s1 k z_.1) (by kernel_rfl) (fun _ => by kernel_rfl)
  (RefK.seq [(10, .ptr)] [3] (fun z_ => [(10, .pointer z_.1), (3, .int .i64 n)]) (fun z_ => runs_Index_Longest_s6 k n z_.1) (by kernel_rfl) (fun _ => by kernel_rfl)
  (RefK.plain [] (by kernel_rfl))
  (fun ⟨x10, _⟩ => RefK.block (RefK.loop [(3, .int .i64)] [10] (fun z_ => [(3, .int .i64 z_.1), (10, .pointer x10)]) (fun (z_ : (Int × Unit)) c_ => runs_Index_Longest_l5 k x10 z_.1 c_) (n, ()) (by kernel_rfl) (fun _ => by kernel_rfl) (by kernel_rfl) (by kernel_rfl)
  (fun ⟨n_2, _⟩ c => RefK.seq [(12, .bool)] [3, 10] (fun z_ => [(12, .bool z_.1), (3, .int .i64 n_2), (10, .pointer x10)]) (fun z_ => runs_Index_Longest_s4 k x10 n_2 c z_.1) (by kernel_rfl) (fun _ => by kernel_rfl)
  (RefK.plain [] (by kernel_rfl))
  (fun ⟨x12, _⟩ => RefK.seq [] [3, 10] (fun z_ => [(3, .int .i64 n_2), (10, .pointer x10)]) (fun z_ => runs_Index_Longest_s3 x10 n_2 c) (by kernel_rfl) (fun _ => by kernel_rfl)
  (RefK.cond (b := x12) (t1 := runs_Index_Longest_s3 x10 n_2 c) (t2 := runs_Index_Longest_s1 k n_2) (by kernel_rfl) (by kernel_rfl) (fun w h => brK_spec w h) (RefK.skip (by kernel_rfl)) (RefK.exit (by kernel_rfl)))
  (fun _ => RefK.block (RefK.seq [(5, .int .i64)] [3, 10] (fun z_ => [(5, .int .i64 z_.1), (3, .int .i64 n_2), (10, .pointer x10)]) (fun z_ => runs_Index_Longest_s2 n_2 c z_.1) (by kernel_rfl) (fun _ => by kernel_rfl)
  (RefK.plain [] (by kernel_rfl))
  (fun ⟨k_1, _⟩ => RefK.plain [] (by kernel_rfl)))))))))
  (fun ⟨n_1, _⟩ => RefK.seq [(2, .int .i64)] [] (fun z_ => [(2, .int .i64 z_.1)]) (fun z_ => runs_Index_Longest_s0 k z_.1) (by kernel_rfl) (fun _ => by kernel_rfl)
  (RefK.plain [] (by kernel_rfl))
  (fun ⟨x2, _⟩ => RefK.ret (by kernel_rfl)))))) hyp_
@[reducible] def free_Lists_List_s0 (k : (Sl → K)) (x4 : Sl) : K :=
  k x4
@[reducible] def free_Lists_List_s1 (k : (Sl → K)) (out_1 : Sl) : K :=
  c_slices_Sort_Sint_int out_1 fun x32 =>
  free_Lists_List_s0 k out_1
@[reducible] def free_Lists_List_s2 (x17_1 : Int) (c : ((Sl × Int × Unit) → K)) (out_3 : Sl) : K :=
  c (out_3, (IntKind.wrap .i64 (x17_1 + 1)), ())
@[reducible] def free_Lists_List_s3 (l : (Option Addr)) (k_1 : Int) (out_2 : Sl) (x17_1 : Int) (c : ((Sl × Int × Unit) → K)) (m : Int) : K :=
  nn l fun x22 =>
  ldM (Addr.add x22 32) fun x24 =>
  lkE Tryz.prog 201 (.slice none 0 0) (.sc (.slice)) x24 (.agg #[.int .i64 m, .int .i64 k_1]) fun r ob x28 ok =>
  semT Tryz.prog (Builtin.append_ #[27, 27] 27 #[out_2.v, x28.v]) (.one (.sc (.slice))) fun x29 =>
  free_Lists_List_s2 x17_1 c x29
@[reducible] def free_Lists_List_s4 (l : (Option Addr)) (k_1 : Int) (k : (Sl → K)) (out_2 : Sl) (x17_1 : Int) (c : ((Sl × Int × Unit) → K)) (x18 : Bool) : K :=
  brK x18
  (free_Lists_List_s3 l k_1 out_2 x17_1 c x17_1)
  (free_Lists_List_s1 k out_2)
@[reducible] def free_Lists_List_l5 (l : (Option Addr)) (k_1 : Int) (k : (Sl → K)) (out_2 : Sl) (x17_1 : Int) (c : ((Sl × Int × Unit) → K)) : K :=
  free_Lists_List_s4 l k_1 k out_2 x17_1 c (decide (x17_1 < 4))
@[reducible] def free_Lists_List_s6 (l : (Option Addr)) (k_1 : Int) (k : (Sl → K)) (out : Sl) (x17 : Int) : K :=
  lp (fun (z_ : (Sl × Int × Unit)) c_ => free_Lists_List_l5 l k_1 k z_.1 z_.2.1 c_) (out, x17, ())
@[reducible] def free_Lists_List_s7 (l : (Option Addr)) (k_1 : Int) (k : (Sl → K)) (out : Sl) : K :=
  free_Lists_List_s6 l k_1 k out 0
@[reducible] def free_Lists_List_s8 (l : (Option Addr)) (k_1 : Int) (k : (Sl → K)) : K :=
  nn l fun x12 =>
  ixA (Addr.add x12 0) 32 k_1 1 fun x14 =>
  ldS x14 fun x15 =>
  c_slices_Clone_Sint_int x15 fun x16 =>
  free_Lists_List_s7 l k_1 k x16
@[reducible] def free_Lists_List_s9 (k : (Sl → K)) (x4_1 : Sl) : K :=
  k x4_1
@[reducible] def free_Lists_List_s10 (l : (Option Addr)) (k_1 : Int) (k : (Sl → K)) (x9 : Bool) : K :=
  brK x9
  (free_Lists_List_s9 k ⟨none, 0, 0⟩)
  (free_Lists_List_s8 l k_1 k)
@[reducible] def free_Lists_List_s11 (l : (Option Addr)) (k_1 : Int) (k : (Sl → K)) : K :=
  c_class_Right k_1 fun x8 =>
  free_Lists_List_s10 l k_1 k (!x8)
@[reducible] def free_Lists_List (l : (Option Addr)) (k_1 : Int) : M Sl := fun k =>
  free_Lists_List_s11 l k_1 k
theorem free_Lists_List_ok (l : (Option Addr)) (k_1 : Int) (k : Sl → K) (w : World) (hyp_ : free_Lists_List l k_1 k w) : c_free_Lists_List l k_1 k w :=
  cl_of (P := Tryz.prog) Tryz.func157 rfl (by kernel_rfl)
  (RefK.seq [] [0, 1] (fun z_ => [(0, .pointer l), (1, .int .i64 k_1)]) (fun z_ => free_Lists_List_s11 l k_1 k) (by kernel_rfl) (fun _ => by kernel_rfl)
  (RefK.plain [] (by kernel_rfl))
  (fun _ => RefK.seq [] [0, 1] (fun z_ => [(0, .pointer l), (1, .int .i64 k_1)]) (fun z_ => free_Lists_List_s8 l k_1 k) (by kernel_rfl) (fun _ => by kernel_rfl)
  (RefK.seq [(9, .bool)] [0, 1] (fun z_ => [(9, .bool z_.1), (0, .pointer l), (1, .int .i64 k_1)]) (fun z_ => free_Lists_List_s10 l k_1 k z_.1) (by kernel_rfl) (fun _ => by kernel_rfl)
  (RefK.plain [] (by kernel_rfl))
  (fun ⟨x9, _⟩ => RefK.cond (b := x9) (t1 := free_Lists_List_s9 k ⟨none, 0, 0⟩) (t2 := free_Lists_List_s8 l k_1 k) (by kernel_rfl) (by kernel_rfl) (fun w h => brK_spec w h) (RefK.seq [(4, .slice)] [] (fun z_ => [(4, z_.1.v)]) (fun z_ => free_Lists_List_s9 k z_.1) (by kernel_rfl) (fun _ => by kernel_rfl)
  (RefK.plain [] (by kernel_rfl))
  (fun ⟨x4_1, _⟩ => RefK.ret (by kernel_rfl))) (RefK.skip (by kernel_rfl))))
  (fun _ => RefK.seq [(5, .slice)] [0, 1] (fun z_ => [(5, z_.1.v), (0, .pointer l), (1, .int .i64 k_1)]) (fun z_ => free_Lists_List_s7 l k_1 k z_.1) (by kernel_rfl) (fun _ => by kernel_rfl)
  (RefK.plain [] (by kernel_rfl))
  (fun ⟨out, _⟩ => RefK.seq [(5, .slice)] [] (fun z_ => [(5, z_.1.v)]) (fun z_ => free_Lists_List_s1 k z_.1) (by kernel_rfl) (fun _ => by kernel_rfl)
  (RefK.seq [(17, .int .i64)] [0, 1, 5] (fun z_ => [(17, .int .i64 z_.1), (0, .pointer l), (1, .int .i64 k_1), (5, out.v)]) (fun z_ => free_Lists_List_s6 l k_1 k out z_.1) (by kernel_rfl) (fun _ => by kernel_rfl)
  (RefK.plain [] (by kernel_rfl))
  (fun ⟨x17, _⟩ => RefK.block (RefK.loop [(5, .slice), (17, .int .i64)] [0, 1] (fun z_ => [(5, z_.1.v), (17, .int .i64 z_.2.1), (0, .pointer l), (1, .int .i64 k_1)]) (fun (z_ : (Sl × Int × Unit)) c_ => free_Lists_List_l5 l k_1 k z_.1 z_.2.1 c_) (out, x17, ()) (by kernel_rfl) (fun _ => by kernel_rfl) (by kernel_rfl) (by kernel_rfl)
  (fun ⟨out_2, x17_1, _⟩ c => RefK.seq [(18, .bool)] [0, 1, 5, 17] (fun z_ => [(18, .bool z_.1), (0, .pointer l), (1, .int .i64 k_1), (5, out_2.v), (17, .int .i64 x17_1)]) (fun z_ => free_Lists_List_s4 l k_1 k out_2 x17_1 c z_.1) (by kernel_rfl) (fun _ => by kernel_rfl)
  (RefK.plain [] (by kernel_rfl))
  (fun ⟨x18, _⟩ => RefK.seq [] [0, 1, 5, 17] (fun z_ => [(0, .pointer l), (1, .int .i64 k_1), (5, out_2.v), (17, .int .i64 x17_1)]) (fun z_ => free_Lists_List_s3 l k_1 out_2 x17_1 c x17_1) (by kernel_rfl) (fun _ => by kernel_rfl)
  (RefK.cond (b := x18) (t1 := free_Lists_List_s3 l k_1 out_2 x17_1 c x17_1) (t2 := free_Lists_List_s1 k out_2) (by kernel_rfl) (by kernel_rfl) (fun w h => brK_spec w h) (RefK.skip (by kernel_rfl)) (RefK.exit (by kernel_rfl)))
  (fun _ => RefK.seq [(5, .slice)] [0, 1, 17] (fun z_ => [(5, z_.1.v), (0, .pointer l), (1, .int .i64 k_1), (17, .int .i64 x17_1)]) (fun z_ => free_Lists_List_s2 x17_1 c z_.1) (by kernel_rfl) (fun _ => by kernel_rfl)
  (RefK.block (RefK.seq [(6, .int .i64)] [0, 1, 5, 17] (fun z_ => [(6, .int .i64 z_.1), (0, .pointer l), (1, .int .i64 k_1), (5, out_2.v), (17, .int .i64 x17_1)]) (fun z_ => free_Lists_List_s3 l k_1 out_2 x17_1 c z_.1) (by kernel_rfl) (fun _ => by kernel_rfl)
  (RefK.plain [] (by kernel_rfl))
  (fun ⟨m, _⟩ => RefK.plain [] (by kernel_rfl))))
  (fun ⟨out_3, _⟩ => RefK.plain [] (by kernel_rfl))))))))
  (fun ⟨out_1, _⟩ => RefK.seq [] [5] (fun z_ => [(5, out_1.v)]) (fun z_ => free_Lists_List_s0 k out_1) (by kernel_rfl) (fun _ => by kernel_rfl)
  (RefK.plain [] (by kernel_rfl))
  (fun _ => RefK.seq [(4, .slice)] [] (fun z_ => [(4, z_.1.v)]) (fun z_ => free_Lists_List_s0 k z_.1) (by kernel_rfl) (fun _ => by kernel_rfl)
  (RefK.plain [] (by kernel_rfl))
  (fun ⟨x4, _⟩ => RefK.ret (by kernel_rfl)))))))) hyp_
@[reducible] def runs_Index_Total_s0 (k : (Int → K)) (x2 : Int) : K :=
  k x2
@[reducible] def runs_Index_Total_s1 (k : (Int → K)) (n_1 : Int) : K :=
  runs_Index_Total_s0 k n_1
@[reducible] def runs_Index_Total_s2 (n_2 : Int) (c : ((Int × Unit) → K)) (k_1 : Int) : K :=
  c ((IntKind.wrap .i64 (n_2 + k_1)), ())
@[reducible] def runs_Index_Total_s3 (x10 : (Option Addr)) (n_2 : Int) (c : ((Int × Unit) → K)) : K :=
  semT Tryz.prog (Instr.entry (.pointer x10)) (.tup [.sc (.any), .sc (.any)]) fun e =>
  decSh (.int .i64) e.2 fun x14 =>
  runs_Index_Total_s2 n_2 c x14
@[reducible] def runs_Index_Total_s4 (k : (Int → K)) (x10 : (Option Addr)) (n_2 : Int) (c : ((Int × Unit) → K)) (x12 : Bool) : K :=
  brK x12
  (runs_Index_Total_s3 x10 n_2 c)
  (runs_Index_Total_s1 k n_2)
@[reducible] def runs_Index_Total_l5 (k : (Int → K)) (x10 : (Option Addr)) (n_2 : Int) (c : ((Int × Unit) → K)) : K :=
  nextM Tryz.prog (Instr.next (.pointer x10) false 0) fun go rest =>
  runs_Index_Total_s4 k x10 n_2 c go
@[reducible] def runs_Index_Total_s6 (k : (Int → K)) (n : Int) (x10 : (Option Addr)) : K :=
  lp (fun (z_ : (Int × Unit)) c_ => runs_Index_Total_l5 k x10 z_.1 c_) (n, ())
@[reducible] def runs_Index_Total_s7 (x : (Option Addr)) (k : (Int → K)) (n : Int) : K :=
  nn x fun x7 =>
  ldM (Addr.add x7 0) fun x9 =>
  semT Tryz.prog (Instr.range 240 (.map x9)) (.one (.sc (.ptr))) fun it =>
  runs_Index_Total_s6 k n it
@[reducible] def runs_Index_Total (x : (Option Addr)) : M Int := fun k =>
  runs_Index_Total_s7 x k 0
theorem runs_Index_Total_ok (x : (Option Addr)) (k : Int → K) (w : World) (hyp_ : runs_Index_Total x k w) : c_runs_Index_Total x k w :=
  cl_of (P := Tryz.prog) Tryz.func160 rfl (by kernel_rfl)
  (RefK.seq [] [0] (fun z_ => [(0, .pointer x)]) (fun z_ => runs_Index_Total_s7 x k 0) (by kernel_rfl) (fun _ => by kernel_rfl)
  (RefK.plain [] (by kernel_rfl))
  (fun _ => RefK.seq [(3, .int .i64)] [0] (fun z_ => [(3, .int .i64 z_.1), (0, .pointer x)]) (fun z_ => runs_Index_Total_s7 x k z_.1) (by kernel_rfl) (fun _ => by kernel_rfl)
  (RefK.plain [] (by kernel_rfl))
  (fun ⟨n, _⟩ => RefK.seq [(3, .int .i64)] [] (fun z_ => [(3, .int .i64 z_.1)]) (fun z_ => runs_Index_Total_s1 k z_.1) (by kernel_rfl) (fun _ => by kernel_rfl)
  (RefK.seq [(10, .ptr)] [3] (fun z_ => [(10, .pointer z_.1), (3, .int .i64 n)]) (fun z_ => runs_Index_Total_s6 k n z_.1) (by kernel_rfl) (fun _ => by kernel_rfl)
  (RefK.plain [] (by kernel_rfl))
  (fun ⟨x10, _⟩ => RefK.block (RefK.loop [(3, .int .i64)] [10] (fun z_ => [(3, .int .i64 z_.1), (10, .pointer x10)]) (fun (z_ : (Int × Unit)) c_ => runs_Index_Total_l5 k x10 z_.1 c_) (n, ()) (by kernel_rfl) (fun _ => by kernel_rfl) (by kernel_rfl) (by kernel_rfl)
  (fun ⟨n_2, _⟩ c => RefK.seq [(12, .bool)] [3, 10] (fun z_ => [(12, .bool z_.1), (3, .int .i64 n_2), (10, .pointer x10)]) (fun z_ => runs_Index_Total_s4 k x10 n_2 c z_.1) (by kernel_rfl) (fun _ => by kernel_rfl)
  (RefK.plain [] (by kernel_rfl))
  (fun ⟨x12, _⟩ => RefK.seq [] [3, 10] (fun z_ => [(3, .int .i64 n_2), (10, .pointer x10)]) (fun z_ => runs_Index_Total_s3 x10 n_2 c) (by kernel_rfl) (fun _ => by kernel_rfl)
  (RefK.cond (b := x12) (t1 := runs_Index_Total_s3 x10 n_2 c) (t2 := runs_Index_Total_s1 k n_2) (by kernel_rfl) (by kernel_rfl) (fun w h => brK_spec w h) (RefK.skip (by kernel_rfl)) (RefK.exit (by kernel_rfl)))
  (fun _ => RefK.block (RefK.seq [(5, .int .i64)] [3, 10] (fun z_ => [(5, .int .i64 z_.1), (3, .int .i64 n_2), (10, .pointer x10)]) (fun z_ => runs_Index_Total_s2 n_2 c z_.1) (by kernel_rfl) (fun _ => by kernel_rfl)
  (RefK.plain [] (by kernel_rfl))
  (fun ⟨k_1, _⟩ => RefK.plain [] (by kernel_rfl)))))))))
  (fun ⟨n_1, _⟩ => RefK.seq [(2, .int .i64)] [] (fun z_ => [(2, .int .i64 z_.1)]) (fun z_ => runs_Index_Total_s0 k z_.1) (by kernel_rfl) (fun _ => by kernel_rfl)
  (RefK.plain [] (by kernel_rfl))
  (fun ⟨x2, _⟩ => RefK.ret (by kernel_rfl)))))) hyp_
@[reducible] def runs_Index_List_s0 (k : (Sl → K)) (x2 : Sl) : K :=
  k x2
@[reducible] def runs_Index_List_s1 (k : (Sl → K)) (out_1 : Sl) : K :=
  c_slices_SortFunc_Sblocks_Span_blocks_Span out_1 ⟨.func 208, #[], #[]⟩ fun x23 =>
  runs_Index_List_s0 k out_1
@[reducible] def runs_Index_List_s2 (out_2 : Sl) (c : ((Sl × Unit) → K)) (start : Int) (n : Int) : K :=
  alK (.cells #[.int .i64 start, .int .i64 n] 152) fun b =>
  semT Tryz.prog (Builtin.append_ #[150, 150] 150 #[out_2.v, .slice (some ⟨b, 0, none⟩) 1 1]) (.one (.sc (.slice))) fun x21 =>
  c (x21, ())
@[reducible] def runs_Index_List_s3 (x10 : (Option Addr)) (out_2 : Sl) (c : ((Sl × Unit) → K)) : K :=
  semT Tryz.prog (Instr.entry (.pointer x10)) (.tup [.sc (.any), .sc (.any)]) fun e =>
  decSh (.int .i64) e.1 fun x14 =>
  decSh (.int .i64) e.2 fun x15 =>
  runs_Index_List_s2 out_2 c x14 x15
@[reducible] def runs_Index_List_s4 (k : (Sl → K)) (x10 : (Option Addr)) (out_2 : Sl) (c : ((Sl × Unit) → K)) (x12 : Bool) : K :=
  brK x12
  (runs_Index_List_s3 x10 out_2 c)
  (runs_Index_List_s1 k out_2)
@[reducible] def runs_Index_List_l5 (k : (Sl → K)) (x10 : (Option Addr)) (out_2 : Sl) (c : ((Sl × Unit) → K)) : K :=
  nextM Tryz.prog (Instr.next (.pointer x10) false 0) fun go rest =>
  runs_Index_List_s4 k x10 out_2 c go
@[reducible] def runs_Index_List_s6 (k : (Sl → K)) (out : Sl) (x10 : (Option Addr)) : K :=
  lp (fun (z_ : (Sl × Unit)) c_ => runs_Index_List_l5 k x10 z_.1 c_) (out, ())
@[reducible] def runs_Index_List_s7 (x : (Option Addr)) (k : (Sl → K)) (out : Sl) : K :=
  nn x fun x7 =>
  ldM (Addr.add x7 0) fun x9 =>
  semT Tryz.prog (Instr.range 240 (.map x9)) (.one (.sc (.ptr))) fun it =>
  runs_Index_List_s6 k out it
@[reducible] def runs_Index_List (x : (Option Addr)) : M Sl := fun k =>
  runs_Index_List_s7 x k ⟨none, 0, 0⟩
theorem runs_Index_List_ok (x : (Option Addr)) (k : Sl → K) (w : World) (hyp_ : runs_Index_List x k w) : c_runs_Index_List x k w :=
  cl_of (P := Tryz.prog) Tryz.func161 rfl (by kernel_rfl)
  (RefK.seq [] [0] (fun z_ => [(0, .pointer x)]) (fun z_ => runs_Index_List_s7 x k ⟨none, 0, 0⟩) (by kernel_rfl) (fun _ => by kernel_rfl)
  (RefK.plain [] (by kernel_rfl))
  (fun _ => RefK.seq [(3, .slice)] [0] (fun z_ => [(3, z_.1.v), (0, .pointer x)]) (fun z_ => runs_Index_List_s7 x k z_.1) (by kernel_rfl) (fun _ => by kernel_rfl)
  (RefK.plain [] (by kernel_rfl))
  (fun ⟨out, _⟩ => RefK.seq [(3, .slice)] [] (fun z_ => [(3, z_.1.v)]) (fun z_ => runs_Index_List_s1 k z_.1) (by kernel_rfl) (fun _ => by kernel_rfl)
  (RefK.seq [(10, .ptr)] [3] (fun z_ => [(10, .pointer z_.1), (3, out.v)]) (fun z_ => runs_Index_List_s6 k out z_.1) (by kernel_rfl) (fun _ => by kernel_rfl)
  (RefK.plain [] (by kernel_rfl))
  (fun ⟨x10, _⟩ => RefK.block (RefK.loop [(3, .slice)] [10] (fun z_ => [(3, z_.1.v), (10, .pointer x10)]) (fun (z_ : (Sl × Unit)) c_ => runs_Index_List_l5 k x10 z_.1 c_) (out, ()) (by kernel_rfl) (fun _ => by kernel_rfl) (by kernel_rfl) (by kernel_rfl)
  (fun ⟨out_2, _⟩ c => RefK.seq [(12, .bool)] [3, 10] (fun z_ => [(12, .bool z_.1), (3, out_2.v), (10, .pointer x10)]) (fun z_ => runs_Index_List_s4 k x10 out_2 c z_.1) (by kernel_rfl) (fun _ => by kernel_rfl)
  (RefK.plain [] (by kernel_rfl))
  (fun ⟨x12, _⟩ => RefK.seq [] [3, 10] (fun z_ => [(3, out_2.v), (10, .pointer x10)]) (fun z_ => runs_Index_List_s3 x10 out_2 c) (by kernel_rfl) (fun _ => by kernel_rfl)
  (RefK.cond (b := x12) (t1 := runs_Index_List_s3 x10 out_2 c) (t2 := runs_Index_List_s1 k out_2) (by kernel_rfl) (by kernel_rfl) (fun w h => brK_spec w h) (RefK.skip (by kernel_rfl)) (RefK.exit (by kernel_rfl)))
  (fun _ => RefK.block (RefK.seq [(4, .int .i64), (5, .int .i64)] [3, 10] (fun z_ => [(4, .int .i64 z_.1), (5, .int .i64 z_.2.1), (3, out_2.v), (10, .pointer x10)]) (fun z_ => runs_Index_List_s2 out_2 c z_.1 z_.2.1) (by kernel_rfl) (fun _ => by kernel_rfl)
  (RefK.plain [] (by kernel_rfl))
  (fun ⟨start, n, _⟩ => RefK.plain [] (by kernel_rfl)))))))))
  (fun ⟨out_1, _⟩ => RefK.seq [] [3] (fun z_ => [(3, out_1.v)]) (fun z_ => runs_Index_List_s0 k out_1) (by kernel_rfl) (fun _ => by kernel_rfl)
  (RefK.plain [] (by kernel_rfl))
  (fun _ => RefK.seq [(2, .slice)] [] (fun z_ => [(2, z_.1.v)]) (fun z_ => runs_Index_List_s0 k z_.1) (by kernel_rfl) (fun _ => by kernel_rfl)
  (RefK.plain [] (by kernel_rfl))
  (fun ⟨x2, _⟩ => RefK.ret (by kernel_rfl))))))) hyp_
@[reducible] def bman_Sound_s0 (k : ((Int × Bool) → K)) (x2 : Int) (x3 : Bool) : K :=
  k (x2, x3)
@[reducible] def bman_Sound_s1 (c : ((Int × Unit) → K)) (b_2 : Int) : K :=
  c ((IntKind.wrap .i64 (b_2 + 1)), ())
@[reducible] def bman_Sound_s2 (k : ((Int × Bool) → K)) (x2_1 : Int) (x3_1 : Bool) : K :=
  k (x2_1, x3_1)
@[reducible] def bman_Sound_s3 (k : ((Int × Bool) → K)) (b_1 : Int) (c : ((Int × Unit) → K)) (n : Int) (x27 : Bool) : K :=
  brK x27
  (bman_Sound_s2 k b_1 false)
  (bman_Sound_s1 c (IntKind.wrap .i64 (b_1 + (IntKind.wrap .i64 (n - 1)))))
@[reducible] def bman_Sound_s4 (k : ((Int × Bool) → K)) (b_1 : Int) (c : ((Int × Unit) → K)) (n : Int) (ok : Bool) : K :=
  bman_Sound_s3 k b_1 c n (!ok)
@[reducible] def bman_Sound_s5 (k : ((Int × Bool) → K)) (x2_2 : Int) (x3_2 : Bool) : K :=
  k (x2_2, x3_2)
@[reducible] def bman_Sound_s6 (k : ((Int × Bool) → K)) (b_1 : Int) (c : ((Int × Unit) → K)) (x33 : Bool) : K :=
  brK x33
  (bman_Sound_s5 k b_1 false)
  (bman_Sound_s1 c b_1)
@[reducible] def bman_Sound_s7 (list : Sl) (k : ((Int × Bool) → K)) (b_1 : Int) (c : ((Int × Unit) → K)) : K :=
  c_bhead_Whole list b_1 fun x23 =>
  bman_Sound_s4 k b_1 c x23.1 x23.2
@[reducible] def bman_Sound_s8 (list : Sl) (k : ((Int × Bool) → K)) (b_1 : Int) (c : ((Int × Unit) → K)) (x17 : Int) (x18 : Bool) : K :=
  brK x18
  (bman_Sound_s7 list k b_1 c)
  (bman_Sound_s6 k b_1 c (x17 == 3))
@[reducible] def bman_Sound_s9 (list : Sl) (k : ((Int × Bool) → K)) (b_1 : Int) (c : ((Int × Unit) → K)) (x17 : Int) : K :=
  bman_Sound_s8 list k b_1 c x17 (x17 == 2)
@[reducible] def bman_Sound_s10 (list : Sl) (k : ((Int × Bool) → K)) (b_1 : Int) (c : ((Int × Unit) → K)) : K :=
  ixS list.p list.n b_1 3 fun x15 =>
  ldI .i64 (Addr.add x15 0) fun x17_1 =>
  bman_Sound_s9 list k b_1 c x17_1
@[reducible] def bman_Sound_s11 (list : Sl) (k : ((Int × Bool) → K)) (b_1 : Int) (c : ((Int × Unit) → K)) (x10 : Bool) : K :=
  brK x10
  (bman_Sound_s10 list k b_1 c)
  (bman_Sound_s0 k 0 true)
@[reducible] def bman_Sound_l12 (list : Sl) (k : ((Int × Bool) → K)) (b_1 : Int) (c : ((Int × Unit) → K)) : K :=
  bman_Sound_s11 list k b_1 c (decide (b_1 < ((list.n : Nat) : Int)))
@[reducible] def bman_Sound_s13 (list : Sl) (k : ((Int × Bool) → K)) (b : Int) : K :=
  lp (fun (z_ : (Int × Unit)) c_ => bman_Sound_l12 list k z_.1 c_) (b, ())
@[reducible] def bman_Sound (list : Sl) : M (Int × Bool) := fun k =>
  bman_Sound_s13 list k 1
theorem bman_Sound_ok (list : Sl) (k : (Int × Bool) → K) (w : World) (hyp_ : bman_Sound list k w) : c_bman_Sound list k w :=
  cl_of (P := Tryz.prog) Tryz.func167 rfl (by kernel_rfl)
  (RefK.seq [] [0] (fun z_ => [(0, list.v)]) (fun z_ => bman_Sound_s13 list k 1) (by kernel_rfl) (fun _ => by kernel_rfl)
  (RefK.plain [] (by kernel_rfl))
  (fun _ => RefK.seq [] [] (fun z_ => []) (fun z_ => bman_Sound_s0 k 0 true) (by kernel_rfl) (fun _ => by kernel_rfl)
  (RefK.seq [(4, .int .i64)] [0] (fun z_ => [(4, .int .i64 z_.1), (0, list.v)]) (fun z_ => bman_Sound_s13 list k z_.1) (by kernel_rfl) (fun _ => by kernel_rfl)
  (RefK.plain [] (by kernel_rfl))
  (fun ⟨b, _⟩ => RefK.block (RefK.loop [(4, .int .i64)] [0] (fun z_ => [(4, .int .i64 z_.1), (0, list.v)]) (fun (z_ : (Int × Unit)) c_ => bman_Sound_l12 list k z_.1 c_) (b, ()) (by kernel_rfl) (fun _ => by kernel_rfl) (by kernel_rfl) (by kernel_rfl)
  (fun ⟨b_1, _⟩ c => RefK.seq [] [0, 4] (fun z_ => [(0, list.v), (4, .int .i64 b_1)]) (fun z_ => bman_Sound_s10 list k b_1 c) (by kernel_rfl) (fun _ => by kernel_rfl)
  (RefK.seq [(10, .bool)] [0, 4] (fun z_ => [(10, .bool z_.1), (0, list.v), (4, .int .i64 b_1)]) (fun z_ => bman_Sound_s11 list k b_1 c z_.1) (by kernel_rfl) (fun _ => by kernel_rfl)
  (RefK.plain [] (by kernel_rfl))
  (fun ⟨x10, _⟩ => RefK.cond (b := x10) (t1 := bman_Sound_s10 list k b_1 c) (t2 := bman_Sound_s0 k 0 true) (by kernel_rfl) (by kernel_rfl) (fun w h => brK_spec w h) (RefK.skip (by kernel_rfl)) (RefK.exit (by kernel_rfl))))
  (fun _ => RefK.seq [(4, .int .i64)] [0] (fun z_ => [(4, .int .i64 z_.1), (0, list.v)]) (fun z_ => bman_Sound_s1 c z_.1) (by kernel_rfl) (fun _ => by kernel_rfl)
  (RefK.block (RefK.seq [(17, .int .i64)] [0, 4] (fun z_ => [(17, .int .i64 z_.1), (0, list.v), (4, .int .i64 b_1)]) (fun z_ => bman_Sound_s9 list k b_1 c z_.1) (by kernel_rfl) (fun _ => by kernel_rfl)
  (RefK.plain [] (by kernel_rfl))
  (fun ⟨x17, _⟩ => RefK.block (RefK.seq [(18, .bool)] [0, 4, 17] (fun z_ => [(18, .bool z_.1), (0, list.v), (4, .int .i64 b_1), (17, .int .i64 x17)]) (fun z_ => bman_Sound_s8 list k b_1 c x17 z_.1) (by kernel_rfl) (fun _ => by kernel_rfl)
  (RefK.plain [] (by kernel_rfl))
  (fun ⟨x18, _⟩ => RefK.cond (b := x18) (t1 := bman_Sound_s7 list k b_1 c) (t2 := bman_Sound_s6 k b_1 c (x17 == 3)) (by kernel_rfl) (by kernel_rfl) (fun w h => brK_spec w h) (RefK.seq [(5, .int .i64), (6, .bool)] [0, 4] (fun z_ => [(5, .int .i64 z_.1), (6, .bool z_.2.1), (0, list.v), (4, .int .i64 b_1)]) (fun z_ => bman_Sound_s4 k b_1 c z_.1 z_.2.1) (by kernel_rfl) (fun _ => by kernel_rfl)
  (RefK.plain [] (by kernel_rfl))
  (fun ⟨n, ok, _⟩ => RefK.seq [] [0, 4, 5] (fun z_ => [(0, list.v), (4, .int .i64 b_1), (5, .int .i64 n)]) (fun z_ => bman_Sound_s1 c (IntKind.wrap .i64 (b_1 + (IntKind.wrap .i64 (n - 1))))) (by kernel_rfl) (fun _ => by kernel_rfl)
  (RefK.seq [(27, .bool)] [0, 4, 5] (fun z_ => [(27, .bool z_.1), (0, list.v), (4, .int .i64 b_1), (5, .int .i64 n)]) (fun z_ => bman_Sound_s3 k b_1 c n z_.1) (by kernel_rfl) (fun _ => by kernel_rfl)
  (RefK.plain [] (by kernel_rfl))
  (fun ⟨x27, _⟩ => RefK.cond (b := x27) (t1 := bman_Sound_s2 k b_1 false) (t2 := bman_Sound_s1 c (IntKind.wrap .i64 (b_1 + (IntKind.wrap .i64 (n - 1))))) (by kernel_rfl) (by kernel_rfl) (fun w h => brK_spec w h) (RefK.seq [(2, .int .i64), (3, .bool)] [] (fun z_ => [(2, .int .i64 z_.1), (3, .bool z_.2.1)]) (fun z_ => bman_Sound_s2 k z_.1 z_.2.1) (by kernel_rfl) (fun _ => by kernel_rfl)
  (RefK.plain [] (by kernel_rfl))
  (fun ⟨x2_1, x3_1, _⟩ => RefK.ret (by kernel_rfl))) (RefK.skip (by kernel_rfl))))
  (fun _ => RefK.plain [] (by kernel_rfl)))) (RefK.seq [(33, .bool)] [0, 4] (fun z_ => [(33, .bool z_.1), (0, list.v), (4, .int .i64 b_1)]) (fun z_ => bman_Sound_s6 k b_1 c z_.1) (by kernel_rfl) (fun _ => by kernel_rfl)
  (RefK.plain [] (by kernel_rfl))
  (fun ⟨x33, _⟩ => RefK.cond (b := x33) (t1 := bman_Sound_s5 k b_1 false) (t2 := bman_Sound_s1 c b_1) (by kernel_rfl) (by kernel_rfl) (fun w h => brK_spec w h) (RefK.seq [(2, .int .i64), (3, .bool)] [] (fun z_ => [(2, .int .i64 z_.1), (3, .bool z_.2.1)]) (fun z_ => bman_Sound_s5 k z_.1 z_.2.1) (by kernel_rfl) (fun _ => by kernel_rfl)
  (RefK.plain [] (by kernel_rfl))
  (fun ⟨x2_2, x3_2, _⟩ => RefK.ret (by kernel_rfl))) (RefK.skip (by kernel_rfl)))))))))
  (fun ⟨b_2, _⟩ => RefK.plain [] (by kernel_rfl)))))))
  (fun _ => RefK.seq [(2, .int .i64), (3, .bool)] [] (fun z_ => [(2, .int .i64 z_.1), (3, .bool z_.2.1)]) (fun z_ => bman_Sound_s0 k z_.1 z_.2.1) (by kernel_rfl) (fun _ => by kernel_rfl)
  (RefK.plain [] (by kernel_rfl))
  (fun ⟨x2, x3, _⟩ => RefK.ret (by kernel_rfl))))) hyp_
@[reducible] def blocks_Open_s0 (k : (((Option Addr) × Int) → K)) (x4 : Addr) (x5 : Int) : K :=
  k ((some x4), x5)
@[reducible] def blocks_Open_s1 (d : (Option Addr)) (k : (((Option Addr) × Int) → K)) (g_1 : Addr) (list : Sl) : K :=
  ldI .i64 (Addr.add g_1 0) fun x20_0 =>
  alK (.cells #[.pointer d, .int .i64 x20_0, list.v] 125) fun b =>
  blocks_Open_s0 k ⟨b, 0, none⟩ 0
@[reducible] def blocks_Open_s2 (k : (((Option Addr) × Int) → K)) (x4_1 : (Option Addr)) (x5_1 : Int) : K :=
  k (x4_1, x5_1)
@[reducible] def blocks_Open_s3 (d : (Option Addr)) (k : (((Option Addr) × Int) → K)) (g_1 : Addr) (list : Sl) (e : Int) (x17 : Bool) : K :=
  brK x17
  (blocks_Open_s2 k none e)
  (blocks_Open_s1 d k g_1 list)
@[reducible] def blocks_Open_s4 (d : (Option Addr)) (k : (((Option Addr) × Int) → K)) (g_1 : Addr) (list : Sl) (e : Int) : K :=
  blocks_Open_s3 d k g_1 list e (e != 0)
@[reducible] def blocks_Open_s5 (d : (Option Addr)) (k : (((Option Addr) × Int) → K)) (g_1 : Addr) : K :=
  ldI .i64 (Addr.add g_1 0) fun x11_0 =>
  c_blocks_Read d x11_0 fun x12 =>
  blocks_Open_s4 d k g_1 x12.1 x12.2.2
@[reducible] def blocks_Open (d : (Option Addr)) (g : Int) : M ((Option Addr) × Int) := fun k =>
  alK (.cells #[.int .i64 g] 43) fun b_1 =>
  blocks_Open_s5 d k ⟨b_1, 0, none⟩
theorem blocks_Open_ok (d : (Option Addr)) (g : Int) (k : ((Option Addr) × Int) → K) (w : World) (hyp_ : blocks_Open d g k w) : c_blocks_Open d g k w :=
  cl_of (P := Tryz.prog) Tryz.func179 rfl (by kernel_rfl)
  (RefK.seq [(3, .addr)] [0] (fun z_ => [(3, .pointer (some z_.1)), (0, .pointer d)]) (fun z_ => blocks_Open_s5 d k z_.1) (by kernel_rfl) (fun _ => by kernel_rfl)
  (RefK.plain [] (by kernel_rfl))
  (fun ⟨g_1, _⟩ => RefK.seq [(6, .slice), (8, .int .i64)] [0, 3] (fun z_ => [(6, z_.1.v), (8, .int .i64 z_.2.1), (0, .pointer d), (3, .pointer (some g_1))]) (fun z_ => blocks_Open_s4 d k g_1 z_.1 z_.2.1) (by kernel_rfl) (fun _ => by kernel_rfl)
  (RefK.plain [] (by kernel_rfl))
  (fun ⟨list, e, _⟩ => RefK.seq [] [0, 3, 6] (fun z_ => [(0, .pointer d), (3, .pointer (some g_1)), (6, list.v)]) (fun z_ => blocks_Open_s1 d k g_1 list) (by kernel_rfl) (fun _ => by kernel_rfl)
  (RefK.seq [(17, .bool)] [0, 3, 6, 8] (fun z_ => [(17, .bool z_.1), (0, .pointer d), (3, .pointer (some g_1)), (6, list.v), (8, .int .i64 e)]) (fun z_ => blocks_Open_s3 d k g_1 list e z_.1) (by kernel_rfl) (fun _ => by kernel_rfl)
  (RefK.plain [] (by kernel_rfl))
  (fun ⟨x17, _⟩ => RefK.cond (b := x17) (t1 := blocks_Open_s2 k none e) (t2 := blocks_Open_s1 d k g_1 list) (by kernel_rfl) (by kernel_rfl) (fun w h => brK_spec w h) (RefK.seq [(4, .ptr), (5, .int .i64)] [] (fun z_ => [(4, .pointer z_.1), (5, .int .i64 z_.2.1)]) (fun z_ => blocks_Open_s2 k z_.1 z_.2.1) (by kernel_rfl) (fun _ => by kernel_rfl)
  (RefK.plain [] (by kernel_rfl))
  (fun ⟨x4_1, x5_1, _⟩ => RefK.ret (by kernel_rfl))) (RefK.skip (by kernel_rfl))))
  (fun _ => RefK.seq [(4, .addr), (5, .int .i64)] [] (fun z_ => [(4, .pointer (some z_.1)), (5, .int .i64 z_.2.1)]) (fun z_ => blocks_Open_s0 k z_.1 z_.2.1) (by kernel_rfl) (fun _ => by kernel_rfl)
  (RefK.plain [] (by kernel_rfl))
  (fun ⟨x4, x5, _⟩ => RefK.ret (by kernel_rfl)))))) hyp_
@[reducible] def runs_Fill_s0 (k : (((Option Addr) × Int) → K)) (x4 : (Option Addr)) (x5 : Int) : K :=
  k (x4, x5)
@[reducible] def runs_Fill_s1 (k : (((Option Addr) × Int) → K)) (x4_1 : (Option Addr)) (x5_1 : Int) : K :=
  k (x4_1, x5_1)
@[reducible] def runs_Fill_s2 (k : (((Option Addr) × Int) → K)) (x14_1 : Int) (c : ((Int × Unit) → K)) (e : Int) (x25 : Bool) : K :=
  brK x25
  (runs_Fill_s1 k none e)
  (c ((IntKind.wrap .i64 (x14_1 + 1)), ()))
@[reducible] def runs_Fill_s3 (k : (((Option Addr) × Int) → K)) (x14_1 : Int) (c : ((Int × Unit) → K)) (e : Int) : K :=
  runs_Fill_s2 k x14_1 c e (e != 0)
@[reducible] def runs_Fill_s4 (k : (((Option Addr) × Int) → K)) (x : (Option Addr)) (x14_1 : Int) (c : ((Int × Unit) → K)) (s : Addr) : K :=
  ldI .i64 (Addr.add s 0) fun x20 =>
  ldI .i64 (Addr.add s 1) fun x22 =>
  c_runs_Index_Give x x20 x22 fun x23 =>
  runs_Fill_s3 k x14_1 c x23
@[reducible] def runs_Fill_s5 (k : (((Option Addr) × Int) → K)) (x : (Option Addr)) (x12 : Sl) (x14_1 : Int) (c : ((Int × Unit) → K)) : K :=
  ixS x12.p x12.n x14_1 2 fun x16 =>
  ldI .i64 (Addr.add x16 0) fun x17_0 =>
  ldI .i64 (Addr.add x16 1) fun x17_1 =>
  alK (.cells #[.int .i64 0, .int .i64 0] 152) fun b =>
  stK (Addr.add ⟨b, 0, none⟩ 0) (.int .i64 x17_0) <|
  stK (Addr.add ⟨b, 0, none⟩ 1) (.int .i64 x17_1) <|
  runs_Fill_s4 k x x14_1 c ⟨b, 0, none⟩
@[reducible] def runs_Fill_s6 (k : (((Option Addr) × Int) → K)) (x : (Option Addr)) (x12 : Sl) (x14_1 : Int) (c : ((Int × Unit) → K)) (x15 : Bool) : K :=
  brK x15
  (runs_Fill_s5 k x x12 x14_1 c)
  (runs_Fill_s0 k x 0)
@[reducible] def runs_Fill_l7 (k : (((Option Addr) × Int) → K)) (x : (Option Addr)) (x12 : Sl) (x13 : Int) (x14_1 : Int) (c : ((Int × Unit) → K)) : K :=
  runs_Fill_s6 k x x12 x14_1 c (decide (x14_1 < x13))
@[reducible] def runs_Fill_s8 (k : (((Option Addr) × Int) → K)) (x : (Option Addr)) (x12 : Sl) (x13 : Int) (x14 : Int) : K :=
  lp (fun (z_ : (Int × Unit)) c_ => runs_Fill_l7 k x x12 x13 z_.1 c_) (x14, ())
@[reducible] def runs_Fill_s9 (list : Sl) (k : (((Option Addr) × Int) → K)) (x : (Option Addr)) : K :=
  runs_Fill_s8 k x list ((list.n : Nat) : Int) 0
@[reducible] def runs_Fill_s10 (limit : Int) (list : Sl) (k : (((Option Addr) × Int) → K)) : K :=
  c_runs_New limit fun x11 =>
  runs_Fill_s9 list k x11
@[reducible] def runs_Fill (limit : Int) (list : Sl) : M ((Option Addr) × Int) := fun k =>
  runs_Fill_s10 limit list k
theorem runs_Fill_ok (limit : Int) (list : Sl) (k : ((Option Addr) × Int) → K) (w : World) (hyp_ : runs_Fill limit list k w) : c_runs_Fill limit list k w :=
  cl_of (P := Tryz.prog) Tryz.func180 rfl (by kernel_rfl)
  (RefK.seq [] [0, 1] (fun z_ => [(0, .int .i64 limit), (1, list.v)]) (fun z_ => runs_Fill_s10 limit list k) (by kernel_rfl) (fun _ => by kernel_rfl)
  (RefK.plain [] (by kernel_rfl))
  (fun _ => RefK.seq [(6, .ptr)] [1] (fun z_ => [(6, .pointer z_.1), (1, list.v)]) (fun z_ => runs_Fill_s9 list k z_.1) (by kernel_rfl) (fun _ => by kernel_rfl)
  (RefK.plain [] (by kernel_rfl))
  (fun ⟨x, _⟩ => RefK.seq [] [6] (fun z_ => [(6, .pointer x)]) (fun z_ => runs_Fill_s0 k x 0) (by kernel_rfl) (fun _ => by kernel_rfl)
  (RefK.seq [(12, .slice), (13, .int .i64), (14, .int .i64)] [6] (fun z_ => [(12, z_.1.v), (13, .int .i64 z_.2.1), (14, .int .i64 z_.2.2.1), (6, .pointer x)]) (fun z_ => runs_Fill_s8 k x z_.1 z_.2.1 z_.2.2.1) (by kernel_rfl) (fun _ => by kernel_rfl)
  (RefK.plain [] (by kernel_rfl))
  (fun ⟨x12, x13, x14, _⟩ => RefK.block (RefK.loop [(14, .int .i64)] [6, 12, 13] (fun z_ => [(14, .int .i64 z_.1), (6, .pointer x), (12, x12.v), (13, .int .i64 x13)]) (fun (z_ : (Int × Unit)) c_ => runs_Fill_l7 k x x12 x13 z_.1 c_) (x14, ()) (by kernel_rfl) (fun _ => by kernel_rfl) (by kernel_rfl) (by kernel_rfl)
  (fun ⟨x14_1, _⟩ c => RefK.seq [(15, .bool)] [6, 12, 13, 14] (fun z_ => [(15, .bool z_.1), (6, .pointer x), (12, x12.v), (13, .int .i64 x13), (14, .int .i64 x14_1)]) (fun z_ => runs_Fill_s6 k x x12 x14_1 c z_.1) (by kernel_rfl) (fun _ => by kernel_rfl)
  (RefK.plain [] (by kernel_rfl))
  (fun ⟨x15, _⟩ => RefK.seq [] [6, 12, 13, 14] (fun z_ => [(6, .pointer x), (12, x12.v), (13, .int .i64 x13), (14, .int .i64 x14_1)]) (fun z_ => runs_Fill_s5 k x x12 x14_1 c) (by kernel_rfl) (fun _ => by kernel_rfl)
  (RefK.cond (b := x15) (t1 := runs_Fill_s5 k x x12 x14_1 c) (t2 := runs_Fill_s0 k x 0) (by kernel_rfl) (by kernel_rfl) (fun w h => brK_spec w h) (RefK.skip (by kernel_rfl)) (RefK.exit (by kernel_rfl)))
  (fun _ => RefK.seq [] [6, 12, 13, 14] (fun z_ => [(6, .pointer x), (12, x12.v), (13, .int .i64 x13), (14, .int .i64 x14_1)]) (fun z_ => c ((IntKind.wrap .i64 (x14_1 + 1)), ())) (by kernel_rfl) (fun _ => by kernel_rfl)
  (RefK.block (RefK.seq [(8, .addr)] [6, 12, 13, 14] (fun z_ => [(8, .pointer (some z_.1)), (6, .pointer x), (12, x12.v), (13, .int .i64 x13), (14, .int .i64 x14_1)]) (fun z_ => runs_Fill_s4 k x x14_1 c z_.1) (by kernel_rfl) (fun _ => by kernel_rfl)
  (RefK.plain [] (by kernel_rfl))
  (fun ⟨s, _⟩ => RefK.seq [(9, .int .i64)] [6, 12, 13, 14] (fun z_ => [(9, .int .i64 z_.1), (6, .pointer x), (12, x12.v), (13, .int .i64 x13), (14, .int .i64 x14_1)]) (fun z_ => runs_Fill_s3 k x14_1 c z_.1) (by kernel_rfl) (fun _ => by kernel_rfl)
  (RefK.plain [] (by kernel_rfl))
  (fun ⟨e, _⟩ => RefK.seq [(25, .bool)] [6, 9, 12, 13, 14] (fun z_ => [(25, .bool z_.1), (6, .pointer x), (9, .int .i64 e), (12, x12.v), (13, .int .i64 x13), (14, .int .i64 x14_1)]) (fun z_ => runs_Fill_s2 k x14_1 c e z_.1) (by kernel_rfl) (fun _ => by kernel_rfl)
  (RefK.plain [] (by kernel_rfl))
  (fun ⟨x25, _⟩ => RefK.cond (b := x25) (t1 := runs_Fill_s1 k none e) (t2 := c ((IntKind.wrap .i64 (x14_1 + 1)), ())) (by kernel_rfl) (by kernel_rfl) (fun w h => brK_spec w h) (RefK.seq [(4, .ptr), (5, .int .i64)] [] (fun z_ => [(4, .pointer z_.1), (5, .int .i64 z_.2.1)]) (fun z_ => runs_Fill_s1 k z_.1 z_.2.1) (by kernel_rfl) (fun _ => by kernel_rfl)
  (RefK.plain [] (by kernel_rfl))
  (fun ⟨x4_1, x5_1, _⟩ => RefK.ret (by kernel_rfl))) (RefK.skip (by kernel_rfl)))))))
  (fun _ => RefK.plain [] (by kernel_rfl))))))))
  (fun _ => RefK.seq [(4, .ptr), (5, .int .i64)] [] (fun z_ => [(4, .pointer z_.1), (5, .int .i64 z_.2.1)]) (fun z_ => runs_Fill_s0 k z_.1 z_.2.1) (by kernel_rfl) (fun _ => by kernel_rfl)
  (RefK.plain [] (by kernel_rfl))
  (fun ⟨x4, x5, _⟩ => RefK.ret (by kernel_rfl)))))) hyp_
@[reducible] def blocks_Table_Spans_s0 (k : (Sl → K)) (x2 : Sl) : K :=
  k x2
@[reducible] def blocks_Table_Spans_s1 (t : (Option Addr)) (k : (Sl → K)) : K :=
  nn t fun x4 =>
  ldS (Addr.add x4 2) fun x6 =>
  c_blocks_Spans x6 fun x7 =>
  blocks_Table_Spans_s0 k x7
@[reducible] def blocks_Table_Spans (t : (Option Addr)) : M Sl := fun k =>
  blocks_Table_Spans_s1 t k
theorem blocks_Table_Spans_ok (t : (Option Addr)) (k : Sl → K) (w : World) (hyp_ : blocks_Table_Spans t k w) : c_blocks_Table_Spans t k w :=
  cl_of (P := Tryz.prog) Tryz.func181 rfl (by kernel_rfl)
  (RefK.seq [] [0] (fun z_ => [(0, .pointer t)]) (fun z_ => blocks_Table_Spans_s1 t k) (by kernel_rfl) (fun _ => by kernel_rfl)
  (RefK.plain [] (by kernel_rfl))
  (fun _ => RefK.seq [(2, .slice)] [] (fun z_ => [(2, z_.1.v)]) (fun z_ => blocks_Table_Spans_s0 k z_.1) (by kernel_rfl) (fun _ => by kernel_rfl)
  (RefK.plain [] (by kernel_rfl))
  (fun ⟨x2, _⟩ => RefK.ret (by kernel_rfl)))) hyp_
@[reducible] def bitmap_New_s0 (k : ((Option Addr) → K)) (x2 : Addr) : K :=
  k (some x2)
@[reducible] def bitmap_New_s1 (k : ((Option Addr) → K)) (limit_1 : Int) : K :=
  c_bits_Up limit_1 64 fun x6 =>
  mkS Tryz.prog 109 x6 x6 fun b =>
  alK (.cells #[.slice (some ⟨b, 0, none⟩) (Int.toNat x6) (Int.toNat x6), .int .i64 limit_1, .int .i64 0] 191) fun b_1 =>
  bitmap_New_s0 k ⟨b_1, 0, none⟩
@[reducible] def bitmap_New (limit : Int) : M (Option Addr) := fun k =>
  bitmap_New_s1 k (max2I limit 0)
theorem bitmap_New_ok (limit : Int) (k : (Option Addr) → K) (w : World) (hyp_ : bitmap_New limit k w) : c_bitmap_New limit k w :=
  cl_of (P := Tryz.prog) Tryz.func182 rfl (by kernel_rfl)
  (RefK.seq [] [0] (fun z_ => [(0, .int .i64 limit)]) (fun z_ => bitmap_New_s1 k (max2I limit 0)) (by kernel_rfl) (fun _ => by kernel_rfl)
  (RefK.plain [] (by kernel_rfl))
  (fun _ => RefK.seq [(0, .int .i64)] [] (fun z_ => [(0, .int .i64 z_.1)]) (fun z_ => bitmap_New_s1 k z_.1) (by kernel_rfl) (fun _ => by kernel_rfl)
  (RefK.plain [] (by kernel_rfl))
  (fun ⟨limit_1, _⟩ => RefK.seq [(2, .addr)] [] (fun z_ => [(2, .pointer (some z_.1))]) (fun z_ => bitmap_New_s0 k z_.1) (by kernel_rfl) (fun _ => by kernel_rfl)
  (RefK.plain [] (by kernel_rfl))
  (fun ⟨x2, _⟩ => RefK.ret (by kernel_rfl))))) hyp_
@[reducible] def free_New_s0 (k : ((Option Addr) → K)) (x0 : Addr) : K :=
  k (some x0)
@[reducible] def free_New_s1 (k : ((Option Addr) → K)) : K :=
  alK (.map #[] 0) fun b =>
  alK (.cells #[.slice none 0 0, .slice none 0 0, .slice none 0 0, .slice none 0 0, .slice none 0 0, .slice none 0 0, .slice none 0 0, .slice none 0 0, .slice none 0 0, .slice none 0 0, .slice none 0 0, .slice none 0 0, .slice none 0 0, .slice none 0 0, .slice none 0 0, .slice none 0 0, .slice none 0 0, .slice none 0 0, .slice none 0 0, .slice none 0 0, .slice none 0 0, .slice none 0 0, .slice none 0 0, .slice none 0 0, .slice none 0 0, .slice none 0 0, .slice none 0 0, .slice none 0 0, .slice none 0 0, .slice none 0 0, .slice none 0 0, .slice none 0 0, .map (some b)] 199) fun b_1 =>
  free_New_s0 k ⟨b_1, 0, none⟩
@[reducible] def free_New : M (Option Addr) := fun k =>
  free_New_s1 k
theorem free_New_ok (k : (Option Addr) → K) (w : World) (hyp_ : free_New k w) : c_free_New k w :=
  cl_of (P := Tryz.prog) Tryz.func183 rfl (by kernel_rfl)
  (RefK.seq [] [] (fun z_ => []) (fun z_ => free_New_s1 k) (by kernel_rfl) (fun _ => by kernel_rfl)
  (RefK.plain [] (by kernel_rfl))
  (fun _ => RefK.seq [(0, .addr)] [] (fun z_ => [(0, .pointer (some z_.1))]) (fun z_ => free_New_s0 k z_.1) (by kernel_rfl) (fun _ => by kernel_rfl)
  (RefK.plain [] (by kernel_rfl))
  (fun ⟨x0, _⟩ => RefK.ret (by kernel_rfl)))) hyp_
@[reducible] def bitmap_Set_Next_s0 (k : ((Int × Bool) → K)) (x4 : Int) (x5 : Bool) : K :=
  k (x4, x5)
@[reducible] def bitmap_Set_Next_s1 (k : ((Int × Bool) → K)) (i_1 : Int) (w_2 : Int) : K :=
  c_bits_Lowest w_2 fun x54 =>
  bitmap_Set_Next_s0 k (IntKind.wrap .i64 ((IntKind.wrap .i64 (i_1 * 64)) + x54)) true
@[reducible] def bitmap_Set_Next_s2 (s : (Option Addr)) (c : ((Int × Int × Unit) → K)) (i_3 : Int) : K :=
  nn s fun x45 =>
  ldS (Addr.add x45 0) fun x47 =>
  ixS x47.p x47.n i_3 1 fun x49 =>
  ldI .u64 x49 fun x50 =>
  c (i_3, x50, ())
@[reducible] def bitmap_Set_Next_s3 (k : ((Int × Bool) → K)) (x4_1 : Int) (x5_1 : Bool) : K :=
  k (x4_1, x5_1)
@[reducible] def bitmap_Set_Next_s4 (s : (Option Addr)) (k : ((Int × Bool) → K)) (c : ((Int × Int × Unit) → K)) (i_3 : Int) (x43 : Bool) : K :=
  brK x43
  (bitmap_Set_Next_s3 k 0 false)
  (bitmap_Set_Next_s2 s c i_3)
@[reducible] def bitmap_Set_Next_s5 (s : (Option Addr)) (k : ((Int × Bool) → K)) (c : ((Int × Int × Unit) → K)) (i_3 : Int) : K :=
  nn s fun x39 =>
  ldS (Addr.add x39 0) fun x41 =>
  bitmap_Set_Next_s4 s k c i_3 (decide (i_3 ≥ ((x41.n : Nat) : Int)))
@[reducible] def bitmap_Set_Next_s6 (s : (Option Addr)) (k : ((Int × Bool) → K)) (i_2 : Int) (w_3 : Int) (c : ((Int × Int × Unit) → K)) (x34 : Bool) : K :=
  brK x34
  (bitmap_Set_Next_s5 s k c (IntKind.wrap .i64 (i_2 + 1)))
  (bitmap_Set_Next_s1 k i_2 w_3)
@[reducible] def bitmap_Set_Next_l7 (s : (Option Addr)) (k : ((Int × Bool) → K)) (i_2 : Int) (w_3 : Int) (c : ((Int × Int × Unit) → K)) : K :=
  bitmap_Set_Next_s6 s k i_2 w_3 c (w_3 == 0)
@[reducible] def bitmap_Set_Next_s8 (s : (Option Addr)) (k : ((Int × Bool) → K)) (i : Int) (w_1 : Int) : K :=
  lp (fun (z_ : (Int × Int × Unit)) c_ => bitmap_Set_Next_l7 s k z_.1 z_.2.1 c_) (i, w_1, ())
@[reducible] def bitmap_Set_Next_s9 (s : (Option Addr)) (k : ((Int × Bool) → K)) (at_2 : Int) (i : Int) : K :=
  nn s fun x19 =>
  ldS (Addr.add x19 0) fun x21 =>
  ixS x21.p x21.n i 1 fun x23 =>
  ldI .u64 x23 fun x24 =>
  nneg (IntKind.wrap .u64 (Int.tmod at_2 64)) <|
  nneg (IntKind.wrap .u64 (Int.tmod at_2 64)) <|
  bitmap_Set_Next_s8 s k i (shlI .u64 (shrI .u64 x24 (IntKind.wrap .u64 (Int.tmod at_2 64))) (IntKind.wrap .u64 (Int.tmod at_2 64)))
@[reducible] def bitmap_Set_Next_s10 (k : ((Int × Bool) → K)) (x4_2 : Int) (x5_2 : Bool) : K :=
  k (x4_2, x5_2)
@[reducible] def bitmap_Set_Next_s11 (s : (Option Addr)) (k : ((Int × Bool) → K)) (at_2 : Int) (x15 : Bool) : K :=
  brK x15
  (bitmap_Set_Next_s10 k 0 false)
  (bitmap_Set_Next_s9 s k at_2 (IntKind.wrap .i64 (Int.tdiv at_2 64)))
@[reducible] def bitmap_Set_Next_s12 (s : (Option Addr)) (k : ((Int × Bool) → K)) (at_2 : Int) : K :=
  nn s fun x12 =>
  ldI .i64 (Addr.add x12 1) fun x14 =>
  bitmap_Set_Next_s11 s k at_2 (decide (at_2 ≥ x14))
@[reducible] def bitmap_Set_Next (s : (Option Addr)) (at_1 : Int) : M (Int × Bool) := fun k =>
  bitmap_Set_Next_s12 s k (max2I at_1 0)
theorem bitmap_Set_Next_ok (s : (Option Addr)) (at_1 : Int) (k : (Int × Bool) → K) (w : World) (hyp_ : bitmap_Set_Next s at_1 k w) : c_bitmap_Set_Next s at_1 k w :=
  cl_of (P := Tryz.prog) Tryz.func189 rfl (by kernel_rfl)
  (RefK.seq [] [0, 1] (fun z_ => [(0, .pointer s), (1, .int .i64 at_1)]) (fun z_ => bitmap_Set_Next_s12 s k (max2I at_1 0)) (by kernel_rfl) (fun _ => by kernel_rfl)
  (RefK.plain [] (by kernel_rfl))
  (fun _ => RefK.seq [(1, .int .i64)] [0] (fun z_ => [(1, .int .i64 z_.1), (0, .pointer s)]) (fun z_ => bitmap_Set_Next_s12 s k z_.1) (by kernel_rfl) (fun _ => by kernel_rfl)
  (RefK.plain [] (by kernel_rfl))
  (fun ⟨at_2, _⟩ => RefK.seq [] [0, 1] (fun z_ => [(0, .pointer s), (1, .int .i64 at_2)]) (fun z_ => bitmap_Set_Next_s9 s k at_2 (IntKind.wrap .i64 (Int.tdiv at_2 64))) (by kernel_rfl) (fun _ => by kernel_rfl)
  (RefK.seq [(15, .bool)] [0, 1] (fun z_ => [(15, .bool z_.1), (0, .pointer s), (1, .int .i64 at_2)]) (fun z_ => bitmap_Set_Next_s11 s k at_2 z_.1) (by kernel_rfl) (fun _ => by kernel_rfl)
  (RefK.plain [] (by kernel_rfl))
  (fun ⟨x15, _⟩ => RefK.cond (b := x15) (t1 := bitmap_Set_Next_s10 k 0 false) (t2 := bitmap_Set_Next_s9 s k at_2 (IntKind.wrap .i64 (Int.tdiv at_2 64))) (by kernel_rfl) (by kernel_rfl) (fun w h => brK_spec w h) (RefK.seq [(4, .int .i64), (5, .bool)] [] (fun z_ => [(4, .int .i64 z_.1), (5, .bool z_.2.1)]) (fun z_ => bitmap_Set_Next_s10 k z_.1 z_.2.1) (by kernel_rfl) (fun _ => by kernel_rfl)
  (RefK.plain [] (by kernel_rfl))
  (fun ⟨x4_2, x5_2, _⟩ => RefK.ret (by kernel_rfl))) (RefK.skip (by kernel_rfl))))
  (fun _ => RefK.seq [(6, .int .i64)] [0, 1] (fun z_ => [(6, .int .i64 z_.1), (0, .pointer s), (1, .int .i64 at_2)]) (fun z_ => bitmap_Set_Next_s9 s k at_2 z_.1) (by kernel_rfl) (fun _ => by kernel_rfl)
  (RefK.plain [] (by kernel_rfl))
  (fun ⟨i, _⟩ => RefK.seq [(7, .int .u64)] [0, 6] (fun z_ => [(7, .int .u64 z_.1), (0, .pointer s), (6, .int .i64 i)]) (fun z_ => bitmap_Set_Next_s8 s k i z_.1) (by kernel_rfl) (fun _ => by kernel_rfl)
  (RefK.plain [] (by kernel_rfl))
  (fun ⟨w_1, _⟩ => RefK.seq [(6, .int .i64), (7, .int .u64)] [] (fun z_ => [(6, .int .i64 z_.1), (7, .int .u64 z_.2.1)]) (fun z_ => bitmap_Set_Next_s1 k z_.1 z_.2.1) (by kernel_rfl) (fun _ => by kernel_rfl)
  (RefK.block (RefK.loop [(6, .int .i64), (7, .int .u64)] [0] (fun z_ => [(6, .int .i64 z_.1), (7, .int .u64 z_.2.1), (0, .pointer s)]) (fun (z_ : (Int × Int × Unit)) c_ => bitmap_Set_Next_l7 s k z_.1 z_.2.1 c_) (i, w_1, ()) (by kernel_rfl) (fun _ => by kernel_rfl) (by kernel_rfl) (by kernel_rfl)
  (fun ⟨i_2, w_3, _⟩ c => RefK.seq [] [0, 6] (fun z_ => [(0, .pointer s), (6, .int .i64 i_2)]) (fun z_ => bitmap_Set_Next_s5 s k c (IntKind.wrap .i64 (i_2 + 1))) (by kernel_rfl) (fun _ => by kernel_rfl)
  (RefK.seq [(34, .bool)] [0, 6, 7] (fun z_ => [(34, .bool z_.1), (0, .pointer s), (6, .int .i64 i_2), (7, .int .u64 w_3)]) (fun z_ => bitmap_Set_Next_s6 s k i_2 w_3 c z_.1) (by kernel_rfl) (fun _ => by kernel_rfl)
  (RefK.plain [] (by kernel_rfl))
  (fun ⟨x34, _⟩ => RefK.cond (b := x34) (t1 := bitmap_Set_Next_s5 s k c (IntKind.wrap .i64 (i_2 + 1))) (t2 := bitmap_Set_Next_s1 k i_2 w_3) (by kernel_rfl) (by kernel_rfl) (fun w h => brK_spec w h) (RefK.skip (by kernel_rfl)) (RefK.exit (by kernel_rfl))))
  (fun _ => RefK.block (RefK.seq [(6, .int .i64)] [0] (fun z_ => [(6, .int .i64 z_.1), (0, .pointer s)]) (fun z_ => bitmap_Set_Next_s5 s k c z_.1) (by kernel_rfl) (fun _ => by kernel_rfl)
  (RefK.plain [] (by kernel_rfl))
  (fun ⟨i_3, _⟩ => RefK.seq [] [0, 6] (fun z_ => [(0, .pointer s), (6, .int .i64 i_3)]) (fun z_ => bitmap_Set_Next_s2 s c i_3) (by kernel_rfl) (fun _ => by kernel_rfl)
  (RefK.seq [(43, .bool)] [0, 6] (fun z_ => [(43, .bool z_.1), (0, .pointer s), (6, .int .i64 i_3)]) (fun z_ => bitmap_Set_Next_s4 s k c i_3 z_.1) (by kernel_rfl) (fun _ => by kernel_rfl)
  (RefK.plain [] (by kernel_rfl))
  (fun ⟨x43, _⟩ => RefK.cond (b := x43) (t1 := bitmap_Set_Next_s3 k 0 false) (t2 := bitmap_Set_Next_s2 s c i_3) (by kernel_rfl) (by kernel_rfl) (fun w h => brK_spec w h) (RefK.seq [(4, .int .i64), (5, .bool)] [] (fun z_ => [(4, .int .i64 z_.1), (5, .bool z_.2.1)]) (fun z_ => bitmap_Set_Next_s3 k z_.1 z_.2.1) (by kernel_rfl) (fun _ => by kernel_rfl)
  (RefK.plain [] (by kernel_rfl))
  (fun ⟨x4_1, x5_1, _⟩ => RefK.ret (by kernel_rfl))) (RefK.skip (by kernel_rfl))))
  (fun _ => RefK.plain [] (by kernel_rfl))))))))
  (fun ⟨i_1, w_2, _⟩ => RefK.seq [(4, .int .i64), (5, .bool)] [] (fun z_ => [(4, .int .i64 z_.1), (5, .bool z_.2.1)]) (fun z_ => bitmap_Set_Next_s0 k z_.1 z_.2.1) (by kernel_rfl) (fun _ => by kernel_rfl)
  (RefK.plain [] (by kernel_rfl))
  (fun ⟨x4, x5, _⟩ => RefK.ret (by kernel_rfl))))))))) hyp_
@[reducible] def runs_Index_Has_s0 (k : (Bool → K)) (x4 : Bool) : K :=
  k x4
@[reducible] def runs_Index_Has_s1 (k : (Bool → K)) (x4_1 : Bool) : K :=
  k x4_1
@[reducible] def runs_Index_Has_s2 (k : (Bool → K)) (c : (Unit → K)) (x26 : Bool) : K :=
  brK x26
  (runs_Index_Has_s1 k true)
  (c ())
@[reducible] def runs_Index_Has_s3 (block : Int) (k : (Bool → K)) (c : (Unit → K)) (start : Int) (n : Int) : K :=
  brK (decide (block ≥ start))
  (runs_Index_Has_s2 k c (decide (block < (IntKind.wrap .i64 (start + n)))))
  (runs_Index_Has_s2 k c false)
@[reducible] def runs_Index_Has_s4 (block : Int) (k : (Bool → K)) (x11 : (Option Addr)) (c : (Unit → K)) : K :=
  semT Tryz.prog (Instr.entry (.pointer x11)) (.tup [.sc (.any), .sc (.any)]) fun e =>
  decSh (.int .i64) e.1 fun x15 =>
  decSh (.int .i64) e.2 fun x16 =>
  runs_Index_Has_s3 block k c x15 x16
@[reducible] def runs_Index_Has_s5 (block : Int) (k : (Bool → K)) (x11 : (Option Addr)) (c : (Unit → K)) (x13 : Bool) : K :=
  brK x13
  (runs_Index_Has_s4 block k x11 c)
  (runs_Index_Has_s0 k false)
@[reducible] def runs_Index_Has_l6 (block : Int) (k : (Bool → K)) (x11 : (Option Addr)) (c : (Unit → K)) : K :=
  nextM Tryz.prog (Instr.next (.pointer x11) false 0) fun go rest =>
  runs_Index_Has_s5 block k x11 c go
@[reducible] def runs_Index_Has_s7 (block : Int) (k : (Bool → K)) (x11 : (Option Addr)) : K :=
  lp (fun (z_ : Unit) c_ => runs_Index_Has_l6 block k x11 c_) ()
@[reducible] def runs_Index_Has_s8 (x : (Option Addr)) (block : Int) (k : (Bool → K)) : K :=
  nn x fun x8 =>
  ldM (Addr.add x8 0) fun x10 =>
  semT Tryz.prog (Instr.range 240 (.map x10)) (.one (.sc (.ptr))) fun it =>
  runs_Index_Has_s7 block k it
@[reducible] def runs_Index_Has (x : (Option Addr)) (block : Int) : M Bool := fun k =>
  runs_Index_Has_s8 x block k
theorem runs_Index_Has_ok (x : (Option Addr)) (block : Int) (k : Bool → K) (w : World) (hyp_ : runs_Index_Has x block k w) : c_runs_Index_Has x block k w :=
  cl_of (P := Tryz.prog) Tryz.func196 rfl (by kernel_rfl)
  (RefK.seq [] [0, 1] (fun z_ => [(0, .pointer x), (1, .int .i64 block)]) (fun z_ => runs_Index_Has_s8 x block k) (by kernel_rfl) (fun _ => by kernel_rfl)
  (RefK.plain [] (by kernel_rfl))
  (fun _ => RefK.seq [] [] (fun z_ => []) (fun z_ => runs_Index_Has_s0 k false) (by kernel_rfl) (fun _ => by kernel_rfl)
  (RefK.seq [(11, .ptr)] [1] (fun z_ => [(11, .pointer z_.1), (1, .int .i64 block)]) (fun z_ => runs_Index_Has_s7 block k z_.1) (by kernel_rfl) (fun _ => by kernel_rfl)
  (RefK.plain [] (by kernel_rfl))
  (fun ⟨x11, _⟩ => RefK.block (RefK.loop [] [1, 11] (fun z_ => [(1, .int .i64 block), (11, .pointer x11)]) (fun (z_ : Unit) c_ => runs_Index_Has_l6 block k x11 c_) () (by kernel_rfl) (fun _ => by kernel_rfl) (by kernel_rfl) (by kernel_rfl)
  (fun _ c => RefK.seq [(13, .bool)] [1, 11] (fun z_ => [(13, .bool z_.1), (1, .int .i64 block), (11, .pointer x11)]) (fun z_ => runs_Index_Has_s5 block k x11 c z_.1) (by kernel_rfl) (fun _ => by kernel_rfl)
  (RefK.plain [] (by kernel_rfl))
  (fun ⟨x13, _⟩ => RefK.seq [] [1, 11] (fun z_ => [(1, .int .i64 block), (11, .pointer x11)]) (fun z_ => runs_Index_Has_s4 block k x11 c) (by kernel_rfl) (fun _ => by kernel_rfl)
  (RefK.cond (b := x13) (t1 := runs_Index_Has_s4 block k x11 c) (t2 := runs_Index_Has_s0 k false) (by kernel_rfl) (by kernel_rfl) (fun w h => brK_spec w h) (RefK.skip (by kernel_rfl)) (RefK.exit (by kernel_rfl)))
  (fun _ => RefK.block (RefK.seq [(5, .int .i64), (6, .int .i64)] [1, 11] (fun z_ => [(5, .int .i64 z_.1), (6, .int .i64 z_.2.1), (1, .int .i64 block), (11, .pointer x11)]) (fun z_ => runs_Index_Has_s3 block k c z_.1 z_.2.1) (by kernel_rfl) (fun _ => by kernel_rfl)
  (RefK.plain [] (by kernel_rfl))
  (fun ⟨start, n, _⟩ => RefK.seq [(26, .bool)] [1, 11] (fun z_ => [(26, .bool z_.1), (1, .int .i64 block), (11, .pointer x11)]) (fun z_ => runs_Index_Has_s2 k c z_.1) (by kernel_rfl) (fun _ => by kernel_rfl)
  (RefK.plain [3] (by kernel_rfl))
  (fun ⟨x26, _⟩ => RefK.cond (b := x26) (t1 := runs_Index_Has_s1 k true) (t2 := c ()) (by kernel_rfl) (by kernel_rfl) (fun w h => brK_spec w h) (RefK.seq [(4, .bool)] [] (fun z_ => [(4, .bool z_.1)]) (fun z_ => runs_Index_Has_s1 k z_.1) (by kernel_rfl) (fun _ => by kernel_rfl)
  (RefK.plain [] (by kernel_rfl))
  (fun ⟨x4_1, _⟩ => RefK.ret (by kernel_rfl))) (RefK.skip (by kernel_rfl)))))))))))
  (fun _ => RefK.seq [(4, .bool)] [] (fun z_ => [(4, .bool z_.1)]) (fun z_ => runs_Index_Has_s0 k z_.1) (by kernel_rfl) (fun _ => by kernel_rfl)
  (RefK.plain [] (by kernel_rfl))
  (fun ⟨x4, _⟩ => RefK.ret (by kernel_rfl))))) hyp_
@[reducible] def runs_Index_drop_s0 (x : (Option Addr)) (start : Int) (k : (Unit → K)) : K :=
  nn x fun x17 =>
  ldM (Addr.add x17 0) fun x19 =>
  semT Tryz.prog (Builtin.delete_ #[240, 3] 0 #[.map x19, .int .i64 start]) (.tup []) fun r =>
  k ()
@[reducible] def runs_Index_drop (x : (Option Addr)) (start : Int) : M Unit := fun k =>
  tick fun _ =>
  nn x fun x5 =>
  ldM (Addr.add x5 1) fun x7 =>
  nn x fun x10 =>
  ldM (Addr.add x10 0) fun x12 =>
  lkE Tryz.prog 3 (.int .i64 0) (.sc (.int .i64)) x12 (.int .i64 start) fun r_1 ob x14 ok =>
  semT Tryz.prog (Builtin.delete_ #[240, 3] 0 #[.map x7, .int .i64 (IntKind.wrap .i64 (start + x14))]) (.tup []) fun r_2 =>
  runs_Index_drop_s0 x start k
theorem runs_Index_drop_ok (x : (Option Addr)) (start : Int) (k : Unit → K) (w : World) (hyp_ : runs_Index_drop x start k w) : c_runs_Index_drop x start k w :=
  cl_of (P := Tryz.prog) Tryz.func197 rfl (by kernel_rfl)
  (RefK.seq [] [0, 1] (fun z_ => [(0, .pointer x), (1, .int .i64 start)]) (fun z_ => runs_Index_drop_s0 x start k) (by kernel_rfl) (fun _ => by kernel_rfl)
  (RefK.draw [] [0, 1, 3, 7, 0, 0, 32, 96, 224, 0, 992, 2032, 4095] [0, 1, 2, 3, 4, 5, 6, 7, 8, 9, 10, 11, 12] [0, 1, 2, 3, 4, 5, 6, 7, 8, 9, 10, 11, 12] (by kernel_rfl) (by kernel_rfl))
  (fun _ => RefK.plain [] (by kernel_rfl))) hyp_
@[reducible] def runs_Index_add (x : (Option Addr)) (start : Int) (n : Int) : M Unit := fun k =>
  tick fun _ =>
  nn x fun x7 =>
  ldM (Addr.add x7 0) fun x9 =>
  nn x fun x12 =>
  ldM (Addr.add x12 1) fun x14 =>
  semT Tryz.prog (Instr.mapEntry 240 (.map x9) (.int .i64 start)) (.tup [.sc (.int .i64), .sc (.int .i64)]) fun e =>
  semU Tryz.prog (Instr.entryStore 240 (.map x9) (.int .i64 e.2) (.int .i64 n)) <|
  semT Tryz.prog (Instr.mapEntry 240 (.map x14) (.int .i64 (IntKind.wrap .i64 (start + n)))) (.tup [.sc (.int .i64), .sc (.int .i64)]) fun e_1 =>
  semU Tryz.prog (Instr.entryStore 240 (.map x14) (.int .i64 e_1.2) (.int .i64 start)) <|
  k ()
theorem runs_Index_add_ok (x : (Option Addr)) (start : Int) (n : Int) (k : Unit → K) (w : World) (hyp_ : runs_Index_add x start n k w) : c_runs_Index_add x start n k w :=
  cl_of (P := Tryz.prog) Tryz.func198 rfl (by kernel_rfl)
  (RefK.draw [] [0, 1, 3, 7, 0, 0, 32, 96, 224, 0, 0, 1536, 0, 0, 511, 16895, 53759, 122879, 253951, 524287] [0, 1, 2, 3, 4, 5, 6, 7, 8, 9, 10, 11, 12, 13, 14, 15, 16, 17, 18, 19] [0, 1, 2, 3, 4, 5, 6, 7, 8, 14, 12, 15, 16, 9, 10, 11, 17, 13, 18, 19] (by kernel_rfl) (by kernel_rfl)) hyp_
@[reducible] def runs_Index_Take_s0 (k : ((Int × Int) → K)) (x4 : Int) (x5 : Int) : K :=
  k (x4, x5)
@[reducible] def runs_Index_Take_s1 (x0 : (Option Addr)) (x1 : Int) (k : ((Int × Int) → K)) (x6_1 : Int) (x9 : Int) : K :=
  c_runs_Index_add x0 (IntKind.wrap .i64 (x6_1 + x1)) (IntKind.wrap .i64 (x9 - x1)) fun x76 =>
  runs_Index_Take_s0 k x6_1 0
@[reducible] def runs_Index_Take_s2 (x0 : (Option Addr)) (x1 : Int) (k : ((Int × Int) → K)) (x6_1 : Int) (x9 : Int) (x68 : Bool) : K :=
  brK x68
  (runs_Index_Take_s1 x0 x1 k x6_1 x9)
  (runs_Index_Take_s0 k x6_1 0)
@[reducible] def runs_Index_Take_s3 (x0 : (Option Addr)) (x1 : Int) (k : ((Int × Int) → K)) (x6_1 : Int) (x9 : Int) : K :=
  c_runs_Index_drop x0 x6_1 fun x65 =>
  runs_Index_Take_s2 x0 x1 k x6_1 x9 (decide (x9 > x1))
@[reducible] def runs_Index_Take_s4 (x0 : (Option Addr)) (x1 : Int) (k : ((Int × Int) → K)) (x6_1 : Int) : K :=
  nn x0 fun x58 =>
  ldM (Addr.add x58 0) fun x60 =>
  lkE Tryz.prog 3 (.int .i64 0) (.sc (.int .i64)) x60 (.int .i64 x6_1) fun r ob x62 ok =>
  runs_Index_Take_s3 x0 x1 k x6_1 x62
@[reducible] def runs_Index_Take_s5 (k : ((Int × Int) → K)) (x4_1 : Int) (x5_1 : Int) : K :=
  k (x4_1, x5_1)
@[reducible] def runs_Index_Take_s6 (x0 : (Option Addr)) (x1 : Int) (k : ((Int × Int) → K)) (x6_1 : Int) (x56 : Bool) : K :=
  brK x56
  (runs_Index_Take_s5 k 0 4)
  (runs_Index_Take_s4 x0 x1 k x6_1)
@[reducible] def runs_Index_Take_s7 (x0 : (Option Addr)) (x1 : Int) (k : ((Int × Int) → K)) (x6_1 : Int) : K :=
  runs_Index_Take_s6 x0 x1 k x6_1 (decide (x6_1 < 0))
@[reducible] def runs_Index_Take_s8 (x6_2 : Int) (c : ((Int × Unit) → K)) (x7 : Int) (x53 : Bool) : K :=
  brK x53
  (c (x7, ()))
  (c (x6_2, ()))
@[reducible] def runs_Index_Take_s9 (x0 : (Option Addr)) (x1 : Int) (x6_2 : Int) (c : ((Int × Unit) → K)) (x7 : Int) (x8 : Int) : K :=
  brK (decide (x8 ≥ x1))
  (brK (decide (x6_2 < 0))
  (runs_Index_Take_s8 x6_2 c x7 true)
  (nn x0 fun x31 =>
  ldM (Addr.add x31 0) fun x33 =>
  lkE Tryz.prog 3 (.int .i64 0) (.sc (.int .i64)) x33 (.int .i64 x6_2) fun r_1 ob_1 x35 ok_1 =>
  brK (decide (x8 < x35))
  (runs_Index_Take_s8 x6_2 c x7 true)
  (nn x0 fun x41 =>
  ldM (Addr.add x41 0) fun x43 =>
  lkE Tryz.prog 3 (.int .i64 0) (.sc (.int .i64)) x43 (.int .i64 x6_2) fun r_2 ob_2 x45 ok_2 =>
  brK (x8 == x45)
  (runs_Index_Take_s8 x6_2 c x7 (decide (x7 < x6_2)))
  (runs_Index_Take_s8 x6_2 c x7 false))))
  (runs_Index_Take_s8 x6_2 c x7 false)
@[reducible] def runs_Index_Take_s10 (x0 : (Option Addr)) (x1 : Int) (x16 : (Option Addr)) (x6_2 : Int) (c : ((Int × Unit) → K)) : K :=
  semT Tryz.prog (Instr.entry (.pointer x16)) (.tup [.sc (.any), .sc (.any)]) fun e =>
  decSh (.int .i64) e.1 fun x20 =>
  decSh (.int .i64) e.2 fun x21 =>
  runs_Index_Take_s9 x0 x1 x6_2 c x20 x21
@[reducible] def runs_Index_Take_s11 (x0 : (Option Addr)) (x1 : Int) (k : ((Int × Int) → K)) (x16 : (Option Addr)) (x6_2 : Int) (c : ((Int × Unit) → K)) (x18 : Bool) : K :=
  brK x18
  (runs_Index_Take_s10 x0 x1 x16 x6_2 c)
  (runs_Index_Take_s7 x0 x1 k x6_2)
@[reducible] def runs_Index_Take_l12 (x0 : (Option Addr)) (x1 : Int) (k : ((Int × Int) → K)) (x16 : (Option Addr)) (x6_2 : Int) (c : ((Int × Unit) → K)) : K :=
  nextM Tryz.prog (Instr.next (.pointer x16) false 0) fun go rest =>
  runs_Index_Take_s11 x0 x1 k x16 x6_2 c go
@[reducible] def runs_Index_Take_s13 (x0 : (Option Addr)) (x1 : Int) (k : ((Int × Int) → K)) (x6 : Int) (x16 : (Option Addr)) : K :=
  lp (fun (z_ : (Int × Unit)) c_ => runs_Index_Take_l12 x0 x1 k x16 z_.1 c_) (x6, ())
@[reducible] def runs_Index_Take_s14 (x0 : (Option Addr)) (x1 : Int) (k : ((Int × Int) → K)) (x6 : Int) : K :=
  nn x0 fun x13 =>
  ldM (Addr.add x13 0) fun x15 =>
  semT Tryz.prog (Instr.range 240 (.map x15)) (.one (.sc (.ptr))) fun it =>
  runs_Index_Take_s13 x0 x1 k x6 it
@[reducible] def runs_Index_Take_s15 (k : ((Int × Int) → K)) (x4_2 : Int) (x5_2 : Int) : K :=
  k (x4_2, x5_2)
@[reducible] def runs_Index_Take_s16 (x0 : (Option Addr)) (x1 : Int) (k : ((Int × Int) → K)) (x11 : Bool) : K :=
  brK x11
  (runs_Index_Take_s15 k 0 1)
  (runs_Index_Take_s14 x0 x1 k (-1))
@[reducible] def runs_Index_Take (x0 : (Option Addr)) (x1 : Int) : M (Int × Int) := fun k =>
  runs_Index_Take_s16 x0 x1 k (decide (x1 < 1))
theorem runs_Index_Take_ok (x0 : (Option Addr)) (x1 : Int) (k : (Int × Int) → K) (w : World) (hyp_ : runs_Index_Take x0 x1 k w) : c_runs_Index_Take x0 x1 k w :=
  cl_of (P := Tryz.prog) Tryz.func200 rfl (by kernel_rfl)
  (RefK.seq [] [0, 1] (fun z_ => [(0, .pointer x0), (1, .int .i64 x1)]) (fun z_ => runs_Index_Take_s16 x0 x1 k (decide (x1 < 1))) (by kernel_rfl) (fun _ => by kernel_rfl)
  (RefK.plain [] (by kernel_rfl))
  (fun _ => RefK.seq [] [0, 1] (fun z_ => [(0, .pointer x0), (1, .int .i64 x1)]) (fun z_ => runs_Index_Take_s14 x0 x1 k (-1)) (by kernel_rfl) (fun _ => by kernel_rfl)
  (RefK.seq [(11, .bool)] [0, 1] (fun z_ => [(11, .bool z_.1), (0, .pointer x0), (1, .int .i64 x1)]) (fun z_ => runs_Index_Take_s16 x0 x1 k z_.1) (by kernel_rfl) (fun _ => by kernel_rfl)
  (RefK.plain [] (by kernel_rfl))
  (fun ⟨x11, _⟩ => RefK.cond (b := x11) (t1 := runs_Index_Take_s15 k 0 1) (t2 := runs_Index_Take_s14 x0 x1 k (-1)) (by kernel_rfl) (by kernel_rfl) (fun w h => brK_spec w h) (RefK.seq [(4, .int .i64), (5, .int .i64)] [] (fun z_ => [(4, .int .i64 z_.1), (5, .int .i64 z_.2.1)]) (fun z_ => runs_Index_Take_s15 k z_.1 z_.2.1) (by kernel_rfl) (fun _ => by kernel_rfl)
  (RefK.plain [] (by kernel_rfl))
  (fun ⟨x4_2, x5_2, _⟩ => RefK.ret (by kernel_rfl))) (RefK.skip (by kernel_rfl))))
  (fun _ => RefK.seq [(6, .int .i64)] [0, 1] (fun z_ => [(6, .int .i64 z_.1), (0, .pointer x0), (1, .int .i64 x1)]) (fun z_ => runs_Index_Take_s14 x0 x1 k z_.1) (by kernel_rfl) (fun _ => by kernel_rfl)
  (RefK.plain [] (by kernel_rfl))
  (fun ⟨x6, _⟩ => RefK.seq [(6, .int .i64)] [0, 1] (fun z_ => [(6, .int .i64 z_.1), (0, .pointer x0), (1, .int .i64 x1)]) (fun z_ => runs_Index_Take_s7 x0 x1 k z_.1) (by kernel_rfl) (fun _ => by kernel_rfl)
  (RefK.seq [(16, .ptr)] [0, 1, 6] (fun z_ => [(16, .pointer z_.1), (0, .pointer x0), (1, .int .i64 x1), (6, .int .i64 x6)]) (fun z_ => runs_Index_Take_s13 x0 x1 k x6 z_.1) (by kernel_rfl) (fun _ => by kernel_rfl)
  (RefK.plain [] (by kernel_rfl))
  (fun ⟨x16, _⟩ => RefK.block (RefK.loop [(6, .int .i64)] [0, 1, 16] (fun z_ => [(6, .int .i64 z_.1), (0, .pointer x0), (1, .int .i64 x1), (16, .pointer x16)]) (fun (z_ : (Int × Unit)) c_ => runs_Index_Take_l12 x0 x1 k x16 z_.1 c_) (x6, ()) (by kernel_rfl) (fun _ => by kernel_rfl) (by kernel_rfl) (by kernel_rfl)
  (fun ⟨x6_2, _⟩ c => RefK.seq [(18, .bool)] [0, 1, 6, 16] (fun z_ => [(18, .bool z_.1), (0, .pointer x0), (1, .int .i64 x1), (6, .int .i64 x6_2), (16, .pointer x16)]) (fun z_ => runs_Index_Take_s11 x0 x1 k x16 x6_2 c z_.1) (by kernel_rfl) (fun _ => by kernel_rfl)
  (RefK.plain [] (by kernel_rfl))
  (fun ⟨x18, _⟩ => RefK.seq [] [0, 1, 6, 16] (fun z_ => [(0, .pointer x0), (1, .int .i64 x1), (6, .int .i64 x6_2), (16, .pointer x16)]) (fun z_ => runs_Index_Take_s10 x0 x1 x16 x6_2 c) (by kernel_rfl) (fun _ => by kernel_rfl)
  (RefK.cond (b := x18) (t1 := runs_Index_Take_s10 x0 x1 x16 x6_2 c) (t2 := runs_Index_Take_s7 x0 x1 k x6_2) (by kernel_rfl) (by kernel_rfl) (fun w h => brK_spec w h) (RefK.skip (by kernel_rfl)) (RefK.exit (by kernel_rfl)))
  (fun _ => RefK.block (RefK.seq [(7, .int .i64), (8, .int .i64)] [0, 1, 6, 16] (fun z_ => [(7, .int .i64 z_.1), (8, .int .i64 z_.2.1), (0, .pointer x0), (1, .int .i64 x1), (6, .int .i64 x6_2), (16, .pointer x16)]) (fun z_ => runs_Index_Take_s9 x0 x1 x6_2 c z_.1 z_.2.1) (by kernel_rfl) (fun _ => by kernel_rfl)
  (RefK.plain [] (by kernel_rfl))
  (fun ⟨x7, x8, _⟩ => RefK.seq [(53, .bool)] [0, 1, 6, 7, 16] (fun z_ => [(53, .bool z_.1), (0, .pointer x0), (1, .int .i64 x1), (6, .int .i64 x6_2), (7, .int .i64 x7), (16, .pointer x16)]) (fun z_ => runs_Index_Take_s8 x6_2 c x7 z_.1) (by kernel_rfl) (fun _ => by kernel_rfl)
  (RefK.plain [3, 6, 16, 25] (by kernel_rfl))
  (fun ⟨x53, _⟩ => RefK.cond (b := x53) (t1 := c (x7, ())) (t2 := c (x6_2, ())) (by kernel_rfl) (by kernel_rfl) (fun w h => brK_spec w h) (RefK.plain [] (by kernel_rfl)) (RefK.skip (by kernel_rfl)))))))))))
  (fun ⟨x6_1, _⟩ => RefK.seq [] [0, 1, 6] (fun z_ => [(0, .pointer x0), (1, .int .i64 x1), (6, .int .i64 x6_1)]) (fun z_ => runs_Index_Take_s4 x0 x1 k x6_1) (by kernel_rfl) (fun _ => by kernel_rfl)
  (RefK.seq [(56, .bool)] [0, 1, 6] (fun z_ => [(56, .bool z_.1), (0, .pointer x0), (1, .int .i64 x1), (6, .int .i64 x6_1)]) (fun z_ => runs_Index_Take_s6 x0 x1 k x6_1 z_.1) (by kernel_rfl) (fun _ => by kernel_rfl)
  (RefK.plain [] (by kernel_rfl))
  (fun ⟨x56, _⟩ => RefK.cond (b := x56) (t1 := runs_Index_Take_s5 k 0 4) (t2 := runs_Index_Take_s4 x0 x1 k x6_1) (by kernel_rfl) (by kernel_rfl) (fun w h => brK_spec w h) (RefK.seq [(4, .int .i64), (5, .int .i64)] [] (fun z_ => [(4, .int .i64 z_.1), (5, .int .i64 z_.2.1)]) (fun z_ => runs_Index_Take_s5 k z_.1 z_.2.1) (by kernel_rfl) (fun _ => by kernel_rfl)
  (RefK.plain [] (by kernel_rfl))
  (fun ⟨x4_1, x5_1, _⟩ => RefK.ret (by kernel_rfl))) (RefK.skip (by kernel_rfl))))
  (fun _ => RefK.seq [(9, .int .i64)] [0, 1, 6] (fun z_ => [(9, .int .i64 z_.1), (0, .pointer x0), (1, .int .i64 x1), (6, .int .i64 x6_1)]) (fun z_ => runs_Index_Take_s3 x0 x1 k x6_1 z_.1) (by kernel_rfl) (fun _ => by kernel_rfl)
  (RefK.plain [] (by kernel_rfl))
  (fun ⟨x9, _⟩ => RefK.seq [] [0, 1, 6, 9] (fun z_ => [(0, .pointer x0), (1, .int .i64 x1), (6, .int .i64 x6_1), (9, .int .i64 x9)]) (fun z_ => runs_Index_Take_s2 x0 x1 k x6_1 x9 (decide (x9 > x1))) (by kernel_rfl) (fun _ => by kernel_rfl)
  (RefK.plain [] (by kernel_rfl))
  (fun _ => RefK.seq [] [6] (fun z_ => [(6, .int .i64 x6_1)]) (fun z_ => runs_Index_Take_s0 k x6_1 0) (by kernel_rfl) (fun _ => by kernel_rfl)
  (RefK.seq [(68, .bool)] [0, 1, 6, 9] (fun z_ => [(68, .bool z_.1), (0, .pointer x0), (1, .int .i64 x1), (6, .int .i64 x6_1), (9, .int .i64 x9)]) (fun z_ => runs_Index_Take_s2 x0 x1 k x6_1 x9 z_.1) (by kernel_rfl) (fun _ => by kernel_rfl)
  (RefK.plain [] (by kernel_rfl))
  (fun ⟨x68, _⟩ => RefK.cond (b := x68) (t1 := runs_Index_Take_s1 x0 x1 k x6_1 x9) (t2 := runs_Index_Take_s0 k x6_1 0) (by kernel_rfl) (by kernel_rfl) (fun w h => brK_spec w h) (RefK.plain [] (by kernel_rfl)) (RefK.skip (by kernel_rfl))))
  (fun _ => RefK.seq [(4, .int .i64), (5, .int .i64)] [] (fun z_ => [(4, .int .i64 z_.1), (5, .int .i64 z_.2.1)]) (fun z_ => runs_Index_Take_s0 k z_.1 z_.2.1) (by kernel_rfl) (fun _ => by kernel_rfl)
  (RefK.plain [] (by kernel_rfl))
  (fun ⟨x4, x5, _⟩ => RefK.ret (by kernel_rfl))))))))))) hyp_
@[reducible] def free_Lists_Own_s0 (k : (Int → K)) (x6 : Int) : K :=
  k x6
@[reducible] def free_Lists_Own_s1 (l : (Option Addr)) (mutator : Int) (k_1 : Int) (k : (Int → K)) : K :=
  nn l fun x8 =>
  ldM (Addr.add x8 32) fun x10 =>
  lkE Tryz.prog 201 (.slice none 0 0) (.sc (.slice)) x10 (.agg #[.int .i64 mutator, .int .i64 k_1]) fun r ob x14 ok =>
  free_Lists_Own_s0 k ((x14.n : Nat) : Int)
@[reducible] def free_Lists_Own (l : (Option Addr)) (mutator : Int) (k_1 : Int) : M Int := fun k =>
  free_Lists_Own_s1 l mutator k_1 k
theorem free_Lists_Own_ok (l : (Option Addr)) (mutator : Int) (k_1 : Int) (k : Int → K) (w : World) (hyp_ : free_Lists_Own l mutator k_1 k w) : c_free_Lists_Own l mutator k_1 k w :=
  cl_of (P := Tryz.prog) Tryz.func202 rfl (by kernel_rfl)
  (RefK.seq [] [0, 1, 2] (fun z_ => [(0, .pointer l), (1, .int .i64 mutator), (2, .int .i64 k_1)]) (fun z_ => free_Lists_Own_s1 l mutator k_1 k) (by kernel_rfl) (fun _ => by kernel_rfl)
  (RefK.plain [] (by kernel_rfl))
  (fun _ => RefK.seq [(6, .int .i64)] [] (fun z_ => [(6, .int .i64 z_.1)]) (fun z_ => free_Lists_Own_s0 k z_.1) (by kernel_rfl) (fun _ => by kernel_rfl)
  (RefK.plain [] (by kernel_rfl))
  (fun ⟨x6, _⟩ => RefK.ret (by kernel_rfl)))) hyp_
@[reducible] def free_Lists_Drain_s0 (l : (Option Addr)) (x6_1 : Int) (c : ((Int × Unit) → K)) (s : Addr) : K :=
  tick fun _ =>
  nn l fun x31 =>
  ldM (Addr.add x31 32) fun x33 =>
  ldI .i64 (Addr.add s 0) fun x34_0 =>
  ldI .i64 (Addr.add s 1) fun x34_1 =>
  semT Tryz.prog (Builtin.delete_ #[197, 201] 0 #[.map x33, .agg #[.int .i64 x34_0, .int .i64 x34_1]]) (.tup []) fun r =>
  c ((IntKind.wrap .i64 (x6_1 + 1)), ())
@[reducible] def free_Lists_Drain_s1 (l : (Option Addr)) (x6_1 : Int) (c : ((Int × Unit) → K)) (k_1 : Int) (s : Addr) : K :=
  tick fun _ =>
  nn l fun x16 =>
  ixA (Addr.add x16 0) 32 k_1 1 fun x18 =>
  ldS x18 fun x19 =>
  nn l fun x21 =>
  ldM (Addr.add x21 32) fun x23 =>
  ldI .i64 (Addr.add s 0) fun x24_0 =>
  ldI .i64 (Addr.add s 1) fun x24_1 =>
  lkE Tryz.prog 201 (.slice none 0 0) (.sc (.slice)) x23 (.agg #[.int .i64 x24_0, .int .i64 x24_1]) fun r_1 ob x25 ok =>
  nn l fun x27 =>
  semT Tryz.prog (Builtin.append_ #[27, 27] 27 #[x19.v, x25.v]) (.one (.sc (.slice))) fun x26 =>
  ixA (Addr.add x27 0) 32 k_1 1 fun x29 =>
  stK (Addr.add x29 0) (x26.v) <|
  free_Lists_Drain_s0 l x6_1 c s
@[reducible] def free_Lists_Drain_s2 (l : (Option Addr)) (mutator : Int) (x6_1 : Int) (c : ((Int × Unit) → K)) (k_1 : Int) : K :=
  alK (.cells #[.int .i64 0, .int .i64 0] 201) fun b =>
  stK (Addr.add ⟨b, 0, none⟩ 0) (.int .i64 mutator) <|
  stK (Addr.add ⟨b, 0, none⟩ 1) (.int .i64 k_1) <|
  free_Lists_Drain_s1 l x6_1 c k_1 ⟨b, 0, none⟩
@[reducible] def free_Lists_Drain_s3 (l : (Option Addr)) (mutator : Int) (k : (Unit → K)) (x6_1 : Int) (c : ((Int × Unit) → K)) (x7 : Bool) : K :=
  brK x7
  (free_Lists_Drain_s2 l mutator x6_1 c x6_1)
  (k ())
@[reducible] def free_Lists_Drain_l4 (l : (Option Addr)) (mutator : Int) (k : (Unit → K)) (x6_1 : Int) (c : ((Int × Unit) → K)) : K :=
  free_Lists_Drain_s3 l mutator k x6_1 c (decide (x6_1 < 32))
@[reducible] def free_Lists_Drain_s5 (l : (Option Addr)) (mutator : Int) (k : (Unit → K)) (x6 : Int) : K :=
  lp (fun (z_ : (Int × Unit)) c_ => free_Lists_Drain_l4 l mutator k z_.1 c_) (x6, ())
@[reducible] def free_Lists_Drain (l : (Option Addr)) (mutator : Int) : M Unit := fun k =>
  free_Lists_Drain_s5 l mutator k 0
theorem free_Lists_Drain_ok (l : (Option Addr)) (mutator : Int) (k : Unit → K) (w : World) (hyp_ : free_Lists_Drain l mutator k w) : c_free_Lists_Drain l mutator k w :=
  cl_of (P := Tryz.prog) Tryz.func203 rfl (by kernel_rfl)
  (RefK.seq [(6, .int .i64)] [0, 1] (fun z_ => [(6, .int .i64 z_.1), (0, .pointer l), (1, .int .i64 mutator)]) (fun z_ => free_Lists_Drain_s5 l mutator k z_.1) (by kernel_rfl) (fun _ => by kernel_rfl)
  (RefK.plain [] (by kernel_rfl))
  (fun ⟨x6, _⟩ => RefK.block (RefK.loop [(6, .int .i64)] [0, 1] (fun z_ => [(6, .int .i64 z_.1), (0, .pointer l), (1, .int .i64 mutator)]) (fun (z_ : (Int × Unit)) c_ => free_Lists_Drain_l4 l mutator k z_.1 c_) (x6, ()) (by kernel_rfl) (fun _ => by kernel_rfl) (by kernel_rfl) (by kernel_rfl)
  (fun ⟨x6_1, _⟩ c => RefK.seq [(7, .bool)] [0, 1, 6] (fun z_ => [(7, .bool z_.1), (0, .pointer l), (1, .int .i64 mutator), (6, .int .i64 x6_1)]) (fun z_ => free_Lists_Drain_s3 l mutator k x6_1 c z_.1) (by kernel_rfl) (fun _ => by kernel_rfl)
  (RefK.plain [] (by kernel_rfl))
  (fun ⟨x7, _⟩ => RefK.seq [] [0, 1, 6] (fun z_ => [(0, .pointer l), (1, .int .i64 mutator), (6, .int .i64 x6_1)]) (fun z_ => free_Lists_Drain_s2 l mutator x6_1 c x6_1) (by kernel_rfl) (fun _ => by kernel_rfl)
  (RefK.cond (b := x7) (t1 := free_Lists_Drain_s2 l mutator x6_1 c x6_1) (t2 := k ()) (by kernel_rfl) (by kernel_rfl) (fun w h => brK_spec w h) (RefK.skip (by kernel_rfl)) (RefK.exit (by kernel_rfl)))
  (fun _ => RefK.seq [] [0, 1, 6] (fun z_ => [(0, .pointer l), (1, .int .i64 mutator), (6, .int .i64 x6_1)]) (fun z_ => c ((IntKind.wrap .i64 (x6_1 + 1)), ())) (by kernel_rfl) (fun _ => by kernel_rfl)
  (RefK.block (RefK.seq [(4, .int .i64)] [0, 1, 6] (fun z_ => [(4, .int .i64 z_.1), (0, .pointer l), (1, .int .i64 mutator), (6, .int .i64 x6_1)]) (fun z_ => free_Lists_Drain_s2 l mutator x6_1 c z_.1) (by kernel_rfl) (fun _ => by kernel_rfl)
  (RefK.plain [] (by kernel_rfl))
  (fun ⟨k_1, _⟩ => RefK.seq [(5, .addr)] [0, 1, 4, 6] (fun z_ => [(5, .pointer (some z_.1)), (0, .pointer l), (1, .int .i64 mutator), (4, .int .i64 k_1), (6, .int .i64 x6_1)]) (fun z_ => free_Lists_Drain_s1 l x6_1 c k_1 z_.1) (by kernel_rfl) (fun _ => by kernel_rfl)
  (RefK.plain [] (by kernel_rfl))
  (fun ⟨s, _⟩ => RefK.seq [] [0, 1, 5, 6] (fun z_ => [(0, .pointer l), (1, .int .i64 mutator), (5, .pointer (some s)), (6, .int .i64 x6_1)]) (fun z_ => free_Lists_Drain_s0 l x6_1 c s) (by kernel_rfl) (fun _ => by kernel_rfl)
  (RefK.draw [] [0, 0, 0, 0, 4, 20, 60, 124, 0, 256, 768, 1792, 0, 7936, 16380, 1, 32769, 131071, 262143] [0, 1, 2, 3, 4, 5, 6, 7, 8, 9, 10, 11, 12, 13, 15, 16, 14, 17, 18] [0, 1, 2, 3, 4, 5, 6, 7, 8, 9, 10, 11, 12, 13, 14, 15, 16, 17, 18] (by kernel_rfl) (by kernel_rfl))
  (fun _ => RefK.draw [] [0, 1, 3, 7, 0, 31] [0, 1, 2, 3, 4, 5] [0, 1, 2, 3, 4, 5] (by kernel_rfl) (by kernel_rfl))))))
  (fun _ => RefK.plain [] (by kernel_rfl)))))))) hyp_
@[reducible] def runs_Index_List_1_s0 (k : (Int → K)) (x4 : Int) : K :=
  k x4
@[reducible] def runs_Index_List_1_s1 (k : (Int → K)) (a_1 : Addr) (b_1 : Addr) : K :=
  ldI .i64 (Addr.add a_1 0) fun x6 =>
  ldI .i64 (Addr.add b_1 0) fun x8 =>
  runs_Index_List_1_s0 k (IntKind.wrap .i64 (x6 - x8))
@[reducible] def runs_Index_List_1 (a : (Int × Int)) (b : (Int × Int)) : M Int := fun k =>
  alK (.cells #[.int .i64 a.1, .int .i64 a.2] 152) fun b_2 =>
  alK (.cells #[.int .i64 b.1, .int .i64 b.2] 152) fun b_3 =>
  runs_Index_List_1_s1 k ⟨b_2, 0, none⟩ ⟨b_3, 0, none⟩
theorem runs_Index_List_1_ok (a : (Int × Int)) (b : (Int × Int)) (k : Int → K) (w : World) (hyp_ : runs_Index_List_1 a b k w) : c_runs_Index_List_1 a b k w :=
  cl_of (P := Tryz.prog) Tryz.func208 rfl (by kernel_rfl)
  (RefK.seq [(2, .addr), (3, .addr)] [] (fun z_ => [(2, .pointer (some z_.1)), (3, .pointer (some z_.2.1))]) (fun z_ => runs_Index_List_1_s1 k z_.1 z_.2.1) (by kernel_rfl) (fun _ => by kernel_rfl)
  (RefK.plain [] (by kernel_rfl))
  (fun ⟨a_1, b_1, _⟩ => RefK.seq [(4, .int .i64)] [] (fun z_ => [(4, .int .i64 z_.1)]) (fun z_ => runs_Index_List_1_s0 k z_.1) (by kernel_rfl) (fun _ => by kernel_rfl)
  (RefK.plain [] (by kernel_rfl))
  (fun ⟨x4, _⟩ => RefK.ret (by kernel_rfl)))) hyp_
@[reducible] def blocks_Read_s0 (k : ((Sl × (Int × Int)) → K)) (x4 : Sl) (x5 : Int) (x6 : Int) : K :=
  k (x4, (x5, x6))
@[reducible] def blocks_Read_s1 (out : Sl) (b_1 : Int) (c : ((Int × Unit) → K)) (h : Addr) : K :=
  ldI .i64 (Addr.add h 0) fun x36_0 =>
  ldI .i64 (Addr.add h 1) fun x36_1 =>
  ldI .i64 (Addr.add h 2) fun x36_2 =>
  ixS out.p out.n b_1 3 fun x37 =>
  stK (Addr.add x37 0) (.int .i64 x36_0) <|
  stK (Addr.add x37 1) (.int .i64 x36_1) <|
  stK (Addr.add x37 2) (.int .i64 x36_2) <|
  c ((IntKind.wrap .i64 (b_1 + 1)), ())
@[reducible] def blocks_Read_s2 (k : ((Sl × (Int × Int)) → K)) (x4_1 : Sl) (x5_1 : Int) (x6_1 : Int) : K :=
  k (x4_1, (x5_1, x6_1))
@[reducible] def blocks_Read_s3 (k : ((Sl × (Int × Int)) → K)) (out : Sl) (b_1 : Int) (c : ((Int × Unit) → K)) (h : Addr) (x32 : Bool) : K :=
  brK x32
  (blocks_Read_s2 k ⟨none, 0, 0⟩ b_1 21)
  (blocks_Read_s1 out b_1 c h)
@[reducible] def blocks_Read_s4 (k : ((Sl × (Int × Int)) → K)) (out : Sl) (b_1 : Int) (c : ((Int × Unit) → K)) (h : Addr) (e : Int) : K :=
  blocks_Read_s3 k out b_1 c h (e != 0)
@[reducible] def blocks_Read_s5 (d : (Option Addr)) (k : ((Sl × (Int × Int)) → K)) (g_1 : Addr) (out : Sl) (b_1 : Int) (c : ((Int × Unit) → K)) : K :=
  ldI .i64 (Addr.add g_1 0) fun x24_0 =>
  c_geom_Geometry_Header x24_0 b_1 fun x26 =>
  c_nvm_Device_Get d x26 fun x27 =>
  c_bhead_Decode b_1 x27 fun x28 =>
  alK (.cells #[.int .i64 0, .int .i64 0, .int .i64 0] 143) fun b_2 =>
  stK (Addr.add ⟨b_2, 0, none⟩ 0) (.int .i64 x28.1.1) <|
  stK (Addr.add ⟨b_2, 0, none⟩ 1) (.int .i64 x28.1.2.1) <|
  stK (Addr.add ⟨b_2, 0, none⟩ 2) (.int .i64 x28.1.2.2) <|
  blocks_Read_s4 k out b_1 c ⟨b_2, 0, none⟩ x28.2
@[reducible] def blocks_Read_s6 (d : (Option Addr)) (k : ((Sl × (Int × Int)) → K)) (g_1 : Addr) (out : Sl) (b_1 : Int) (c : ((Int × Unit) → K)) (x18 : Bool) : K :=
  brK x18
  (blocks_Read_s5 d k g_1 out b_1 c)
  (blocks_Read_s0 k out 0 0)
@[reducible] def blocks_Read_l7 (d : (Option Addr)) (k : ((Sl × (Int × Int)) → K)) (g_1 : Addr) (out : Sl) (b_1 : Int) (c : ((Int × Unit) → K)) : K :=
  ldI .i64 (Addr.add g_1 0) fun x17 =>
  blocks_Read_s6 d k g_1 out b_1 c (decide (b_1 < x17))
@[reducible] def blocks_Read_s8 (d : (Option Addr)) (k : ((Sl × (Int × Int)) → K)) (g_1 : Addr) (out : Sl) (b : Int) : K :=
  lp (fun (z_ : (Int × Unit)) c_ => blocks_Read_l7 d k g_1 out z_.1 c_) (b, ())
@[reducible] def blocks_Read_s9 (d : (Option Addr)) (k : ((Sl × (Int × Int)) → K)) (g_1 : Addr) (out : Sl) : K :=
  blocks_Read_s8 d k g_1 out 1
@[reducible] def blocks_Read_s10 (d : (Option Addr)) (k : ((Sl × (Int × Int)) → K)) (g_1 : Addr) : K :=
  ldI .i64 (Addr.add g_1 0) fun x12 =>
  mkS Tryz.prog 143 (max2I 0 x12) (max2I 0 x12) fun b_3 =>
  blocks_Read_s9 d k g_1 ⟨(some ⟨b_3, 0, none⟩), (Int.toNat (max2I 0 x12)), (Int.toNat (max2I 0 x12))⟩
@[reducible] def blocks_Read (d : (Option Addr)) (g : Int) : M (Sl × (Int × Int)) := fun k =>
  alK (.cells #[.int .i64 g] 43) fun b_4 =>
  blocks_Read_s10 d k ⟨b_4, 0, none⟩
theorem blocks_Read_ok (d : (Option Addr)) (g : Int) (k : (Sl × (Int × Int)) → K) (w : World) (hyp_ : blocks_Read d g k w) : c_blocks_Read d g k w :=
  cl_of (P := Tryz.prog) Tryz.func220 rfl (by kernel_rfl)
  (RefK.seq [(3, .addr)] [0] (fun z_ => [(3, .pointer (some z_.1)), (0, .pointer d)]) (fun z_ => blocks_Read_s10 d k z_.1) (by kernel_rfl) (fun _ => by kernel_rfl)
  (RefK.plain [] (by kernel_rfl))
  (fun ⟨g_1, _⟩ => RefK.seq [(7, .slice)] [0, 3] (fun z_ => [(7, z_.1.v), (0, .pointer d), (3, .pointer (some g_1))]) (fun z_ => blocks_Read_s9 d k g_1 z_.1) (by kernel_rfl) (fun _ => by kernel_rfl)
  (RefK.plain [] (by kernel_rfl))
  (fun ⟨out, _⟩ => RefK.seq [] [7] (fun z_ => [(7, out.v)]) (fun z_ => blocks_Read_s0 k out 0 0) (by kernel_rfl) (fun _ => by kernel_rfl)
  (RefK.seq [(8, .int .i64)] [0, 3, 7] (fun z_ => [(8, .int .i64 z_.1), (0, .pointer d), (3, .pointer (some g_1)), (7, out.v)]) (fun z_ => blocks_Read_s8 d k g_1 out z_.1) (by kernel_rfl) (fun _ => by kernel_rfl)
  (RefK.plain [] (by kernel_rfl))
  (fun ⟨b, _⟩ => RefK.block (RefK.loop [(8, .int .i64)] [0, 3, 7] (fun z_ => [(8, .int .i64 z_.1), (0, .pointer d), (3, .pointer (some g_1)), (7, out.v)]) (fun (z_ : (Int × Unit)) c_ => blocks_Read_l7 d k g_1 out z_.1 c_) (b, ()) (by kernel_rfl) (fun _ => by kernel_rfl) (by kernel_rfl) (by kernel_rfl)
  (fun ⟨b_1, _⟩ c => RefK.seq [] [0, 3, 7, 8] (fun z_ => [(0, .pointer d), (3, .pointer (some g_1)), (7, out.v), (8, .int .i64 b_1)]) (fun z_ => blocks_Read_s5 d k g_1 out b_1 c) (by kernel_rfl) (fun _ => by kernel_rfl)
  (RefK.seq [(18, .bool)] [0, 3, 7, 8] (fun z_ => [(18, .bool z_.1), (0, .pointer d), (3, .pointer (some g_1)), (7, out.v), (8, .int .i64 b_1)]) (fun z_ => blocks_Read_s6 d k g_1 out b_1 c z_.1) (by kernel_rfl) (fun _ => by kernel_rfl)
  (RefK.plain [] (by kernel_rfl))
  (fun ⟨x18, _⟩ => RefK.cond (b := x18) (t1 := blocks_Read_s5 d k g_1 out b_1 c) (t2 := blocks_Read_s0 k out 0 0) (by kernel_rfl) (by kernel_rfl) (fun w h => brK_spec w h) (RefK.skip (by kernel_rfl)) (RefK.exit (by kernel_rfl))))
  (fun _ => RefK.seq [] [0, 3, 7, 8] (fun z_ => [(0, .pointer d), (3, .pointer (some g_1)), (7, out.v), (8, .int .i64 b_1)]) (fun z_ => c ((IntKind.wrap .i64 (b_1 + 1)), ())) (by kernel_rfl) (fun _ => by kernel_rfl)
  (RefK.block (RefK.seq [(9, .addr), (10, .int .i64)] [0, 3, 7, 8] (fun z_ => [(9, .pointer (some z_.1)), (10, .int .i64 z_.2.1), (0, .pointer d), (3, .pointer (some g_1)), (7, out.v), (8, .int .i64 b_1)]) (fun z_ => blocks_Read_s4 k out b_1 c z_.1 z_.2.1) (by kernel_rfl) (fun _ => by kernel_rfl)
  (RefK.plain [] (by kernel_rfl))
  (fun ⟨h, e, _⟩ => RefK.seq [] [0, 3, 7, 8, 9] (fun z_ => [(0, .pointer d), (3, .pointer (some g_1)), (7, out.v), (8, .int .i64 b_1), (9, .pointer (some h))]) (fun z_ => blocks_Read_s1 out b_1 c h) (by kernel_rfl) (fun _ => by kernel_rfl)
  (RefK.seq [(32, .bool)] [0, 3, 7, 8, 9] (fun z_ => [(32, .bool z_.1), (0, .pointer d), (3, .pointer (some g_1)), (7, out.v), (8, .int .i64 b_1), (9, .pointer (some h))]) (fun z_ => blocks_Read_s3 k out b_1 c h z_.1) (by kernel_rfl) (fun _ => by kernel_rfl)
  (RefK.plain [] (by kernel_rfl))
  (fun ⟨x32, _⟩ => RefK.cond (b := x32) (t1 := blocks_Read_s2 k ⟨none, 0, 0⟩ b_1 21) (t2 := blocks_Read_s1 out b_1 c h) (by kernel_rfl) (by kernel_rfl) (fun w h => brK_spec w h) (RefK.seq [(4, .slice), (5, .int .i64), (6, .int .i64)] [] (fun z_ => [(4, z_.1.v), (5, .int .i64 z_.2.1), (6, .int .i64 z_.2.2.1)]) (fun z_ => blocks_Read_s2 k z_.1 z_.2.1 z_.2.2.1) (by kernel_rfl) (fun _ => by kernel_rfl)
  (RefK.plain [] (by kernel_rfl))
  (fun ⟨x4_1, x5_1, x6_1, _⟩ => RefK.ret (by kernel_rfl))) (RefK.skip (by kernel_rfl))))
  (fun _ => RefK.plain [] (by kernel_rfl)))))
  (fun _ => RefK.plain [] (by kernel_rfl)))))))
  (fun _ => RefK.seq [(4, .slice), (5, .int .i64), (6, .int .i64)] [] (fun z_ => [(4, z_.1.v), (5, .int .i64 z_.2.1), (6, .int .i64 z_.2.2.1)]) (fun z_ => blocks_Read_s0 k z_.1 z_.2.1 z_.2.2.1) (by kernel_rfl) (fun _ => by kernel_rfl)
  (RefK.plain [] (by kernel_rfl))
  (fun ⟨x4, x5, x6, _⟩ => RefK.ret (by kernel_rfl)))))) hyp_
@[reducible] def runs_New_s0 (k : ((Option Addr) → K)) (x2 : Addr) : K :=
  k (some x2)
@[reducible] def runs_New_s1 (limit : Int) (k : ((Option Addr) → K)) : K :=
  alK (.map #[] 0) fun b =>
  alK (.map #[] 0) fun b_1 =>
  alK (.cells #[.map (some b), .map (some b_1), .int .i64 (max2I limit 0)] 242) fun b_2 =>
  runs_New_s0 k ⟨b_2, 0, none⟩
@[reducible] def runs_New (limit : Int) : M (Option Addr) := fun k =>
  runs_New_s1 limit k
theorem runs_New_ok (limit : Int) (k : (Option Addr) → K) (w : World) (hyp_ : runs_New limit k w) : c_runs_New limit k w :=
  cl_of (P := Tryz.prog) Tryz.func221 rfl (by kernel_rfl)
  (RefK.seq [] [0] (fun z_ => [(0, .int .i64 limit)]) (fun z_ => runs_New_s1 limit k) (by kernel_rfl) (fun _ => by kernel_rfl)
  (RefK.plain [] (by kernel_rfl))
  (fun _ => RefK.seq [(2, .addr)] [] (fun z_ => [(2, .pointer (some z_.1))]) (fun z_ => runs_New_s0 k z_.1) (by kernel_rfl) (fun _ => by kernel_rfl)
  (RefK.plain [] (by kernel_rfl))
  (fun ⟨x2, _⟩ => RefK.ret (by kernel_rfl)))) hyp_
@[reducible] def blocks_Spans_s0 (k : (Sl → K)) (x2 : Sl) : K :=
  k x2
@[reducible] def blocks_Spans_s1 (k : (Sl → K)) (out_1 : Sl) : K :=
  blocks_Spans_s0 k out_1
@[reducible] def blocks_Spans_s2 (b_1 : Int) (c : ((Sl × Int × Unit) → K)) (out_3 : Sl) : K :=
  c (out_3, (IntKind.wrap .i64 (b_1 + 1)), ())
@[reducible] def blocks_Spans_s3 (out_2 : Sl) (b_1 : Int) (c : ((Sl × Int × Unit) → K)) : K :=
  ixS out_2.p out_2.n (IntKind.wrap .i64 (((out_2.n : Nat) : Int) - 1)) 2 fun x50 =>
  ldI .i64 (Addr.add x50 1) fun x52 =>
  ixS out_2.p out_2.n (IntKind.wrap .i64 (((out_2.n : Nat) : Int) - 1)) 2 fun x54 =>
  stK (Addr.add (Addr.add x54 1) 0) (.int .i64 (IntKind.wrap .i64 (x52 + 1))) <|
  blocks_Spans_s2 b_1 c out_2
@[reducible] def blocks_Spans_s4 (out_2 : Sl) (b_1 : Int) (c : ((Sl × Int × Unit) → K)) : K :=
  alK (.cells #[.int .i64 b_1, .int .i64 1] 152) fun b_2 =>
  semT Tryz.prog (Builtin.append_ #[150, 150] 150 #[out_2.v, .slice (some ⟨b_2, 0, none⟩) 1 1]) (.one (.sc (.slice))) fun x15 =>
  blocks_Spans_s2 b_1 c x15
@[reducible] def blocks_Spans_s5 (out_2 : Sl) (b_1 : Int) (c : ((Sl × Int × Unit) → K)) (x23 : Bool) : K :=
  brK x23
  (blocks_Spans_s3 out_2 b_1 c)
  (blocks_Spans_s4 out_2 b_1 c)
@[reducible] def blocks_Spans_s6 (out_2 : Sl) (b_1 : Int) (c : ((Sl × Int × Unit) → K)) : K :=
  tick fun _ =>
  brK (decide (((out_2.n : Nat) : Int) > 0))
  (ixS out_2.p out_2.n (IntKind.wrap .i64 (((out_2.n : Nat) : Int) - 1)) 2 fun x32 =>
  ldI .i64 (Addr.add x32 0) fun x34 =>
  ixS out_2.p out_2.n (IntKind.wrap .i64 (((out_2.n : Nat) : Int) - 1)) 2 fun x39 =>
  ldI .i64 (Addr.add x39 1) fun x41 =>
  blocks_Spans_s5 out_2 b_1 c ((IntKind.wrap .i64 (x34 + x41)) == b_1))
  (blocks_Spans_s5 out_2 b_1 c false)
@[reducible] def blocks_Spans_s7 (out_2 : Sl) (b_1 : Int) (c : ((Sl × Int × Unit) → K)) (x16 : Bool) : K :=
  brK x16
  (blocks_Spans_s2 b_1 c out_2)
  (blocks_Spans_s6 out_2 b_1 c)
@[reducible] def blocks_Spans_s8 (list : Sl) (out_2 : Sl) (b_1 : Int) (c : ((Sl × Int × Unit) → K)) : K :=
  ixS list.p list.n b_1 3 fun x19 =>
  ldI .i64 (Addr.add x19 0) fun x21 =>
  blocks_Spans_s7 out_2 b_1 c (x21 != 0)
@[reducible] def blocks_Spans_s9 (list : Sl) (k : (Sl → K)) (out_2 : Sl) (b_1 : Int) (c : ((Sl × Int × Unit) → K)) (x8 : Bool) : K :=
  brK x8
  (blocks_Spans_s8 list out_2 b_1 c)
  (blocks_Spans_s1 k out_2)
@[reducible] def blocks_Spans_l10 (list : Sl) (k : (Sl → K)) (out_2 : Sl) (b_1 : Int) (c : ((Sl × Int × Unit) → K)) : K :=
  blocks_Spans_s9 list k out_2 b_1 c (decide (b_1 < ((list.n : Nat) : Int)))
@[reducible] def blocks_Spans_s11 (list : Sl) (k : (Sl → K)) (out : Sl) (b : Int) : K :=
  lp (fun (z_ : (Sl × Int × Unit)) c_ => blocks_Spans_l10 list k z_.1 z_.2.1 c_) (out, b, ())
@[reducible] def blocks_Spans_s12 (list : Sl) (k : (Sl → K)) (out : Sl) : K :=
  blocks_Spans_s11 list k out 1
@[reducible] def blocks_Spans (list : Sl) : M Sl := fun k =>
  blocks_Spans_s12 list k ⟨none, 0, 0⟩
theorem blocks_Spans_ok (list : Sl) (k : Sl → K) (w : World) (hyp_ : blocks_Spans list k w) : c_blocks_Spans list k w :=
  cl_of (P := Tryz.prog) Tryz.func222 rfl (by kernel_rfl)
  (RefK.seq [] [0] (fun z_ => [(0, list.v)]) (fun z_ => blocks_Spans_s12 list k ⟨none, 0, 0⟩) (by kernel_rfl) (fun _ => by kernel_rfl)
  (RefK.plain [] (by kernel_rfl))
  (fun _ => RefK.seq [(3, .slice)] [0] (fun z_ => [(3, z_.1.v), (0, list.v)]) (fun z_ => blocks_Spans_s12 list k z_.1) (by kernel_rfl) (fun _ => by kernel_rfl)
  (RefK.plain [] (by kernel_rfl))
  (fun ⟨out, _⟩ => RefK.seq [(3, .slice)] [] (fun z_ => [(3, z_.1.v)]) (fun z_ => blocks_Spans_s1 k z_.1) (by kernel_rfl) (fun _ => by kernel_rfl)
  (RefK.seq [(4, .int .i64)] [0, 3] (fun z_ => [(4, .int .i64 z_.1), (0, list.v), (3, out.v)]) (fun z_ => blocks_Spans_s11 list k out z_.1) (by kernel_rfl) (fun _ => by kernel_rfl)
  (RefK.plain [] (by kernel_rfl))
  (fun ⟨b, _⟩ => RefK.block (RefK.loop [(3, .slice), (4, .int .i64)] [0] (fun z_ => [(3, z_.1.v), (4, .int .i64 z_.2.1), (0, list.v)]) (fun (z_ : (Sl × Int × Unit)) c_ => blocks_Spans_l10 list k z_.1 z_.2.1 c_) (out, b, ()) (by kernel_rfl) (fun _ => by kernel_rfl) (by kernel_rfl) (by kernel_rfl)
  (fun ⟨out_2, b_1, _⟩ c => RefK.seq [] [0, 3, 4] (fun z_ => [(0, list.v), (3, out_2.v), (4, .int .i64 b_1)]) (fun z_ => blocks_Spans_s8 list out_2 b_1 c) (by kernel_rfl) (fun _ => by kernel_rfl)
  (RefK.seq [(8, .bool)] [0, 3, 4] (fun z_ => [(8, .bool z_.1), (0, list.v), (3, out_2.v), (4, .int .i64 b_1)]) (fun z_ => blocks_Spans_s9 list k out_2 b_1 c z_.1) (by kernel_rfl) (fun _ => by kernel_rfl)
  (RefK.plain [] (by kernel_rfl))
  (fun ⟨x8, _⟩ => RefK.cond (b := x8) (t1 := blocks_Spans_s8 list out_2 b_1 c) (t2 := blocks_Spans_s1 k out_2) (by kernel_rfl) (by kernel_rfl) (fun w h => brK_spec w h) (RefK.skip (by kernel_rfl)) (RefK.exit (by kernel_rfl))))
  (fun _ => RefK.seq [(3, .slice)] [0, 4] (fun z_ => [(3, z_.1.v), (0, list.v), (4, .int .i64 b_1)]) (fun z_ => blocks_Spans_s2 b_1 c z_.1) (by kernel_rfl) (fun _ => by kernel_rfl)
  (RefK.block (RefK.block (RefK.seq [(16, .bool)] [0, 3, 4] (fun z_ => [(16, .bool z_.1), (0, list.v), (3, out_2.v), (4, .int .i64 b_1)]) (fun z_ => blocks_Spans_s7 out_2 b_1 c z_.1) (by kernel_rfl) (fun _ => by kernel_rfl)
  (RefK.plain [] (by kernel_rfl))
  (fun ⟨x16, _⟩ => RefK.cond (b := x16) (t1 := blocks_Spans_s2 b_1 c out_2) (t2 := blocks_Spans_s6 out_2 b_1 c) (by kernel_rfl) (by kernel_rfl) (fun w h => brK_spec w h) (RefK.skip (by kernel_rfl)) (RefK.seq [(23, .bool)] [0, 3, 4] (fun z_ => [(23, .bool z_.1), (0, list.v), (3, out_2.v), (4, .int .i64 b_1)]) (fun z_ => blocks_Spans_s5 out_2 b_1 c z_.1) (by kernel_rfl) (fun _ => by kernel_rfl)
  (RefK.draw [3] [0, 1, 3, 7, 15, 15, 47, 111, 255, 511, 1023, 15, 15, 4111, 12303, 30735, 63503, 129039, 262143, 15, 1048575, 2097151, 4194303] [0, 1, 2, 3, 4, 5, 6, 7, 8, 9, 10, 11, 12, 13, 14, 15, 16, 17, 18, 19, 20, 21, 22] [0, 1, 2, 3, 4, 5, 6, 7, 8, 9, 10, 11, 12, 13, 14, 15, 16, 17, 18, 19, 20, 21, 22] (by kernel_rfl) (by kernel_rfl))
  (fun ⟨x23, _⟩ => RefK.cond (b := x23) (t1 := blocks_Spans_s3 out_2 b_1 c) (t2 := blocks_Spans_s4 out_2 b_1 c) (by kernel_rfl) (by kernel_rfl) (fun w h => brK_spec w h) (RefK.plain [] (by kernel_rfl)) (RefK.plain [] (by kernel_rfl))))))))
  (fun ⟨out_3, _⟩ => RefK.plain [] (by kernel_rfl)))))))
  (fun ⟨out_1, _⟩ => RefK.seq [(2, .slice)] [] (fun z_ => [(2, z_.1.v)]) (fun z_ => blocks_Spans_s0 k z_.1) (by kernel_rfl) (fun _ => by kernel_rfl)
  (RefK.plain [] (by kernel_rfl))
  (fun ⟨x2, _⟩ => RefK.ret (by kernel_rfl)))))) hyp_
end Go.Proofs.YtdgcbapclnnkkaaGreat.X
end
section
/- Contracts: the table of blocks' headers. Conditions: at most 2^20 blocks. -/
set_option linter.unusedVariables false
set_option maxRecDepth 4000
namespace Go.Proofs.YtdgcbapclnnkkaaGreat.X
open Go
/-- headers written from a block on -/
def wrH (c : List Int) (b : Nat) : List Hd → List Int
  | [] => c
  | x :: xs => wrH (c.set (256 + b) (benc b x)) (b + 1) xs
theorem wrH_snoc (xs : List Hd) (x : Hd) : ∀ (c : List Int) (b : Nat), wrH c b (xs ++ [x]) = (wrH c b xs).set (256 + (b + xs.length)) (benc ((b + xs.length : Nat) : Int) x) := by
  induction xs with
  | nil => intro c b; rfl
  | cons y ys ih =>
    intro c b
    show wrH (c.set (256 + b) (benc b y)) (b + 1) (ys ++ [x]) = _
    rw [ih]
    show _ = (wrH (c.set (256 + b) (benc b y)) (b + 1) ys).set _ _
    have e : b + 1 + ys.length = b + (y :: ys).length := by simp; omega
    rw [e]
theorem wrH_length (xs : List Hd) : ∀ (c : List Int) (b : Nat), (wrH c b xs).length = c.length := by
  induction xs with
  | nil => intro c b; rfl
  | cons y ys ih => intro c b; show (wrH _ _ ys).length = _; rw [ih]; simp
theorem wrH_get (xs : List Hd) : ∀ (c : List Int) (b i : Nat), (wrH c b xs)[i]? = if i < 256 + b ∨ 256 + b + xs.length ≤ i ∨ c.length ≤ i then c[i]? else (xs[i - (256 + b)]?).map (benc ((i - 256 : Nat) : Int)) := by
  induction xs with
  | nil => intro c b i; show c[i]? = _; rw [if_pos (by simp; omega)]
  | cons y ys ih =>
    intro c b i
    show (wrH (c.set (256 + b) (benc b y)) (b + 1) ys)[i]? = _
    rw [ih]
    simp only [List.length_set, List.length_cons, List.getElem?_set]
    by_cases h1 : i < 256 + b ∨ 256 + b + (ys.length + 1) ≤ i ∨ c.length ≤ i
    · rw [if_pos h1]
      split
      · by_cases e : 256 + b = i
        · rw [if_pos e, if_neg (by omega), List.getElem?_eq_none (by omega)]
        · rw [if_neg e]
      · omega
    · rw [if_neg h1]
      by_cases h2 : i = 256 + b
      · subst h2
        rw [if_pos (by omega), if_pos rfl, if_pos (by omega)]
        simp
      · rw [if_neg (by omega)]
        rw [show i - (256 + b) = (i - (256 + (b + 1))) + 1 by omega, List.getElem?_cons_succ]
section
variable {B : World} {P R : SL} {t : K}
theorem blocks_Format_c {d n : Nat} {g : Nat} {c la : List Int} (hg : 2 ≤ g) (hg2 : g ≤ 2 ^ 20) (hn : n = 64 * g) {k : Int → K}
    (hk : ∀ la', Pst n ((257 : Int) / 8).toNat (((257 : Int) + (g - 1) - 1) / 8 + 1).toNat (wrH c 1 (List.replicate (g - 1) (0, 0, 0))) la la' → T B (R * LDev d n (wrH c 1 (List.replicate (g - 1) (0, 0, 0))) la') (k 0)) : T B (R * LDev d n c la) (c_blocks_Format (da d) g k) := by
  refine T_of (blocks_Format_ok _ g k) ?_
  (repeat ((with_reducible refine T_al ?_; intro _)))
  rename_i b
  refine T_lpX (fun _ s => R * LDev d n (wrH c 1 (List.replicate (s.1.toNat - 1) (0, 0, 0))) la * pt b (.cells [.int .i64 g].toArray 43))
    (fun m (s : Int × Unit) => ∃ i : Nat, 1 ≤ i ∧ i ≤ g ∧ s.1 = i ∧ m = g - i) (g - 1) rfl ⟨1, by omega, by omega, rfl, rfl⟩ ?_
  rintro m ⟨s1, u⟩ cc ⟨i, h1, h2, h3, h4⟩ hc
  simp only at h3
  subst h3 h4
  simp only [Int.toNat_natCast]
  (repeat' (first | with_reducible refine T_tick ?_ | ((with_reducible apply T_ldI); (focus rfl); (focus exact hasA); (focus rfl)) | with_reducible refine T_brD (fun _ => ?_) (fun _ => ?_)))
  · rename_i hlt
    refine geom_Header_c (by omega) ?_
    have hh : header g i = 256 + i := by unfold header; rw [if_neg (by omega)]
    rw [hh]
    refine bhead_Encode_c (by omega) (by omega) ?_
    refine T_bring (X := LDev d n (wrH c 1 (List.replicate (i - 1) (0, 0, 0))) la) (.init .last) ?_
    refine LStore_c (by omega) (by omega) ?_
    (repeat' (with_reducible refine T_brNE (fun _ => ?_) (fun _ => ?_)))
    · rename_i hx; exact absurd rfl hx
    · refine T.perm ?_ (hc (g - (i + 1)) (IntKind.wrap .i64 ((i : Int) + 1), ()) (by omega) ⟨i + 1, by omega, by omega, w64 (by omega) (by omega), rfl⟩)
      have e : (IntKind.wrap .i64 ((i : Int) + 1)).toNat = i + 1 := by rw [w64 (by omega) (by omega)]; omega
      simp only [e]
      have e2 : List.replicate (i + 1 - 1) ((0, 0, 0) : Hd) = List.replicate (i - 1) (0, 0, 0) ++ [(0, 0, 0)] := by
        rw [← List.replicate_succ']; congr 1; omega
      rw [e2, wrH_snoc]
      have e3 : 256 + (1 + (List.replicate (i - 1) ((0, 0, 0) : Hd)).length) = (256 + (i : Int)).toNat := by simp; omega
      have e4 : ((1 + (List.replicate (i - 1) ((0, 0, 0) : Hd)).length : Nat) : Int) = i := by simp; omega
      rw [e3, e4]
      ac_rfl
  · rename_i hge
    have : i = g := by omega
    subst this
    refine geom_Header_c (by omega) ?_
    have hh : header i 1 = 257 := by unfold header; rw [if_neg (by omega)]; rfl
    rw [hh]
    (repeat (first | with_reducible refine T_chk0 ?_ | ((with_reducible apply T_chk); (focus rfl); (focus exact hasA); (focus rfl))))
    rw [w64 (by omega) (by omega)]
    refine T_bring (X := LDev d n (wrH c 1 (List.replicate (i - 1) (0, 0, 0))) la) (.init .last) ?_
    refine LPersist_c (by omega) (by omega) (by omega) fun la' hp => ?_
    have := (hk la' hp).weak (Q := pt b (.cells [.int .i64 i].toArray 43))
    refine T.perm ?_ this
    ac_rfl
end
end Go.Proofs.YtdgcbapclnnkkaaGreat.X
end
