/- Part 6 of the proof that the law holds for every input: the theorems of this part. Conditions: each theorem bears its own; the last has none. -/
import Derived.Test.YtdgcbapclnnkkaaGreatKe
import Derived.Shelf.Sort.Plain
import Derived.Shelf.SlSortCmp.WholeK
import Derived.Shelf.SlSortCmp.NoneTotal
import Derived.Shelf.Slices.In.SortNone
import Derived.Ground.SlsfProg
import Derived.Test.YtdgcbapclnnkkaaGreatProg
import Derived.RangeFuncNested
import Derived.RangeFuncBound
import Derived.RangeFuncCalls
import Derived.RangeFuncLeaves
import Derived.Shelf.Abstract
import Derived.Shelf.RegionOpen
import Derived.WalkKit
import Derived.OwnWalkIn
import Derived.TacticsInMore
import Derived.LoopNIn
import Derived.LoopIn
set_option linter.all false
section
/- Contracts: a free cell for a mutator; a cell given back. Conditions: lists below 2^30 elements. -/
set_option linter.unusedVariables false
set_option maxRecDepth 4000
namespace Go.Proofs.YtdgcbapclnnkkaaGreat.X
open Go
/-- two lists of one class turned, by one cell -/
def Turn (L L' : Nat → List Int) (m k : Nat) : Prop := ∀ i, i ≠ k → i ≠ ix m k → L' i = L i
section
variable {B : World} {P R : SL} {t : K}
theorem free_Take_c {a : Nat} {L : Nat → List Int} (hL : ∀ i, i < 160 → (L i).length ≤ 2 ^ 30) {m k : Nat} (hm : m < 4) (hk2 : k < 32) {kk : Int × Int → K}
    (h0 : L k = [] → L (ix m k) = [] → T B (R * Fl a L) (kk (0, 4)))
    (h1 : ∀ x L', Turn L L' m k → (L k ++ L (ix m k)).Perm (x :: (L' k ++ L' (ix m k))) → T B (R * Fl a L') (kk (x, 0))) :
    T B (R * Fl a L) (c_free_Lists_Take (da a) m k kk) := by
  refine T_of (free_Lists_Take_ok _ m k kk) ?_
  refine free_right_c ?_
  rw [decide_eq_true (by omega)]
  have hi : ix m k < 160 := by unfold ix; omega
  have hne : ix m k ≠ k := by unfold ix; omega
  have hlk := hL k (by omega)
  have hli := hL (ix m k) hi
  unfold da
  simp only [Bool.not_true]
  (repeat (first | with_reducible refine T_nn ?_ | with_reducible refine T_tick ?_ | with_reducible refine T_brF ?_ | (with_reducible refine T_al ?_; intro _) | ((with_reducible apply T_st); (focus rfl); (focus (repeat (first | with_reducible exact Upd.last | with_reducible exact Upd.one | with_reducible apply Upd.init))); (focus simp); simp only [List.set, Nat.zero_add, Nat.reduceAdd])))
  rename_i b
  refine T_bring (X := Fl a L) (.init .last) ?_
  -- the last step
  have six : ∀ L2 : Nat → List Int, (L2 (ix m k)).length ≤ 2 ^ 30 → Turn L L2 m k → (L2 k ++ L2 (ix m k) = L k ∧ L (ix m k) = [] ∨ L2 = L) → (L2 (ix m k) = [] → L2 = L ∧ L k = [] ∨ L (ix m k) ≠ []) → (L2 = L → L (ix m k) ≠ []  ∨ L k = []) →
      T B (R * pt b (.cells [.int .i64 m, .int .i64 k].toArray 201) * Fl a L2) (free_Lists_Take_s6 (some ⟨a, 0, none⟩) kk ⟨b, 0, none⟩) := by
    intro L2 hlen htu hsum hemp hself
    refine take6_c hm hk2 hlen (fun he => ?_) (fun ini x hx => ?_)
    · rcases hemp he with ⟨rfl, h⟩ | h
      · exact h0 h he
      · rcases hsum with ⟨_, h2⟩ | rfl
        · exact absurd h2 h
        · exact absurd he h
    · refine h1 x (setN L2 (ix m k) ini) (fun i h1 h2 => by rw [setN_ne _ _ h2]; exact htu i h1 h2) ?_
      rw [setN_same, setN_ne _ _ hne.symm]
      have hp : (L2 k ++ (ini ++ [x])).Perm (x :: (L2 k ++ ini)) := by
        rw [← List.append_assoc]; exact List.perm_append_singleton x (L2 k ++ ini)
      rcases hsum with ⟨h1, h2⟩ | rfl
      · rw [h2, List.append_nil, ← h1, hx]; exact hp
      · rw [hx]; exact hp
  refine Fl_open fun S cs r ok => ?_
  (repeat (first | ((with_reducible apply T_ldI); (focus rfl); (focus (repeat (first | with_reducible exact Has.last | with_reducible exact Has.one | refine Has.init ?_))); (focus rfl)) | ((with_reducible apply T_ldM); (focus rfl); (focus (repeat (first | with_reducible exact Has.last | with_reducible exact Has.one | refine Has.init ?_))); (focus rfl))))
  refine T_lkSlot (cs := cs) (MHas.init (MHas.init (MHas.of .last))) fun ob bb => ?_
  rw [ok.eq m k hm hk2]
  refine T_rdlen (Rd.init (Rd.tail (bigRd (S := S) (L := L) hi))) fun hn => ?_
  rw [ints_len, Nat.mul_one] at hn
  by_cases he : L (ix m k) = []
  · have hn0 : (S (ix m k)).n = 0 := by rw [hn, he]; rfl
    (dsimp only [free_Lists_Take, free_Lists_Take_s0, free_Lists_Take_s1, free_Lists_Take_s2, free_Lists_Take_s3, free_Lists_Take_s4, free_Lists_Take_s5, free_Lists_Take_s6, free_Lists_Take_s7, free_Lists_Take_s8, free_Lists_Take_s9, free_Lists_Take_s10, free_Lists_Take_s11, free_Lists_Take_s12, free_Lists_Take_s13, free_Lists_Take_s14, free_Lists_Take_s15, free_Lists_Take_s16])
    rw [hn0]
    refine T_brE (fun _ => ?_) (fun h => absurd rfl h)
    (repeat (with_reducible refine T_nn ?_))
    refine T_rdlen (Rd.init (Rd.tail (bigRd (S := S) (L := L) (show k < 160 by omega)))) fun hnk => ?_
    rw [ints_len, Nat.mul_one] at hnk
    refine T_gld .last hk2 ?_
    (repeat (with_reducible refine T_nn ?_))
    refine T_gld .last hk2 ?_
    obtain ⟨f, hf, hf2⟩ : ∃ f : Nat, IntKind.wrap .i64 (((S k).n : Int) - min2I ((S k).n : Int) 4) = (f : Int) ∧ f = (L k).length - min (L k).length 4 := by
      refine ⟨_, ?_, rfl⟩
      have : min2I ((S k).n : Int) 4 = ((min (L k).length 4 : Nat) : Int) := by unfold min2I; split <;> omega
      rw [this, w64 (by omega) (by omega)]; omega
    rw [hf]
    (repeat (first | with_reducible refine T_nn ?_ | with_reducible refine T_tick ?_ | ((with_reducible apply T_ldI); (focus rfl); (focus (repeat (first | with_reducible exact Has.last | with_reducible exact Has.one | refine Has.init ?_))); (focus rfl)) | ((with_reducible apply T_ldM); (focus rfl); (focus (repeat (first | with_reducible exact Has.last | with_reducible exact Has.one | refine Has.init ?_))); (focus rfl))))
    refine T_gld .last hk2 ?_
    refine T_lo (by omega) (by omega) ?_
    rw [Int.toNat_natCast]
    have hpc := (bigRd (S := S) (L := L) (show k < 160 by omega)).piece (y := ⟨cutP (S k).p f (S k).c 1, (S k).n - f, (S k).c - f⟩) (o := f) (n := (L k).length - f) (by omega) (by rw [ints_len]; omega) rfl (by simp only; omega) rfl
    have ecut : cut (ints (L k)) (f * 1) (((L k).length - f) * 1) = ints ((L k).drop f) := by
      unfold cut ints
      rw [Nat.mul_one, Nat.mul_one, List.take_of_length_le (by simp), List.map_drop]
    rw [ecut] at hpc
    refine clone_int_c (l := (L k).drop f) (by simp; omega) (Rd.init (Rd.tail hpc)) fun x57 => ?_
    (repeat (first | with_reducible refine T_chk0 ?_ | ((with_reducible apply T_chk); (focus rfl); (focus (repeat (first | with_reducible exact Has.last | with_reducible exact Has.one | refine Has.init ?_))); (focus rfl))))
    refine T_bring (X := MpF eslot esl r cs) (.init (.init (.init .last))) ?_
    refine T_updM (ek := eslot) (ev := esl) kd_slot (v := x57) (key := ((m : Int), (k : Int))) rfl rfl ?_
    -- the map's turned: closed
    rw [bigS_out hi]
    refine T.perm (Q := R * pt b (.cells [.int .i64 m, .int .i64 k].toArray 201) * MpF eslot esl r (updF cs ((m : Int), (k : Int)) x57) * bigX 160 (vI S L) (ix m k) * pt a (.cells (glob (setN S (ix m k) x57) ++ [Value.map (some r)]).toArray 199) * vec 3 1 x57 (ints ((L k).drop f)) * vI S L (ix m k)) ?_ ?_
    · rw [glob_setN S (by unfold ix; omega)]; ac_rfl
    refine T.weak ?_
    refine Fl_put hi (ok.slot hm hk2 x57) ?_
    refine Fl_pick (i := k) (by omega) fun S2 cs2 r2 ok2 => ?_
    rw [setN_ne _ _ hne.symm]
    refine T_vlen .last fun hnk2 => ?_
    rw [ints_len, Nat.mul_one] at hnk2
    (repeat (first | with_reducible refine T_nn ?_ | with_reducible refine T_tick ?_))
    refine T_gld (S := S2) (.init .last) hk2 ?_
    have hcap : ∀ t, ((S2 k).n ≤ (S2 k).c → T B (R * pt b (.cells [.int .i64 m, .int .i64 k].toArray 201) * MpF eslot esl r2 cs2 * bigX 160 (vI S2 (setN L (ix m k) ((L k).drop f))) k * pt a (.cells (glob S2 ++ [Value.map (some r2)]).toArray 199) * vec 3 1 (S2 k) (ints (L k))) t) → T B (R * pt b (.cells [.int .i64 m, .int .i64 k].toArray 201) * MpF eslot esl r2 cs2 * bigX 160 (vI S2 (setN L (ix m k) ((L k).drop f))) k * pt a (.cells (glob S2 ++ [Value.map (some r2)]).toArray 199) * vec 3 1 (S2 k) (ints (L k))) t := by
      intro t h w hw
      have := (Rd.vec (E := 3) (s := S2 k) (vs := ints (L k)) .last) B w hw
      exact h (by omega) w hw
    refine hcap _ fun hc2 => ?_
    refine T_lo (by omega) (by omega) ?_
    rw [Int.toNat_natCast]
    (repeat (with_reducible refine T_nn ?_))
    refine T_gst (S := S2) (s := ⟨cutP (S2 k).p 0 (S2 k).c 1, f - 0, (S2 k).c - 0⟩) hk2 (.init .last) ?_
    refine T_vcut (s' := ⟨cutP (S2 k).p 0 (S2 k).c 1, f - 0, (S2 k).c - 0⟩) (n := f) (by omega) (by simp only [cutP_zero]) (by simp) (by simp) (by rw [ints_len]; omega) ?_
    have e3 : (ints (L k)).take (f * 1) = ints ((L k).take f) := by unfold ints; rw [Nat.mul_one, List.map_take]
    rw [e3]
    refine Fl_put (i := k) (by omega) (ok2.glob hk2 _) ?_
    refine six _ ?_ (fun i h1 h2 => by rw [setN_ne _ _ h1, setN_ne _ _ h2]) (.inl ⟨?_, he⟩) (fun h => .inl ?_) (fun h => .inr ?_)
    · rw [setN_ne _ _ hne, setN_same]; simp; omega
    · rw [setN_same, setN_ne _ _ hne, setN_same]; exact List.take_append_drop f (L k)
    · rw [setN_ne _ _ hne, setN_same] at h
      have hlen := congrArg List.length h
      simp at hlen
      have hz : L k = [] := List.eq_nil_of_length_eq_zero (by omega)
      refine ⟨?_, hz⟩
      funext j
      by_cases hj : j = k
      · subst hj; rw [setN_same, hz]; simp
      · rw [setN_ne _ _ hj]
        by_cases hj2 : j = ix m k
        · subst hj2; rw [setN_same, he, hz]; simp
        · rw [setN_ne _ _ hj2]
    · have h2 := congrFun h (ix m k)
      rw [setN_ne _ _ hne, setN_same, he] at h2
      have hlen := congrArg List.length h2
      simp at hlen
      exact List.eq_nil_of_length_eq_zero (by omega)
  · have hpos : 0 < (L (ix m k)).length := List.length_pos_iff.2 he
    (dsimp only [free_Lists_Take, free_Lists_Take_s0, free_Lists_Take_s1, free_Lists_Take_s2, free_Lists_Take_s3, free_Lists_Take_s4, free_Lists_Take_s5, free_Lists_Take_s6, free_Lists_Take_s7, free_Lists_Take_s8, free_Lists_Take_s9, free_Lists_Take_s10, free_Lists_Take_s11, free_Lists_Take_s12, free_Lists_Take_s13, free_Lists_Take_s14, free_Lists_Take_s15, free_Lists_Take_s16])
    refine T_brE (fun h => by exfalso; omega) (fun _ => ?_)
    refine Fl_close ok ?_
    have := six L hli (fun _ _ _ => rfl) (.inr rfl) (fun h => absurd h he) (fun _ => .inl he)
    exact this
end
end Go.Proofs.YtdgcbapclnnkkaaGreat.X
end
section
/- slices.Sort and slices.SortFunc sort: contracts of the kit's shelf, laid at this dump by its lay-shelf.mjs and lay-plain.mjs. Conditions: those of the contracts themselves. -/
namespace Go.Proofs
open Go.Shelf
def Tryz.lays189_ren : Go.Shelf.Ren := ⟨fun | 189 => 206 | 125 => 228 | 257 => 227 | 128 => 247 | 129 => 248 | 294 => 238 | 295 => 239 | 296 => 240 | 297 => 241 | 298 => 242 | 299 => 243 | 216 => 244 | 300 => 245 | 301 => 246 | 328 => 259 | 329 => 260 | 330 => 261 | 331 => 262 | 332 => 263 | 215 => 264 | 343 => 271 | n => n, fun | 28 => 27 | 3 => 3 | 46 => 111 | 0 => 0 | 51 => 220 | 53 => 109 | 4 => 4 | 183 => 269 | 182 => 268 | 131 => 132 | 5 => 5 | 9 => 9 | 218 => 282 | 222 => 286 | 228 => 293 | 229 => 82 | n => n, fun | n => n⟩
theorem Tryz.lays189 : Go.Proofs.Lays.n189 Tryz.prog Tryz.lays189_ren := {
  mixed := by kernel_rfl
  f125 := Tryz.func228.trans (congrArg some (by kernel_rfl))
  f128 := Tryz.func247.trans (congrArg some (by kernel_rfl))
  f129 := Tryz.func248.trans (congrArg some (by kernel_rfl))
  f189 := Tryz.func206.trans (congrArg some (by kernel_rfl))
  f215 := Tryz.func264.trans (congrArg some (by kernel_rfl))
  f216 := Tryz.func244.trans (congrArg some (by kernel_rfl))
  f257 := Tryz.func227.trans (congrArg some (by kernel_rfl))
  f294 := Tryz.func238.trans (congrArg some (by kernel_rfl))
  f295 := Tryz.func239.trans (congrArg some (by kernel_rfl))
  f296 := Tryz.func240.trans (congrArg some (by kernel_rfl))
  f297 := Tryz.func241.trans (congrArg some (by kernel_rfl))
  f298 := Tryz.func242.trans (congrArg some (by kernel_rfl))
  f299 := Tryz.func243.trans (congrArg some (by kernel_rfl))
  f300 := Tryz.func245.trans (congrArg some (by kernel_rfl))
  f301 := Tryz.func246.trans (congrArg some (by kernel_rfl))
  f328 := Tryz.func259.trans (congrArg some (by kernel_rfl))
  f329 := Tryz.func260.trans (congrArg some (by kernel_rfl))
  f330 := Tryz.func261.trans (congrArg some (by kernel_rfl))
  f331 := Tryz.func262.trans (congrArg some (by kernel_rfl))
  f332 := Tryz.func263.trans (congrArg some (by kernel_rfl))
  f343 := Tryz.func271.trans (congrArg some (by kernel_rfl))
  t0 := Tryz.underlying0
  a0 := Tryz.isAgg0
  z0 := Tryz.sizeOf0
  v0 := Tryz.zeroValue0
  t3 := Tryz.underlying3
  a3 := Tryz.isAgg3
  z3 := Tryz.sizeOf3
  v3 := Tryz.zeroValue3
  t4 := Tryz.underlying4
  a4 := Tryz.isAgg4
  z4 := Tryz.sizeOf4
  v4 := Tryz.zeroValue4
  t5 := Tryz.underlying5
  a5 := Tryz.isAgg5
  z5 := Tryz.sizeOf5
  v5 := Tryz.zeroValue5
  t9 := Tryz.underlying9
  a9 := Tryz.isAgg9
  z9 := Tryz.sizeOf9
  v9 := Tryz.zeroValue9
  t28 := Tryz.underlying27
  a28 := Tryz.isAgg27
  z28 := Tryz.sizeOf27
  v28 := Tryz.zeroValue27
  t46 := Tryz.underlying111
  a46 := Tryz.isAgg111
  z46 := Tryz.sizeOf111
  v46 := Tryz.zeroValue111
  t51 := Tryz.underlying220
  a51 := Tryz.isAgg220
  z51 := Tryz.sizeOf220
  v51 := Tryz.zeroValue220
  t53 := Tryz.underlying109
  a53 := Tryz.isAgg109
  z53 := Tryz.sizeOf109
  v53 := Tryz.zeroValue109
  t131 := Tryz.underlying132
  a131 := Tryz.isAgg132
  z131 := Tryz.sizeOf132
  v131 := Tryz.zeroValue132
  t182 := Tryz.underlying268
  a182 := Tryz.isAgg268
  z182 := Tryz.sizeOf268
  v182 := Tryz.zeroValue268
  t183 := Tryz.underlying269
  a183 := Tryz.isAgg269
  z183 := Tryz.sizeOf269
  v183 := Tryz.zeroValue269
  t218 := Tryz.underlying282
  a218 := Tryz.isAgg282
  z218 := Tryz.sizeOf282
  v218 := Tryz.zeroValue282
  t222 := Tryz.underlying286
  a222 := Tryz.isAgg286
  z222 := Tryz.sizeOf286
  v222 := Tryz.zeroValue286
  t228 := Tryz.underlying293
  a228 := Tryz.isAgg293
  z228 := Tryz.sizeOf293
  v228 := Tryz.zeroValue293
  t229 := Tryz.underlying82
  a229 := Tryz.isAgg82
  z229 := Tryz.sizeOf82
  v229 := Tryz.zeroValue82 }
open Go.Sort Go.RowKit in
theorem Tryz.slices_Sort_int (blk off cap : Nat) (zs : List Int) (w : World) (hH : Holds (Value.int .i64) w blk off zs.toArray) (hblk : blk < w.heap.size) (hsz : zs.length < 4611686018427387904) :
    Calls Tryz.prog 206 #[.slice (some ⟨blk, off, none⟩) zs.length cap] w fun e w' =>
      e = .returned (.tuple #[]) ∧ ∃ n os, w' = grow (putRow (Value.int .i64) (Sort.ahead w n) blk off (zs.mergeSort fun x y => decide (x ≤ y)).toArray) os := Any.slices_Sort_int Tryz.lays189 blk off cap zs w hH hblk hsz
def Tryz.laysSF6_ren : Go.Shelf.Ren := ⟨fun | 6 => 207 | 15 => 228 | 14 => 229 | 28 => 247 | 29 => 248 | 20 => 249 | 21 => 250 | 22 => 251 | 23 => 252 | 24 => 253 | 25 => 254 | 26 => 255 | 27 => 256 | 46 => 265 | 47 => 260 | 48 => 261 | 49 => 266 | 50 => 267 | 57 => 272 | n => n, fun | 22 => 150 | 24 => 152 | 25 => 248 | 3 => 3 | 39 => 111 | 0 => 0 | 53 => 220 | 55 => 109 | 4 => 4 | 46 => 269 | 45 => 268 | 50 => 132 | 5 => 5 | 9 => 9 | 66 => 282 | 70 => 286 | 76 => 293 | 77 => 82 | n => n, fun | n => n⟩
theorem Tryz.laysSF6 : Go.Proofs.SlLaysF0.n6 Tryz.prog Tryz.laysSF6_ren := {
  mixed := by kernel_rfl
  f6 := ⟨Tryz.f207.name, by decide, Tryz.func207.trans (congrArg some (by kernel_rfl))⟩
  f14 := ⟨Tryz.f229.name, by decide, Tryz.func229.trans (congrArg some (by kernel_rfl))⟩
  f15 := Tryz.func228.trans (congrArg some (by kernel_rfl))
  f20 := ⟨Tryz.f249.name, by decide, Tryz.func249.trans (congrArg some (by kernel_rfl))⟩
  f21 := ⟨Tryz.f250.name, by decide, Tryz.func250.trans (congrArg some (by kernel_rfl))⟩
  f22 := ⟨Tryz.f251.name, by decide, Tryz.func251.trans (congrArg some (by kernel_rfl))⟩
  f23 := ⟨Tryz.f252.name, by decide, Tryz.func252.trans (congrArg some (by kernel_rfl))⟩
  f24 := ⟨Tryz.f253.name, by decide, Tryz.func253.trans (congrArg some (by kernel_rfl))⟩
  f25 := ⟨Tryz.f254.name, by decide, Tryz.func254.trans (congrArg some (by kernel_rfl))⟩
  f26 := ⟨Tryz.f255.name, by decide, Tryz.func255.trans (congrArg some (by kernel_rfl))⟩
  f27 := ⟨Tryz.f256.name, by decide, Tryz.func256.trans (congrArg some (by kernel_rfl))⟩
  f28 := Tryz.func247.trans (congrArg some (by kernel_rfl))
  f29 := Tryz.func248.trans (congrArg some (by kernel_rfl))
  f46 := ⟨Tryz.f265.name, by decide, Tryz.func265.trans (congrArg some (by kernel_rfl))⟩
  f47 := Tryz.func260.trans (congrArg some (by kernel_rfl))
  f48 := Tryz.func261.trans (congrArg some (by kernel_rfl))
  f49 := ⟨Tryz.f266.name, by decide, Tryz.func266.trans (congrArg some (by kernel_rfl))⟩
  f50 := ⟨Tryz.f267.name, by decide, Tryz.func267.trans (congrArg some (by kernel_rfl))⟩
  f57 := ⟨Tryz.f272.name, by decide, Tryz.func272.trans (congrArg some (by kernel_rfl))⟩
  t0 := Tryz.underlying0
  a0 := Tryz.isAgg0
  z0 := Tryz.sizeOf0
  v0 := Tryz.zeroValue0
  t3 := Tryz.underlying3
  a3 := Tryz.isAgg3
  z3 := Tryz.sizeOf3
  v3 := Tryz.zeroValue3
  t4 := Tryz.underlying4
  a4 := Tryz.isAgg4
  z4 := Tryz.sizeOf4
  v4 := Tryz.zeroValue4
  t5 := Tryz.underlying5
  a5 := Tryz.isAgg5
  z5 := Tryz.sizeOf5
  v5 := Tryz.zeroValue5
  t9 := Tryz.underlying9
  a9 := Tryz.isAgg9
  z9 := Tryz.sizeOf9
  v9 := Tryz.zeroValue9
  t22 := Tryz.underlying150
  a22 := Tryz.isAgg150
  z22 := Tryz.sizeOf150
  v22 := Tryz.zeroValue150
  t25 := Tryz.underlying248
  a25 := Tryz.isAgg248
  z25 := Tryz.sizeOf248
  v25 := Tryz.zeroValue248
  t39 := Tryz.underlying111
  a39 := Tryz.isAgg111
  z39 := Tryz.sizeOf111
  v39 := Tryz.zeroValue111
  t45 := Tryz.underlying268
  a45 := Tryz.isAgg268
  z45 := Tryz.sizeOf268
  v45 := Tryz.zeroValue268
  t46 := Tryz.underlying269
  a46 := Tryz.isAgg269
  z46 := Tryz.sizeOf269
  v46 := Tryz.zeroValue269
  t50 := Tryz.underlying132
  a50 := Tryz.isAgg132
  z50 := Tryz.sizeOf132
  v50 := Tryz.zeroValue132
  t53 := Tryz.underlying220
  a53 := Tryz.isAgg220
  z53 := Tryz.sizeOf220
  v53 := Tryz.zeroValue220
  t55 := Tryz.underlying109
  a55 := Tryz.isAgg109
  z55 := Tryz.sizeOf109
  v55 := Tryz.zeroValue109
  t66 := Tryz.underlying282
  a66 := Tryz.isAgg282
  z66 := Tryz.sizeOf282
  v66 := Tryz.zeroValue282
  t70 := Tryz.underlying286
  a70 := Tryz.isAgg286
  z70 := Tryz.sizeOf286
  v70 := Tryz.zeroValue286
  t76 := Tryz.underlying293
  a76 := Tryz.isAgg293
  z76 := Tryz.sizeOf293
  v76 := Tryz.zeroValue293
  t77 := Tryz.underlying82
  a77 := Tryz.isAgg82
  z77 := Tryz.sizeOf82
  v77 := Tryz.zeroValue82 }
open Go.RowKit Go.Lib Go.Sort in
theorem Tryz.slices_SortFunc {α : Type} [Inhabited α] (k : Nat) (aE : ∀ w, (isAgg 152).run Tryz.prog w = .ok true w) (zE : ∀ w, (Go.sizeOf 152).run Tryz.prog w = .ok k w) (enc : α → List Value) (hk : ∀ x, (enc x).length = k) (h1 : ∀ x, ∀ v ∈ enc x, v.oneCell' = true) (cf : α → α → Int) (hO : SWO (ltOf cf)) (g : Nat) (cb : Array Value) (blk off cap : Nat) (d : Array α) (w : World) (eg : ∀ args w, (callFunc g args).run Tryz.prog w = .ok (.enter g args) w) (hcmp : CmpLays Tryz.prog g cb enc k cf blk off d.size w) (hH : HoldsK enc k w blk off d) (hblk : blk < w.heap.size) (hsz : d.size < 4611686018427387904) :
    Calls Tryz.prog 207 #[.slice (some ⟨blk, off, none⟩) d.size cap, .func (.func g) #[] cb] w fun e w' =>
      e = .returned (.tuple #[]) ∧ ∃ d' n os, PermIn 0 d.size d d' ∧ SortedIn (ltOf cf) 0 d.size d' ∧ w' = sortWorldK enc k w blk off n d' os := AnyQ.slices_SortFunc Tryz.laysSF6 k aE zE enc hk h1 cf hO g cb blk off cap d w eg hcmp hH hblk hsz
open Go.RowKit Go.Sort in
theorem Tryz.slices_Sort_int_none (p : Option Addr) (cap : Nat) (w : World) : Calls Tryz.prog 206 #[.slice p 0 cap] w fun e w' => e = .returned (.tuple #[]) ∧ w' = w := Any.slices_Sort_int_none Tryz.lays189 p cap w
theorem Tryz.slices_SortFunc_none (p : Option Addr) (cap : Nat) (fv : Value) (w : World) : Calls Tryz.prog 207 #[.slice p 0 cap, fv] w fun e w' => e = .returned (.tuple #[]) ∧ w' = w := AnyF.slices_SortFunc_none Tryz.laysSF6 p cap fv w
end Go.Proofs
end
section
/- Sorts of slices, by assertions. Conditions: those of the shelf's contracts. -/
set_option linter.unusedVariables false
set_option maxRecDepth 4000
namespace Go.Proofs.YtdgcbapclnnkkaaGreat.X
open Go
section
variable {B : World} {P Q R : SL} {t : K}
theorem Sat.grown {w : World} (s : Sat B P w) (os : Array Obj) : Sat B P (Sort.grow w os) := by
  obtain ⟨⟨x, hx, hb⟩, k⟩ := s
  refine ⟨⟨x, hx, fun y q e => ?_⟩, ⟨k.os, k.tape, k.output, by simp only [Sort.grow, Array.size_append]; have := k.size; omega, fun y hy => ?_⟩⟩
  · have h2 := hb y q e
    have hlt : y < w.heap.size := (Array.getElem?_eq_some_iff.1 h2.2).1
    refine ⟨h2.1, ?_⟩
    simp only [Sort.grow, Array.getElem?_append, hlt, if_true]; exact h2.2
  · have : y < w.heap.size := by have := k.size; omega
    simp only [Sort.grow, Array.getElem?_append, this, if_true]; exact k.block y hy
theorem put_sat {α : Type} [Inhabited α] {w : World} {b : Nat} {vs rest : List Value} {E : TypeId} {enc : α → Value} {d : Array α} (hd : d.size = vs.length) (n : Nat) (os : Array Obj)
    (s : Sat B (R * pt b (.cells (vs ++ rest).toArray E)) w) : Sat B (R * pt b (.cells (d.toList.map enc ++ rest).toArray E)) (Sort.grow (Sort.putRow enc (Sort.ahead w n) b 0 d) os) := by
  refine Sat.grown ?_ os
  have s2 : Sat B (R * pt b (.cells (vs ++ rest).toArray E)) (Sort.ahead w n) := s.drew _
  have hh := (s2.has (b := b) (o := .cells (vs ++ rest).toArray E) Has.last).1
  refine s2.upd Upd.last ?_ ?_ rfl rfl rfl (by simp [Sort.putRow, Sort.mapBlock])
  · simp only [Sort.putRow, Sort.mapBlock, Array.getElem?_modify, if_true]
    rw [hh]
    simp only [Option.map_some, Sort.onCells, Option.some.injEq, Obj.cells.injEq, and_true]
    apply Array.ext_getElem?
    intro i
    simp only [Sort.putCells, Array.getElem?_mapIdx, List.getElem?_toArray, Nat.zero_le, true_and, Nat.zero_add, Nat.sub_zero]
    by_cases hi : i < d.size
    · rw [List.getElem?_append_left (by omega), List.getElem?_append_left (by simp; exact hi), List.getElem?_eq_getElem (by omega)]
      simp only [Option.map_some, hi, if_true, List.getElem?_map]
      rw [Array.getElem?_toList, Array.getElem?_eq_getElem hi]
      simp [getElem!_pos, hi]
    · rw [List.getElem?_append_right (by omega), List.getElem?_append_right (by simp; omega)]
      simp only [List.length_map, Array.length_toList, hd]
      cases rest[i - vs.length]? with
      | none => rfl
      | some v => simp only [Option.map_some]; rw [if_neg (by omega)]
  · intro x hx
    simp only [Sort.putRow, Sort.mapBlock, Array.getElem?_modify]
    rw [if_neg (Ne.symm hx)]
end
section
variable {B : World} {P Q R : SL} {t : K}
theorem sort_holds {α : Type} [Inhabited α] {w : World} {b : Nat} {vs rest : List Value} {E : TypeId} {enc : α → Value} {d : Array α} (hd : d.toList.map enc = vs) (s : Sat B (R * pt b (.cells (vs ++ rest).toArray E)) w) :
    Sort.Holds enc w b 0 d := by
  subst hd
  intro j hj
  have hh := (s.has (b := b) (o := .cells (d.toList.map enc ++ rest).toArray E) Has.last).1
  refine ⟨?_, by simp [World.frozen?, hh]⟩
  refine s.cell (b := b) Has.last ?_
  rw [Nat.zero_add, List.getElem?_append_left (by simp; exact hj), List.getElem?_map, Array.getElem?_toList, Array.getElem?_eq_getElem hj]
  simp [getElem!_pos, hj]
/-- ascending -/
def sortI (l : List Int) : List Int := l.mergeSort fun x y => decide (x ≤ y)
theorem sort_int_c {s : Sl} {l : List Int} (hl : l.length ≤ 2 ^ 40) {k : Unit → K} (hk : T B (R * vec 3 1 s (ints (sortI l))) (k ())) : T B (R * vec 3 1 s (ints l)) (c_slices_Sort_Sint_int s k) := by
  intro w hw
  rcases vec_cases hw with ⟨h1, h2, h3, hR⟩ | ⟨b, rest, h1, h2, h3, h4, hR⟩
  · have hl : l = [] := by cases l <;> simp_all [ints]
    subst hl
    have hs : s.v = .slice s.p 0 s.c := by unfold Sl.v; rw [h1]
    unfold c_slices_Sort_Sint_int cl
    rw [hs]
    refine (Tryz.slices_Sort_int_none s.p s.c w).mono ?_
    rintro e w' ⟨rfl, rfl⟩
    have e0 : sortI [] = [] := by simp [sortI]
    rw [e0] at hk
    exact ⟨(), rfl, hk _ hw⟩
  · have hlen : s.n = l.length := by simpa [ints] using h2
    have hc := Tryz.slices_Sort_int b 0 s.c l w (sort_holds (vs := ints l) (by simp [ints]) hR) (by have := (hR.has (b := b) Has.last).1; exact (Array.getElem?_eq_some_iff.1 this).1) (by omega)
    have hs : s.v = .slice (some ⟨b, 0, none⟩) l.length s.c := by unfold Sl.v; rw [h1, hlen]
    unfold c_slices_Sort_Sint_int cl
    rw [hs]
    refine hc.mono ?_
    rintro e w' ⟨rfl, n, os, rfl⟩
    refine ⟨(), rfl, hk _ ?_⟩
    have hlen2 : (sortI l).length = l.length := List.length_mergeSort _
    have := put_sat (enc := Value.int .i64) (d := (sortI l).toArray) (by simp [hlen2, ints]) n os hR
    refine vec_mk (rest := rest) h1 (by rw [h2]; simp [ints, hlen2]) (by rw [h3]; simp [ints, hlen2]) h4 ?_
    exact this
/-- pairs whose first number is told by a difference -/
abbrev Bp := {p : Int × Int // 0 ≤ p.1 ∧ p.1 ≤ 2 ^ 40}
instance : Inhabited Bp := ⟨⟨(0, 0), by simp⟩⟩
def encB (p : Bp) : List Value := [.int .i64 p.1.1, .int .i64 p.1.2]
def cmpB (p q : Bp) : Int := p.1.1 - q.1.1
theorem cmpB_lt (p q : Bp) : ltOf cmpB p q = decide (p.1.1 < q.1.1) := by
  unfold ltOf cmpB
  rw [decide_eq_decide]; omega
theorem swoB : Sort.SWO (ltOf cmpB) where
  irrefl x := by rw [cmpB_lt]; simp
  trans x y z h1 h2 := by rw [cmpB_lt] at *; simp at *; omega
  ntrans x y z h1 h2 := by rw [cmpB_lt] at *; simp at *; omega
theorem cmp_run (p q : Bp) (w : World) : Calls Tryz.prog 208 #[.agg (encB p).toArray, .agg (encB q).toArray] w fun e w' => e = .returned (.int .i64 (cmpB p q)) ∧ ∃ os, w' = Sort.grow w os := by
  have hp := p.2
  have hq := q.2
  have h : c_runs_Index_List_1 p.1 q.1 (fun x w' => x = cmpB p q ∧ ∃ os, w' = Sort.grow w os) w := by
    refine runs_Index_List_1_ok p.1 q.1 _ w ?_
    refine ⟨p.1.1, ?_, q.1.1, ?_, ?_, #[.cells #[.int .i64 p.1.1, .int .i64 p.1.2] 152, .cells #[.int .i64 q.1.1, .int .i64 q.1.2] 152], ?_⟩
    · simp [World.cell?, Addr.add, Array.getElem?_push]
    · simp [World.cell?, Addr.add, Array.getElem_push]
    · exact w64 (by omega) (by omega)
    · simp only [Sort.grow]
      congr 1
  unfold c_runs_Index_List_1 cl at h
  refine h.mono ?_
  rintro e w' ⟨x, rfl, rfl, h⟩
  exact ⟨rfl, h⟩
theorem prs_get {l : List (Int × Int)} {i j : Nat} (hi : i < l.length) (hj : j < 2) : (prs l)[i * 2 + j]? = [Value.int .i64 l[i].1, .int .i64 l[i].2][j]? := by
  rw [← prs_cut hi, cut_get hj]
theorem flat_prs (d : Array Bp) : (Sort.flatK encB 2 d).toList = prs (d.toList.map (·.1)) := by
  apply List.ext_getElem?
  intro t
  by_cases ht : t < d.size * 2
  · have e : t = t / 2 * 2 + t % 2 := by omega
    have hi : t / 2 < (d.toList.map (·.1)).length := by simp; omega
    rw [Array.getElem?_toList, Array.getElem?_eq_getElem (by simp; exact ht)]
    have hg := Sort.get_flatK encB 2 d t ht
    rw [getElem!_pos _ t (by simp; exact ht)] at hg
    rw [hg]
    conv => rhs; rw [e]
    rw [prs_get hi (by omega)]
    have h2 : t / 2 < d.size := by omega
    rw [getElem!_pos d (t / 2) h2]
    simp only [List.getElem_map, Array.getElem_toList]
    unfold encB
    have : t % 2 = 0 ∨ t % 2 = 1 := by omega
    rcases this with h | h <;> rw [h] <;> rfl
  · rw [List.getElem?_eq_none (by simp; omega), List.getElem?_eq_none (by rw [prs_len]; simp; omega)]
theorem sort_sp_c {s : Sl} {l : List (Int × Int)} (hl : l.length ≤ 2 ^ 40) (hb : ∀ p ∈ l, 0 ≤ p.1 ∧ p.1 ≤ 2 ^ 40) {k : Unit → K} (hk : ∀ l', l'.Perm l → l'.Pairwise (fun p q => p.1 ≤ q.1) → T B (R * vec 152 2 s (prs l')) (k ())) :
    T B (R * vec 152 2 s (prs l)) (c_slices_SortFunc_Sblocks_Span_blocks_Span s ⟨.func 208, #[], #[]⟩ k) := by
  intro w hw
  have hpl := prs_len l
  rcases vec_cases hw with ⟨h1, h2, h3, hR⟩ | ⟨b, rest, h1, h2, h3, h4, hR⟩
  · have hl0 : l = [] := by
      cases l with
      | nil => rfl
      | cons p l => rw [h3] at hpl; simp at hpl
    subst hl0
    have hs : s.v = .slice s.p 0 s.c := by unfold Sl.v; rw [h1]
    unfold c_slices_SortFunc_Sblocks_Span_blocks_Span cl
    rw [hs]
    refine (Tryz.slices_SortFunc_none s.p s.c _ w).mono ?_
    rintro e w' ⟨rfl, rfl⟩
    exact ⟨(), rfl, hk [] (.refl _) .nil _ hw⟩
  · have hlen : s.n = l.length := by omega
    obtain ⟨d, hd⟩ : ∃ d : Array Bp, d.toList.map (·.1) = l := by
      refine ⟨(l.attach.map fun p => (⟨p.1, hb p.1 p.2⟩ : Bp)).toArray, ?_⟩
      rw [List.toList_toArray, List.map_map]
      exact List.attach_map_subtype_val l
    have hdl : d.size = l.length := by rw [← hd]; simp
    have hfl := flat_prs d
    rw [hd] at hfl
    have hc := Tryz.slices_SortFunc 2 (fun w => by
        obtain ⟨⟨dd, hdd⟩, _⟩ := okT_spec (P := Tryz.prog) (t := 152) (by kernel_rfl)
        rw [r_isAgg hdd w]; kernel_rfl) (fun w => by rw [r_size (by kernel_rfl) w]; kernel_rfl) encB (fun _ => rfl) (fun x v hv => by simp [encB] at hv; rcases hv with rfl | rfl <;> rfl) cmpB swoB 208 #[] b 0 s.c d w
      (enters_of Tryz.func208 (by kernel_rfl) rfl) (fun m os dk _ x y => (cmp_run x y _).mono fun e w' ⟨h1, os', h2⟩ => ⟨h1, 0, os', h2⟩)
      (sort_holds (enc := id) (vs := prs l) (by rw [List.map_id]; exact hfl) hR) (by have := (hR.has (b := b) Has.last).1; exact (Array.getElem?_eq_some_iff.1 this).1) (by omega)
    have hs : s.v = .slice (some ⟨b, 0, none⟩) d.size s.c := by unfold Sl.v; rw [h1, hlen, hdl]
    unfold c_slices_SortFunc_Sblocks_Span_blocks_Span cl
    rw [hs]
    refine Calls.mono hc ?_
    rintro e w' ⟨rfl, d', n, os, ⟨q1, _, q2⟩, q3, rfl⟩
    refine ⟨(), rfl, hk (d'.toList.map (·.1)) ?_ ?_ _ ?_⟩
    · rw [← hd]
      refine List.Perm.map _ ?_
      have e1 : (d'.extract 0 d.size) = d' := by rw [← q1]; simp
      have e2 : (d.extract 0 d.size) = d := by simp
      rw [e1, e2] at q2; exact q2
    · rw [List.pairwise_map, List.pairwise_iff_getElem]
      intro i j hi hj hij
      simp only [Array.length_toList] at hi hj
      have := q3 i j (by omega) hij (by omega)
      rw [cmpB_lt, getElem!_pos d' j hj, getElem!_pos d' i hi] at this
      simp only [Array.getElem_toList]
      simpa using this
    · have hfl' := flat_prs d'
      have hfs : (Sort.flatK encB 2 d').size = (prs l).length := by rw [Sort.size_flatK, hpl, q1, hdl]
      have := put_sat (enc := id) (d := Sort.flatK encB 2 d') hfs n os hR
      rw [List.map_id, hfl'] at this
      refine vec_mk (rest := rest) h1 ?_ ?_ h4 this
      · rw [h2, hpl, prs_len]; simp [q1, hdl]
      · rw [h3, hpl, prs_len]; simp [q1, hdl]
end
end Go.Proofs.YtdgcbapclnnkkaaGreat.X
end
section
/- Contracts: a free cell given back; all of a mutator's cells; all free cells. Conditions: lists below 2^30 elements. -/
set_option linter.unusedVariables false
set_option maxRecDepth 4000
namespace Go.Proofs.YtdgcbapclnnkkaaGreat.X
open Go
theorem bigXRd {S : Nat → Sl} {L : Nat → List Int} {i j : Nat} (h : i < 160) (hij : i ≠ j) : Rd (bigX 160 (vI S L) j) (S i) 1 (ints (L i)) := Rd.perm (bigX_out h hij) (Rd.vec (E := 3) .last)
section
variable {B : World} {P R : SL} {t : K} {Pg : Program} {α β : Type} [DecidableEq α] {mt kt et : TypeId} {ek : α → Value} {ev : β → Value}
theorem T_entF (hD : KeyD Pg mt kt et ek) {z : β} (hz : zeroP Pg et = some (ev z)) {r : Nat} {f : α → Option β} {key : α} {sh : Sh} {kv : Value} {kk : sh.T × Int → K} (x : sh.T)
    (hx : ev ((f key).getD z) = sh.enc x) (hkv : kv = ek key) (ht : ∀ (stamp : Nat) (M : SL), (∀ (R' : SL) (v : β) vv t, vv = ev v → T B (R' * MpF ek ev r (updF f key v)) t → T B (R' * M) (semU Pg (Instr.entryStore mt (.map (some r)) (.int .i64 (stamp : Int)) vv) t)) → T B (R * M) (kk (x, (stamp : Int)))) :
    T B (R * MpF ek ev r f) (semT Pg (Instr.mapEntry mt (.map (some r)) kv) (.tup [.sc sh, .sc (.int .i64)]) kk) := by
  subst hkv
  refine MpF_open fun es c ok => ?_
  obtain ⟨l, ok, hl⟩ := ok
  refine T_mapEntry hD hD.same hz ok x (by rw [hl]; exact hx) fun stamp es' c' e ok' he hb => ?_
  obtain ⟨p1, p2⟩ := entL_put l key z z
  refine ht stamp (pt r (.map es' c')) fun R' v vv t hv ht2 => ?_
  subst hb
  refine T_entryStore (mt := mt) ok' he p1 hv ?_
  rw [(entL_put l key z v).2]
  refine T_ex fun y => ?_
  rw [← sep_assoc]
  refine T_pu fun ok2 => ?_
  refine MpF_close ⟨_, ok2, fun k => ?_⟩ ht2
  rw [lkup_put, hl]; rfl
end
section
variable {B : World} {P R : SL} {t : K}
theorem put5_c {a b : Nat} {L : Nat → List Int} (hL : ∀ i, i < 160 → (L i).length ≤ 2 ^ 31) {m k : Nat} (hm : m < 4) (hk2 : k < 32) {kk : Int → K}
    (h0 : ∀ L', Turn L L' m k → (L' k ++ L' (ix m k)).Perm (L k ++ L (ix m k)) → T B (R * Fl a L') (kk 0)) :
    T B (R * pt b (.cells [.int .i64 m, .int .i64 k].toArray 201) * Fl a L) (free_Lists_Put_s5 (da a) k kk ⟨b, 0, none⟩) := by
  have hi : ix m k < 160 := by unfold ix; omega
  have hne : ix m k ≠ k := by unfold ix; omega
  have hlk := hL k (by omega)
  have hli := hL (ix m k) hi
  refine Fl_open fun S cs r ok => ?_
  unfold da
  (repeat (first | with_reducible refine T_nn ?_ | with_reducible refine T_tick ?_ | ((with_reducible apply T_ldI); (focus rfl); (focus (repeat (first | with_reducible exact Has.last | with_reducible exact Has.one | refine Has.init ?_))); (focus rfl)) | ((with_reducible apply T_ldM); (focus rfl); (focus (repeat (first | with_reducible exact Has.last | with_reducible exact Has.one | refine Has.init ?_))); (focus rfl))))
  refine T_lkSlot (cs := cs) (MHas.init (MHas.init (MHas.of .last))) fun ob bb => ?_
  rw [ok.eq m k hm hk2]
  refine T_rdlen (Rd.init (Rd.tail (bigRd (S := S) (L := L) hi))) fun hn => ?_
  rw [ints_len, Nat.mul_one] at hn
  have hcap : ∀ t, ((S (ix m k)).n ≤ (S (ix m k)).c → T B (R * pt b (.cells [.int .i64 m, .int .i64 k].toArray 201) * MpF eslot esl r cs * bigS 160 (vI S L) * pt a (.cells (glob S ++ [Value.map (some r)]).toArray 199)) t) → T B (R * pt b (.cells [.int .i64 m, .int .i64 k].toArray 201) * MpF eslot esl r cs * bigS 160 (vI S L) * pt a (.cells (glob S ++ [Value.map (some r)]).toArray 199)) t := by
    intro t h w hw
    have := (Rd.init (Rd.tail (bigRd (S := S) (L := L) hi))) B w hw
    exact h (by omega) w hw
  refine hcap _ fun hc2 => ?_
  (repeat' (first | with_reducible refine T_nn ?_ | with_reducible refine T_tick ?_ | with_reducible refine T_brD (fun _ => ?_) (fun _ => ?_)))
  · rename_i hgt
    obtain ⟨f, hf, hf2⟩ : ∃ f : Nat, IntKind.wrap .i64 (Int.tdiv ((S (ix m k)).n : Int) 2) = (f : Int) ∧ f = (L (ix m k)).length / 2 := by
      refine ⟨_, ?_, rfl⟩
      rw [Int.tdiv_eq_ediv_of_nonneg (by omega), w64 (by omega) (by omega)]; omega
    rw [hf]
    refine T_gld .last hk2 ?_
    refine T_lo (by omega) (by omega) ?_
    rw [Int.toNat_natCast]
    (repeat (with_reducible refine T_nn ?_))
    rw [bigS_out (i := k) (by omega)]
    refine T.perm (Q := R * pt b (.cells [.int .i64 m, .int .i64 k].toArray 201) * MpF eslot esl r cs * bigX 160 (vI S L) k * pt a (.cells (glob S ++ [Value.map (some r)]).toArray 199) * vec 3 1 (S k) (ints (L k))) (by unfold vI; ac_rfl) ?_
    have hpc := (bigXRd (S := S) (L := L) hi hne).piece (y := ⟨cutP (S (ix m k)).p 0 (S (ix m k)).c 1, f - 0, (S (ix m k)).c - 0⟩) (o := 0) (n := f) (by omega) (by rw [ints_len]; omega) rfl (by simp) rfl
    have ecut : cut (ints (L (ix m k))) (0 * 1) (f * 1) = ints ((L (ix m k)).take f) := by
      unfold cut ints; rw [Nat.mul_one, Nat.zero_mul, List.drop_zero, List.map_take]
    rw [ecut] at hpc
    refine T_append (s := S k) (vs := ints (L k)) (x := ⟨cutP (S (ix m k)).p 0 (S (ix m k)).c 1, f - 0, (S (ix m k)).c - 0⟩) (new := ints ((L (ix m k)).take f)) kd_int (Rd.init (Rd.tail hpc)) (ints_scal _) (by rw [ints_len]; simp only; omega) fun s' => ?_
    refine T_gst (S := S) (s := s') hk2 (.init .last) ?_
    rw [← ints_append]
    refine T.perm (Q := R * pt b (.cells [.int .i64 m, .int .i64 k].toArray 201) * MpF eslot esl r cs * bigS 160 (vI (setN S k s') (setN L k (L k ++ (L (ix m k)).take f))) * pt a (.cells (glob (setN S k s') ++ [Value.map (some r)]).toArray 199)) (by rw [← bigIn (by omega)]; ac_rfl) ?_
    have ok1 := ok.glob hk2 s'
    have hS1 : setN S k s' (ix m k) = S (ix m k) := setN_ne _ _ hne
    have hL1 : setN L k (L k ++ (L (ix m k)).take f) (ix m k) = L (ix m k) := setN_ne _ _ hne
    generalize hSe : setN S k s' = S1 at *
    generalize hLe : setN L k (L k ++ (L (ix m k)).take f) = L1 at *
    (repeat (first | with_reducible refine T_nn ?_ | with_reducible refine T_tick ?_ | ((with_reducible apply T_ldI); (focus rfl); (focus (repeat (first | with_reducible exact Has.last | with_reducible exact Has.one | refine Has.init ?_))); (focus rfl)) | ((with_reducible apply T_ldM); (focus rfl); (focus (repeat (first | with_reducible exact Has.last | with_reducible exact Has.one | refine Has.init ?_))); (focus rfl))))
    refine T_lo (by omega) (by omega) ?_
    rw [Int.toNat_natCast]
    have hpc2 := (bigRd (S := S1) (L := L1) hi).piece (y := ⟨cutP (S (ix m k)).p f (S (ix m k)).c 1, (S (ix m k)).n - f, (S (ix m k)).c - f⟩) (o := f) (n := (L (ix m k)).length - f) (by omega) (by rw [ints_len, hL1]; omega) (by rw [hS1]) (by simp only; omega) (by rw [hS1])
    have ecut2 : cut (ints (L1 (ix m k))) (f * 1) (((L (ix m k)).length - f) * 1) = ints ((L (ix m k)).drop f) := by
      rw [hL1]
      unfold cut ints
      rw [Nat.mul_one, Nat.mul_one, List.take_of_length_le (by simp), List.map_drop]
    rw [ecut2] at hpc2
    refine clone_int_c (l := (L (ix m k)).drop f) (by simp; omega) (Rd.init (Rd.tail hpc2)) fun x71 => ?_
    (repeat (first | with_reducible refine T_chk0 ?_ | ((with_reducible apply T_chk); (focus rfl); (focus (repeat (first | with_reducible exact Has.last | with_reducible exact Has.one | refine Has.init ?_))); (focus rfl))))
    refine T_bring (X := MpF eslot esl r cs) (.init (.init (.init .last))) ?_
    refine T_updM (ek := eslot) (ev := esl) kd_slot (v := x71) (key := ((m : Int), (k : Int))) rfl rfl ?_
    rw [bigS_out hi]
    refine T.perm (Q := R * MpF eslot esl r (updF cs ((m : Int), (k : Int)) x71) * bigX 160 (vI S1 L1) (ix m k) * pt a (.cells (glob (setN S1 (ix m k) x71) ++ [Value.map (some r)]).toArray 199) * vec 3 1 x71 (ints ((L (ix m k)).drop f)) * (pt b (.cells [.int .i64 m, .int .i64 k].toArray 201) * vI S1 L1 (ix m k))) ?_ ?_
    · rw [glob_setN S1 (by unfold ix; omega)]; ac_rfl
    refine T.weak ?_
    refine Fl_put hi (ok1.slot hm hk2 x71) ?_
    refine h0 _ (fun i h1 h2 => ?_) ?_
    · rw [setN_ne _ _ h2, ← hLe, setN_ne _ _ h1]
    · rw [setN_same, setN_ne _ _ hne.symm, ← hLe, setN_same, List.append_assoc, List.take_append_drop]
  · refine T_drop1 (.init (.init (.init .last))) ?_
    exact Fl_close ok (h0 L (fun _ _ _ => rfl) (.refl _))
theorem free_Put_c {a : Nat} {L : Nat → List Int} (hL : ∀ i, i < 160 → (L i).length ≤ 2 ^ 30) {m k : Nat} (hm : m < 4) (hk2 : k < 32) {x : Int} {kk : Int → K}
    (h1 : FHas L k x → T B (R * Fl a L) (kk 41))
    (h0 : ¬ FHas L k x → ∀ L', Turn L L' m k → (L' k ++ L' (ix m k)).Perm (x :: (L k ++ L (ix m k))) → T B (R * Fl a L') (kk 0)) :
    T B (R * Fl a L) (c_free_Lists_Put (da a) m k x kk) := by
  refine T_of (free_Lists_Put_ok _ m k x kk) ?_
  refine free_right_c ?_
  rw [decide_eq_true (by omega)]
  have hi : ix m k < 160 := by unfold ix; omega
  have hne : ix m k ≠ k := by unfold ix; omega
  have hlk := hL k (by omega)
  have hli := hL (ix m k) hi
  simp only [Bool.not_true]
  (repeat (with_reducible refine T_brF ?_))
  refine free_Has_c hL hk2 (fun h => ?_) (fun h => ?_)
  · (repeat (with_reducible refine T_brT ?_))
    exact h1 h
  have h0 := h0 h
  (repeat (first | with_reducible refine T_tick ?_ | with_reducible refine T_brF ?_ | (with_reducible refine T_al ?_; intro _) | ((with_reducible apply T_st); (focus rfl); (focus (repeat (first | with_reducible exact Upd.last | with_reducible exact Upd.one | with_reducible apply Upd.init))); (focus simp); simp only [List.set, Nat.zero_add, Nat.reduceAdd])))
  rename_i b
  refine T_bring (X := Fl a L) (.init .last) ?_
  refine Fl_pick hi fun S cs r ok => ?_
  unfold da
  (repeat (first | with_reducible refine T_nn ?_ | ((with_reducible apply T_ldI); (focus rfl); (focus (repeat (first | with_reducible exact Has.last | with_reducible exact Has.one | refine Has.init ?_))); (focus rfl)) | ((with_reducible apply T_ldM); (focus rfl); (focus (repeat (first | with_reducible exact Has.last | with_reducible exact Has.one | refine Has.init ?_))); (focus rfl)) | (with_reducible refine T_al ?_; intro _)))
  rename_i b1
  refine T_bring (X := MpF eslot esl r cs) (.init (.init (.init (.init .last)))) ?_
  refine T_entF (ek := eslot) (ev := esl) kd_slot (z := nilS) (by kernel_rfl) (key := ((m : Int), (k : Int))) (sh := .slice) ((cs ((m : Int), (k : Int))).getD nilS) rfl rfl fun stamp M hM => ?_
  rw [ok.eq m k hm hk2]
  refine T.perm (Q := R * pt b (.cells [.int .i64 m, .int .i64 k].toArray 201) * bigX 160 (vI S L) (ix m k) * pt a (.cells (glob S ++ [Value.map (some r)]).toArray 199) * M * vec 3 1 (S (ix m k)) (ints (L (ix m k))) * pt b1 (.cells [.int .i64 x].toArray 3)) (by ac_rfl) ?_
  refine T_app1b (vs := ints (L (ix m k))) (new := [.int .i64 x]) kd_int rfl rfl (by rw [ints_len]; omega) fun s' => ?_
  refine T_bring (X := M) (.init .last) ?_
  refine hM _ s' _ _ rfl ?_
  have e : ints (L (ix m k)) ++ [Value.int .i64 x] = ints (L (ix m k) ++ [x]) := (ints_append (L (ix m k)) [x]).symm
  rw [e]
  have hcl : ∀ t, T B (R * pt b (.cells [.int .i64 m, .int .i64 k].toArray 201) * Fl a (setN L (ix m k) (L (ix m k) ++ [x]))) t → T B (R * pt b (.cells [.int .i64 m, .int .i64 k].toArray 201) * bigX 160 (vI S L) (ix m k) * pt a (.cells (glob S ++ [Value.map (some r)]).toArray 199) * vec 3 1 s' (ints (L (ix m k) ++ [x])) * MpF eslot esl r (updF cs ((m : Int), (k : Int)) s')) t := by
    intro t ht
    have h2 := Fl_put (r := r) hi (ok.slot hm hk2 s') ht
    rw [glob_setN S (by unfold ix; omega)] at h2
    exact T.perm (by ac_rfl) h2
  refine hcl _ ?_
  refine put5_c (L := setN L (ix m k) (L (ix m k) ++ [x])) (fun i hi2 => ?_) hm hk2 fun L' ht hp => ?_
  · by_cases e : i = ix m k
    · subst e; rw [setN_same]; simp; omega
    · rw [setN_ne _ _ e]; have := hL i hi2; omega
  · refine h0 L' (fun i g1 g2 => by rw [ht i g1 g2, setN_ne _ _ g2]) (hp.trans ?_)
    rw [setN_same, setN_ne _ _ hne.symm, ← List.append_assoc]
    exact List.perm_append_singleton x _
end
end Go.Proofs.YtdgcbapclnnkkaaGreat.X
end
section
/- Contracts: all of a mutator's cells for all; all free cells told; free runs told. Conditions: lists below 2^30 elements. -/
set_option linter.unusedVariables false
set_option maxRecDepth 4000
namespace Go.Proofs.YtdgcbapclnnkkaaGreat.X
open Go
def drF (L : Nat → List Int) (m : Nat) : Nat → Nat → List Int
  | 0 => L
  | i + 1 => setN (setN (drF L m i) i (drF L m i i ++ drF L m i (ix m i))) (ix m i) []
theorem drF_get (L : Nat → List Int) {m : Nat} (hm : m < 4) : ∀ i, i ≤ 32 → ∀ x, x < 160 → drF L m i x = if x < 32 then (if x < i then L x ++ L (ix m x) else L x) else if ix m 0 ≤ x ∧ x < ix m 0 + i then [] else L x := by
  intro i
  induction i with
  | zero =>
    intro _ x hx
    show L x = _
    split
    · rw [if_neg (by omega)]
    · rw [if_neg (by omega)]
  | succ i ih =>
    intro hi x hx
    have ih := ih (by omega)
    show setN (setN (drF L m i) i (drF L m i i ++ drF L m i (ix m i))) (ix m i) [] x = _
    have hix : ix m i < 160 := by unfold ix; omega
    by_cases e1 : x = ix m i
    · subst e1
      rw [setN_same, if_neg (by unfold ix; omega), if_pos (by unfold ix; omega)]
    · rw [setN_ne _ _ e1]
      by_cases e2 : x = i
      · subst e2
        rw [setN_same, ih x hx, ih (ix m x) hix, if_pos (by omega), if_neg (by omega), if_neg (by unfold ix; omega), if_neg (by unfold ix; omega), if_pos (by omega), if_pos (by omega)]
      · rw [setN_ne _ _ e2, ih x hx]
        by_cases h32 : x < 32
        · rw [if_pos h32, if_pos h32]
          by_cases h : x < i
          · rw [if_pos h, if_pos (by omega)]
          · rw [if_neg h, if_neg (by omega)]
        · rw [if_neg h32, if_neg h32]
          by_cases h : ix m 0 ≤ x ∧ x < ix m 0 + i
          · rw [if_pos h, if_pos (by omega)]
          · rw [if_neg h, if_neg (by unfold ix at *; omega)]
/-- a class's cells, with those of so many mutators -/
def accL (L : Nat → List Int) (k : Nat) : Nat → List Int
  | 0 => L k
  | i + 1 => accL L k i ++ L (ix i k)
theorem accL_len {L : Nat → List Int} (hL : ∀ i, i < 160 → (L i).length ≤ 2 ^ 30) {k : Nat} (hk : k < 32) : ∀ i, i ≤ 4 → (accL L k i).length ≤ (i + 1) * 2 ^ 30 := by
  intro i
  induction i with
  | zero => intro _; have := hL k (by omega); show (L k).length ≤ _; omega
  | succ i ih =>
    intro h
    have := ih (by omega)
    have := hL (ix i k) (by unfold ix; omega)
    show (accL L k i ++ L (ix i k)).length ≤ _
    rw [List.length_append]; omega
section
variable {B : World} {P R : SL} {t : K}
theorem free_Drain_c {a : Nat} {L : Nat → List Int} (hL : ∀ i, i < 160 → (L i).length ≤ 2 ^ 30) {m : Nat} (hm : m < 4) {kk : Unit → K} (hk : T B (R * Fl a (drF L m 32)) (kk ())) : T B (R * Fl a L) (c_free_Lists_Drain (da a) m kk) := by
  refine T_of (free_Lists_Drain_ok _ m kk) ?_
  (dsimp only [free_Lists_Drain, free_Lists_Drain_s0, free_Lists_Drain_s1, free_Lists_Drain_s2, free_Lists_Drain_s3, free_Lists_Drain_l4, free_Lists_Drain_s5])
  refine T_lpX (fun _ s => R * Fl a (drF L m s.1.toNat)) (fun n (z : Int × Unit) => ∃ i : Nat, z.1 = i ∧ i ≤ 32 ∧ n = 32 - i) 32 rfl ⟨0, rfl, by omega, rfl⟩ ?_
  rintro n ⟨z, u⟩ c ⟨i, e1, e2, e3⟩ hc
  simp only at e1
  subst e1 e3
  simp only [Int.toNat_natCast]
  (repeat' (first | with_reducible refine T_tick ?_ | (with_reducible refine T_al ?_; intro _) | ((with_reducible apply T_st); (focus rfl); (focus (repeat (first | with_reducible exact Upd.last | with_reducible exact Upd.one | with_reducible apply Upd.init))); (focus simp); simp only [List.set, Nat.zero_add, Nat.reduceAdd]) | with_reducible refine T_brD (fun _ => ?_) (fun _ => ?_)))
  · rename_i hlt b
    have hlt' : i < 32 := by omega
    have hix : ix m i < 160 := by unfold ix; omega
    have hne : ix m i ≠ i := by unfold ix; omega
    have hnext := hc (32 - (i + 1)) (IntKind.wrap .i64 ((i : Int) + 1), ()) (by omega) ⟨i + 1, w64 (by omega) (by omega), by omega, rfl⟩
    have e : (IntKind.wrap .i64 ((i : Int) + 1)).toNat = i + 1 := by rw [w64 (by omega) (by omega)]; omega
    simp only [e] at hnext
    have hl1 : (drF L m i i).length ≤ 2 ^ 30 := by rw [drF_get L hm i e2 i (by omega), if_pos hlt', if_neg (by omega)]; exact hL i (by omega)
    have hl2 : (drF L m i (ix m i)).length ≤ 2 ^ 30 := by rw [drF_get L hm i e2 _ hix, if_neg (by unfold ix; omega), if_neg (by unfold ix; omega)]; exact hL _ hix
    have hnext : T B (R * Fl a (setN (setN (drF L m i) i (drF L m i i ++ drF L m i (ix m i))) (ix m i) [])) (c (IntKind.wrap .i64 ((i : Int) + 1), ())) := hnext
    clear hc
    generalize drF L m i = L0 at *
    refine T_bring (X := Fl a L0) (.init .last) ?_
    refine Fl_pick (i := i) (by omega) fun S cs r ok => ?_
    unfold da
    (repeat (with_reducible refine T_nn ?_))
    refine T_gld (S := S) (.init .last) hlt' ?_
    (repeat (first | with_reducible refine T_nn ?_ | ((with_reducible apply T_ldI); (focus rfl); (focus (repeat (first | with_reducible exact Has.last | with_reducible exact Has.one | refine Has.init ?_))); (focus rfl)) | ((with_reducible apply T_ldM); (focus rfl); (focus (repeat (first | with_reducible exact Has.last | with_reducible exact Has.one | refine Has.init ?_))); (focus rfl))))
    refine T_lkSlot (cs := cs) (MHas.init (MHas.init (MHas.init (MHas.of .last)))) fun ob bb => ?_
    rw [ok.eq m i hm hlt']
    (repeat (with_reducible refine T_nn ?_))
    have hrd := bigXRd (S := S) (L := L0) hix hne
    refine T_rdlen (Rd.init (Rd.init (Rd.tail hrd))) fun hnn => ?_
    rw [ints_len, Nat.mul_one] at hnn
    refine T_append (s := S i) (vs := ints (L0 i)) (x := S (ix m i)) (new := ints (L0 (ix m i))) kd_int (Rd.init (Rd.tail hrd)) (ints_scal _) (by rw [ints_len]; omega) fun s' => ?_
    refine T_gst (S := S) (s := s') hlt' (.init .last) ?_
    rw [← ints_append]
    (repeat (first | with_reducible refine T_nn ?_ | with_reducible refine T_tick ?_ | ((with_reducible apply T_ldI); (focus rfl); (focus (repeat (first | with_reducible exact Has.last | with_reducible exact Has.one | refine Has.init ?_))); (focus rfl)) | ((with_reducible apply T_ldM); (focus rfl); (focus (repeat (first | with_reducible exact Has.last | with_reducible exact Has.one | refine Has.init ?_))); (focus rfl))))
    refine T_bring (X := MpF eslot esl r cs) (.init (.init (.init .last))) ?_
    refine T_delF (ek := eslot) (ev := esl) kd_slot (key := ((m : Int), (i : Int))) rfl ?_
    have ok1 := ok.glob hlt' s'
    have ok2 := ok1.del hm hlt'
    refine T.perm (Q := R * pt b (.cells [.int .i64 m, .int .i64 i].toArray 201) * MpF eslot esl r (delF cs ((m : Int), (i : Int))) * bigS 160 (vI (setN S i s') (setN L0 i (L0 i ++ L0 (ix m i)))) * pt a (.cells (glob (setN S i s') ++ [Value.map (some r)]).toArray 199)) (by rw [← bigIn (by omega)]; ac_rfl) ?_
    rw [bigS_out hix]
    refine T.perm (Q := R * MpF eslot esl r (delF cs ((m : Int), (i : Int))) * bigX 160 (vI (setN S i s') (setN L0 i (L0 i ++ L0 (ix m i)))) (ix m i) * pt a (.cells (glob (setN (setN S i s') (ix m i) nilS) ++ [Value.map (some r)]).toArray 199) * (pt b (.cells [.int .i64 m, .int .i64 i].toArray 201) * vI (setN S i s') (setN L0 i (L0 i ++ L0 (ix m i))) (ix m i))) ?_ ?_
    · rw [glob_setN (setN S i s') (by unfold ix; omega)]; ac_rfl
    refine T.weak ?_
    refine vec_nilI _ ?_
    exact Fl_put hix ok2 hnext
  · have : i = 32 := by omega
    subst this
    exact hk
theorem free_List_c {a : Nat} {L : Nat → List Int} (hL : ∀ i, i < 160 → (L i).length ≤ 2 ^ 30) {k : Nat} (hk2 : k < 32) {kk : Sl → K} (hk : ∀ s, T B (R * Fl a L * vec 3 1 s (ints (sortI (accL L k 4)))) (kk s)) : T B (R * Fl a L) (c_free_Lists_List (da a) k kk) := by
  refine T_of (free_Lists_List_ok _ k kk) ?_
  refine class_Right_c ?_
  rw [decide_eq_true (by omega)]
  simp only [Bool.not_true]
  refine Fl_open fun S cs r ok => ?_
  unfold da
  (repeat (first | with_reducible refine T_nn ?_ | with_reducible refine T_brF ?_))
  refine T_gld (S := S) .last hk2 ?_
  have hl := hL k (by omega)
  have hacc := accL_len hL hk2
  refine clone_int_c (l := L k) (by omega) (Rd.init (Rd.tail (bigRd (S := S) (L := L) (by omega)))) fun x16 => ?_
  (dsimp only [free_Lists_List, free_Lists_List_s0, free_Lists_List_s1, free_Lists_List_s2, free_Lists_List_s3, free_Lists_List_s4, free_Lists_List_l5, free_Lists_List_s6, free_Lists_List_s7, free_Lists_List_s8, free_Lists_List_s9, free_Lists_List_s10, free_Lists_List_s11])
  refine T_lpX (fun _ s => R * MpF eslot esl r cs * bigS 160 (vI S L) * pt a (.cells (glob S ++ [Value.map (some r)]).toArray 199) * vec 3 1 s.1 (ints (accL L k s.2.1.toNat))) (fun n (z : Sl × Int × Unit) => ∃ i : Nat, z.2.1 = i ∧ i ≤ 4 ∧ n = 4 - i) 4 rfl ⟨0, rfl, by omega, rfl⟩ ?_
  rintro n ⟨out, z, u⟩ c ⟨i, e1, e2, e3⟩ hc
  simp only at e1
  subst e1 e3
  simp only [Int.toNat_natCast]
  (repeat' (first | with_reducible refine T_nn ?_ | ((with_reducible apply T_ldM); (focus rfl); (focus (repeat (first | with_reducible exact Has.last | with_reducible exact Has.one | refine Has.init ?_))); (focus rfl)) | with_reducible refine T_brD (fun _ => ?_) (fun _ => ?_)))
  · have hlt : i < 4 := by omega
    have hix : ix i k < 160 := by unfold ix; omega
    refine T_lkSlot (cs := cs) (MHas.init (MHas.init (MHas.init (MHas.of .last)))) fun ob bb => ?_
    rw [ok.eq i k hlt hk2]
    have hrd := bigRd (S := S) (L := L) hix
    refine T_rdlen (Rd.init (Rd.init (Rd.tail hrd))) fun hnn => ?_
    rw [ints_len, Nat.mul_one] at hnn
    have h1 := hL _ hix
    have h2 := hacc i e2
    have h3 : (i + 1) * 2 ^ 30 ≤ 5 * 2 ^ 30 := Nat.mul_le_mul_right _ (by omega)
    refine T_append (s := out) (vs := ints (accL L k i)) (x := S (ix i k)) (new := ints (L (ix i k))) kd_int (Rd.init (Rd.tail hrd)) (ints_scal _) (by rw [ints_len]; omega) fun s' => ?_
    have := hc (4 - (i + 1)) (s', IntKind.wrap .i64 ((i : Int) + 1), ()) (by omega) ⟨i + 1, w64 (by omega) (by omega), by omega, rfl⟩
    have e : (IntKind.wrap .i64 ((i : Int) + 1)).toNat = i + 1 := by rw [w64 (by omega) (by omega)]; omega
    simp only [e] at this
    rw [← ints_append]
    exact this
  · have h4 : i = 4 := by omega
    subst h4
    have h2 := hacc 4 (by omega)
    refine sort_int_c (by omega) ?_
    have := hk out
    refine T_bring (X := vec 3 1 out (ints (sortI (accL L k 4)))) .last ?_
    refine T.perm (Q := R * vec 3 1 out (ints (sortI (accL L k 4))) * MpF eslot esl r cs * bigS 160 (vI S L) * pt a (.cells (glob S ++ [Value.map (some r)]).toArray 199)) (by ac_rfl) ?_
    refine Fl_close ok ?_
    exact T.perm (by ac_rfl) this
/-- ascending by their firsts -/
theorem runs_List_c {x : Nat} {lim : Int} {F : RF} {k : Sl → K} (ok : RunsOk lim F) (hk : ∀ s l, Cov F l → l.Pairwise (fun p q => p.1 ≤ q.1) → T B (R * Idx x lim F * vec 152 2 s (prs l)) (k s)) : T B (R * Idx x lim F) (c_runs_Index_List (da x) k) := by
  refine T_of (runs_Index_List_ok _ k) ?_
  unfold da
  refine Idx_open fun r1 r2 E hE => ?_
  (repeat (first | with_reducible refine T_nn ?_ | ((with_reducible apply T_ldM); (focus rfl); (focus (repeat (first | with_reducible exact Has.last | with_reducible exact Has.one | refine Has.init ?_))); (focus rfl))))
  (dsimp only [runs_Index_List, runs_Index_List_s0, runs_Index_List_s1, runs_Index_List_s2, runs_Index_List_s3, runs_Index_List_s4, runs_Index_List_l5, runs_Index_List_s6, runs_Index_List_s7])
  refine T_bring (X := MpF ei ei r1 F) (.init (.init .last)) ?_
  have hB := ok.big
  have cl : ∀ s l t, T B (R * Idx x lim F * vec 152 2 s (prs l)) t → T B (R * MpF ei ei r2 E * pt x (.cells [.map (some r1), .map (some r2), .int .i64 lim].toArray 242) * vec 152 2 s (prs l) * MpF ei ei r1 F) t := by
    intro s l t h
    have h2 : T B (R * vec 152 2 s (prs l) * Idx x lim F) t := T.perm (by ac_rfl) h
    exact T.perm (by ac_rfl) (Idx_close (r1 := r1) (r2 := r2) hE h2)
  refine T_rangeF (f := F) (ek := ei) (ev := ei) kd_ii (fun z sn => R * MpF ei ei r2 E * pt x (.cells [.map (some r1), .map (some r2), .int .i64 lim].toArray 242) * vec 152 2 z.1 (prs sn.reverse)) (fun z sn => Sub F sn) (fun t h => ?_) ⟨by simp, by simp⟩ ?_ ?_
  · refine T_vecN (E := 152) (sz := 2) (s := ⟨none, 0, 0⟩) rfl rfl ?_
    exact T.perm (by simp only [List.reverse_nil]; show _ = _ * vec 152 2 ⟨none, 0, 0⟩ [] * _; ac_rfl) h
  · rintro ⟨z, u⟩ sn key v It c hS hf hni hM hW hc
    have hS' := hS.cons hf hni
    have l1 := hS'.len ok
    simp only [List.length_cons] at l1
    refine T_decI key rfl ?_
    refine T_decI v rfl ?_
    (repeat ((with_reducible refine T_al ?_; intro _)))
    rename_i b
    refine T.perm (Q := R * MpF ei ei r2 E * pt x (.cells [.map (some r1), .map (some r2), .int .i64 lim].toArray 242) * It * vec 152 2 z (prs sn.reverse) * pt b (.cells [.int .i64 key, .int .i64 v].toArray 152)) (by ac_rfl) ?_
    refine T_app1b (vs := prs sn.reverse) (new := [.int .i64 key, .int .i64 v]) kd_sp rfl rfl (by rw [prs_len]; simp; omega) fun s' => ?_
    have := hc (s', ()) hS'
    rw [List.reverse_cons, prs_append] at this
    exact T.perm (by show _ = _ * vec 152 2 s' (prs sn.reverse ++ prs [(key, v)]) * It; rw [show prs [(key, v)] = [.int .i64 key, .int .i64 v] from rfl]; ac_rfl) this
  · rintro ⟨z, u⟩ sn hS hnd hcov
    simp only
    have l1 := hS.len ok
    refine T_bring (X := vec 152 2 z (prs sn.reverse)) (.init .last) ?_
    refine sort_sp_c (by simp; omega) (fun p hp => ?_) fun l' hp hs => ?_
    · have := ok.rng _ _ (hS.mem p (by simpa using hp)); omega
    · have hcov' : Cov F l' := by
        have hp2 : l'.Perm sn := hp.trans (List.reverse_perm sn)
        refine ⟨(hp2.map (·.1)).nodup_iff.2 hnd, fun key v => ?_⟩
        rw [hcov, hp2.mem_iff]
      exact T.perm (by ac_rfl) (cl z l' _ (hk z l' hcov' hs))
end
end Go.Proofs.YtdgcbapclnnkkaaGreat.X
end
section
/- The allocator's state, told. Conditions: at most 2^20 blocks. -/
set_option linter.unusedVariables false
set_option maxRecDepth 4000
namespace Go.Proofs.YtdgcbapclnnkkaaGreat.X
open Go
/-- words of a cell, cells of a block -/
def cw (k : Nat) : Nat := (clsW k).toNat
def cn (k : Nat) : Nat := (cls k).toNat
theorem cls_tab : ∀ k : Nat, k < 32 → clsW k = cw k ∧ cls k = cn k ∧ 2 ≤ cw k ∧ cw k ≤ 256 ∧ cn k = 512 / cw k ∧ 2 ≤ cn k ∧ cn k ≤ 256 ∧ cn k * cw k ≤ 512 := by decide +kernel
def cellN (b k i : Nat) : Nat := b * 512 + i * cw k
theorem cellN_rng {b k i : Nat} (hk : k < 32) (hi : i < cn k) : b * 512 ≤ cellN b k i ∧ cellN b k i + cw k ≤ (b + 1) * 512 := by
  obtain ⟨_, _, h2, _, _, _, _, h8⟩ := cls_tab k hk
  unfold cellN
  have : (i + 1) * cw k ≤ cn k * cw k := Nat.mul_le_mul_right _ hi
  rw [Nat.add_mul, Nat.one_mul] at this
  omega
theorem cellN_inj {b b' k i i' : Nat} (hk : k < 32) (hi : i < cn k) (hi' : i' < cn k) (h : cellN b k i = cellN b' k i') : b = b' ∧ i = i' := by
  have h1 := cellN_rng (b := b) hk hi
  have h2 := cellN_rng (b := b') hk hi'
  obtain ⟨_, _, h3, _⟩ := cls_tab k hk
  have hb : b = b' := by omega
  subst hb
  refine ⟨rfl, ?_⟩
  unfold cellN at h
  exact Nat.eq_of_mul_eq_mul_right (by omega) (by omega : i * cw k = i' * cw k)
theorem cellN_blk {b k i : Nat} (hk : k < 32) (hi : i < cn k) : cellN b k i / 512 = b := by
  have h1 := cellN_rng (b := b) hk hi
  obtain ⟨_, _, h3, _⟩ := cls_tab k hk
  omega
theorem cellAt_eq {g b k i : Nat} (hk : k < 32) (hb : 1 ≤ b) (hb2 : b < g) (hi : i < cn k) : cellAt g k ((b : Int), (i : Int)) = (cellN b k i : Nat) := by
  obtain ⟨h1, h2, _⟩ := cls_tab k hk
  unfold cellAt cellN
  rw [if_neg (by rw [h2]; omega), h1]
  simp only [Int.natCast_add, Int.natCast_mul]; rfl
abbrev hd (hs : List Hd) (b : Nat) : Hd := hs.getD b (0, 0, 0)
/-- a cell of a block of small objects of a class -/
def SmCell (g : Nat) (hs : List Hd) (k x : Nat) : Prop := ∃ b i : Nat, 1 ≤ b ∧ b < g ∧ hd hs b = (1, (k : Int), 0) ∧ i < cn k ∧ x = cellN b k i
theorem SmCell.k {g : Nat} {hs : List Hd} {k k' x : Nat} (hk : k < 32) (hk' : k' < 32) (h : SmCell g hs k x) (h' : SmCell g hs k' x) : k = k' := by
  obtain ⟨b, i, _, _, h1, h2, rfl⟩ := h
  obtain ⟨b', i', _, _, h1', h2', e⟩ := h'
  have : b = b' := by
    have e1 := cellN_blk (b := b) hk h2
    rw [e, cellN_blk hk' h2'] at e1
    exact e1.symm
  subst this
  rw [h1] at h1'
  simp only [Prod.mk.injEq] at h1'
  omega
/-- what the lists of free cells hold -/
structure Frees (g : Nat) (hs : List Hd) (U : Nat → Bool) (L : Nat → List Int) : Prop where
  nd : ∀ k, k < 32 → (accL L k 4).Nodup
  mem : ∀ k, k < 32 → ∀ y : Int, y ∈ accL L k 4 ↔ ∃ x : Nat, y = x ∧ SmCell g hs k x ∧ U x = false
/-- an allocator's blocks, objects and free cells fit one another -/
structure Inv (g : Nat) (hs : List Hd) (U : Nat → Bool) (L : Nat → List Int) : Prop where
  len : hs.length = g
  two : 2 ≤ g
  big : g ≤ 2 ^ 20
  right : ∀ h ∈ hs, hRight h
  zero : hd hs 0 = (0, 0, 0)
  whole : ∀ b, (hd hs b).1 = 2 → ∃ n, WholeP hs b n
  cont : ∀ b, (hd hs b).1 = 3 → ∃ b0 n, WholeP hs b0 n ∧ b0 < b ∧ b < b0 + n
  used : ∀ x, U x = true → (∃ k, k < 32 ∧ SmCell g hs k x) ∨ (∃ b n, 1 ≤ b ∧ WholeP hs b n ∧ x = b * 512)
  free : Frees g hs U L
theorem mem_accL {L : Nat → List Int} {k : Nat} {y : Int} : y ∈ accL L k 4 ↔ FHas L k y := by
  show y ∈ (((L k ++ L (ix 0 k)) ++ L (ix 1 k)) ++ L (ix 2 k)) ++ L (ix 3 k) ↔ _
  unfold FHas
  simp only [List.mem_append]
  constructor
  · rintro ((((h | h) | h) | h) | h)
    · exact .inl h
    · exact .inr ⟨0, by omega, h⟩
    · exact .inr ⟨1, by omega, h⟩
    · exact .inr ⟨2, by omega, h⟩
    · exact .inr ⟨3, by omega, h⟩
  · rintro (h | ⟨m, hm, h⟩)
    · exact .inl (.inl (.inl (.inl h)))
    · have : m = 0 ∨ m = 1 ∨ m = 2 ∨ m = 3 := by omega
      rcases this with rfl | rfl | rfl | rfl
      · exact .inl (.inl (.inl (.inr h)))
      · exact .inl (.inl (.inr h))
      · exact .inl (.inr h)
      · exact .inr h
theorem accL_count (L : Nat → List Int) (k : Nat) (y : Int) : (accL L k 4).count y = (L k).count y + (L (ix 0 k)).count y + (L (ix 1 k)).count y + (L (ix 2 k)).count y + (L (ix 3 k)).count y := by
  show ((((L k ++ L (ix 0 k)) ++ L (ix 1 k)) ++ L (ix 2 k)) ++ L (ix 3 k)).count y = _
  simp only [List.count_append]
/-- one cell turned, out of two lists of a class -/
theorem accL_turn {L L' : Nat → List Int} {m k : Nat} (hm : m < 4) (hk : k < 32) (ht : Turn L L' m k) {l l' : List Int} (hp : (L k ++ L (ix m k) ++ l).Perm (L' k ++ L' (ix m k) ++ l')) :
    (accL L k 4 ++ l).Perm (accL L' k 4 ++ l') ∧ ∀ j, j < 32 → j ≠ k → accL L' j 4 = accL L j 4 := by
  constructor
  · rw [List.perm_iff_count]
    intro y
    have h := hp.count_eq y
    simp only [List.count_append, accL_count] at h ⊢
    have hh : ∀ m', m' < 4 → m' ≠ m → L' (ix m' k) = L (ix m' k) := fun m' h1 h2 => ht _ (by unfold ix; omega) (by unfold ix; omega)
    have : m = 0 ∨ m = 1 ∨ m = 2 ∨ m = 3 := by omega
    rcases this with rfl | rfl | rfl | rfl
    · rw [hh 1 (by omega) (by omega), hh 2 (by omega) (by omega), hh 3 (by omega) (by omega)]; omega
    · rw [hh 0 (by omega) (by omega), hh 2 (by omega) (by omega), hh 3 (by omega) (by omega)]; omega
    · rw [hh 0 (by omega) (by omega), hh 1 (by omega) (by omega), hh 3 (by omega) (by omega)]; omega
    · rw [hh 0 (by omega) (by omega), hh 1 (by omega) (by omega), hh 2 (by omega) (by omega)]; omega
  · intro j hj hjk
    have e : ∀ i, accL L' j i = accL L j i ∨ 4 < i := by
      intro i
      induction i with
      | zero => left; exact ht j hjk (by unfold ix; omega)
      | succ i ih =>
        by_cases h : 4 < i + 1
        · exact .inr h
        · rcases ih with ih | ih
          · left
            show accL L' j i ++ L' (ix i j) = accL L j i ++ L (ix i j)
            rw [ih, ht (ix i j) (by unfold ix; omega) (by unfold ix; omega)]
          · omega
    rcases e 4 with h | h
    · exact h
    · omega
theorem Frees.len {g : Nat} {hs : List Hd} {U : Nat → Bool} {L : Nat → List Int} (hg : g ≤ 2 ^ 20) (h : Frees g hs U L) {k : Nat} (hk : k < 32) : (accL L k 4).length ≤ 2 ^ 29 := by
  have h1 : ((accL L k 4).map Int.toNat).Nodup := by
    refine List.Pairwise.map _ (fun a b hab => ?_) (List.Pairwise.and_mem.1 (h.nd k hk))
    obtain ⟨ha, hb, hab⟩ := hab
    obtain ⟨x, rfl, _⟩ := (h.mem k hk a).1 ha
    obtain ⟨y, rfl, _⟩ := (h.mem k hk b).1 hb
    omega
  have := nodup_lt_len (2 ^ 29) _ h1 (fun x hx => by
    obtain ⟨a, ha, rfl⟩ := List.mem_map.1 hx
    obtain ⟨x, rfl, ⟨b, i, h1, h2, h3, h4, rfl⟩, _⟩ := (h.mem k hk a).1 ha
    have := cellN_rng (b := b) hk h4
    obtain ⟨_, _, h5, _⟩ := cls_tab k hk
    omega)
  simpa using this
theorem Frees.lens {g : Nat} {hs : List Hd} {U : Nat → Bool} {L : Nat → List Int} (hg : g ≤ 2 ^ 20) (h : Frees g hs U L) : ∀ i, i < 160 → (L i).length ≤ 2 ^ 29 := by
  intro i hi
  have sub : ∀ k, k < 32 → (accL L k 4).length = (L k).length + (L (ix 0 k)).length + (L (ix 1 k)).length + (L (ix 2 k)).length + (L (ix 3 k)).length := by
    intro k _
    show ((((L k ++ L (ix 0 k)) ++ L (ix 1 k)) ++ L (ix 2 k)) ++ L (ix 3 k)).length = _
    simp only [List.length_append]
  by_cases h32 : i < 32
  · have := h.len hg h32
    rw [sub i h32] at this; omega
  · obtain ⟨m, k, hm, hk, rfl⟩ : ∃ m k, m < 4 ∧ k < 32 ∧ i = ix m k := ⟨(i - 32) / 32, (i - 32) % 32, by omega, by omega, by unfold ix; omega⟩
    have := h.len hg hk
    rw [sub k hk] at this
    have : m = 0 ∨ m = 1 ∨ m = 2 ∨ m = 3 := by omega
    rcases this with rfl | rfl | rfl | rfl <;> omega
end Go.Proofs.YtdgcbapclnnkkaaGreat.X
end
section
/- Contracts: a block's cells made free. Conditions: at most 2^20 blocks. -/
set_option linter.unusedVariables false
set_option maxRecDepth 4000
namespace Go.Proofs.YtdgcbapclnnkkaaGreat.X
open Go
structure St where
  hs : List Hd
  F : RF
  c : List Int
  U : Nat → Bool
  L : Nat → List Int
def AlQ (a d g : Nat) (s : St) (m u f : Nat) : SL := LDx d (64 * g) s.c * Mg m d g s.hs s.F * Bm u (512 * g) s.U * Fl f s.L * pt a (.cells [.pointer (da m), .pointer (da d), .int .i64 g, .pointer (da u), .pointer (da f)].toArray 47)
def Al (a d g : Nat) (s : St) : SL := ex fun q : Nat × Nat × Nat => AlQ a d g s q.1 q.2.1 q.2.2
section
variable {B : World} {P R : SL} {t : K}
theorem Al_open {a d g : Nat} {s : St} (h : ∀ m u f, T B (R * LDx d (64 * g) s.c * Mg m d g s.hs s.F * Bm u (512 * g) s.U * Fl f s.L * pt a (.cells [.pointer (da m), .pointer (da d), .int .i64 g, .pointer (da u), .pointer (da f)].toArray 47)) t) : T B (R * Al a d g s) t := by
  refine T_ex fun q => T.perm ?_ (h q.1 q.2.1 q.2.2)
  unfold AlQ; simp only [sep_assoc]
theorem Al_close {a d g m u f : Nat} {s : St} (h : T B (R * Al a d g s) t) : T B (R * LDx d (64 * g) s.c * Mg m d g s.hs s.F * Bm u (512 * g) s.U * Fl f s.L * pt a (.cells [.pointer (da m), .pointer (da d), .int .i64 g, .pointer (da u), .pointer (da f)].toArray 47)) t := by
  have h2 := T_exI (B := B) (R := R) (t := t) (X := fun q : Nat × Nat × Nat => AlQ a d g s q.1 q.2.1 q.2.2) (m, u, f) h
  refine T.perm ?_ h2
  unfold AlQ; simp only [sep_assoc]
theorem Al_tie {a d g : Nat} {s : St} (h : Tie g s.hs s.F → T B (R * Al a d g s) t) : T B (R * Al a d g s) t := by
  refine Al_open fun m u f => ?_
  refine T_bring (X := Mg m d g s.hs s.F) (.init (.init (.init .last))) ?_
  refine Mg_tie fun tie => ?_
  exact T.perm (by ac_rfl) (Al_close (m := m) (u := u) (f := f) (h tie))
end
/-- a block's cells that are not in use, the last one first; so many of them looked at -/
def cvN (U : Nat → Bool) (b k : Nat) : Nat → List Int
  | 0 => []
  | t + 1 => cvN U b k t ++ (if U (cellN b k (cn k - 1 - t)) then [] else [((cellN b k (cn k - 1 - t) : Nat) : Int)])
theorem cvN_mem {U : Nat → Bool} {b k : Nat} : ∀ {t : Nat}, t ≤ cn k → ∀ {y : Int}, y ∈ cvN U b k t ↔ ∃ i, cn k - t ≤ i ∧ i < cn k ∧ y = (cellN b k i : Nat) ∧ U (cellN b k i) = false := by
  intro t
  induction t with
  | zero => intro _ y; simp only [cvN, List.not_mem_nil, false_iff]; rintro ⟨i, h1, h2, _⟩; omega
  | succ t ih =>
    intro ht y
    have ih := @ih (by omega) y
    simp only [cvN, List.mem_append, ih]
    constructor
    · rintro (⟨i, h1, h2, h3⟩ | h)
      · exact ⟨i, by omega, h2, h3⟩
      · split at h
        · simp at h
        · rename_i hu
          simp only [List.mem_singleton] at h
          exact ⟨cn k - 1 - t, by omega, by omega, h, by simpa using hu⟩
    · rintro ⟨i, h1, h2, h3, h4⟩
      by_cases e : i = cn k - 1 - t
      · right
        rw [← e, if_neg (by simp [h4])]; simp [h3]
      · exact .inl ⟨i, by omega, h2, h3, h4⟩
theorem cvN_nodup {U : Nat → Bool} {b k : Nat} (hk : k < 32) : ∀ {t : Nat}, t ≤ cn k → (cvN U b k t).Nodup := by
  intro t
  induction t with
  | zero => intro _; simp [cvN]
  | succ t ih =>
    intro ht
    simp only [cvN]
    split
    · simp; exact ih (by omega)
    · rw [List.nodup_append]
      refine ⟨ih (by omega), by simp, fun y hy z hz => ?_⟩
      simp only [List.mem_singleton] at hz
      subst hz
      obtain ⟨i, h1, h2, h3, _⟩ := (cvN_mem (by omega)).1 hy
      intro e
      rw [h3] at e
      have := (cellN_inj (b := b) (b' := b) hk h2 (by omega) (by omega : cellN b k i = cellN b k (cn k - 1 - t))).2
      omega
theorem cvN_len {U : Nat → Bool} {b k t : Nat} : (cvN U b k t).length ≤ t := by
  induction t with
  | zero => simp [cvN]
  | succ t ih =>
    simp only [cvN, List.length_append]
    split <;> simp <;> omega
section
variable {B : World} {P R : SL} {t : K}
theorem carve_c {a d g b k : Nat} {s : St} (hg : g ≤ 2 ^ 20) (hb : 1 ≤ b) (hb2 : b < g) (hk : k < 32) (hL : ∀ i, i < 160 → (s.L i).length ≤ 2 ^ 29) (hno : ∀ i, i < cn k → ¬ FHas s.L k ((cellN b k i : Nat) : Int)) {kk : Unit → K}
    (hkk : T B (R * Al a d g { s with L := setN s.L k (s.L k ++ cvN s.U b k (cn k)) }) (kk ())) : T B (R * Al a d g s) (c_alloc_Allocator_carve (da a) b k kk) := by
  refine T_of (alloc_Allocator_carve_ok _ b k kk) ?_
  obtain ⟨t1, t2, t3, t4, t5, t6, t7, t8⟩ := cls_tab k hk
  refine class_Cells_c ?_
  have e0 : IntKind.wrap .i64 (cls k - 1) = (cn k : Int) - 1 := by rw [w64 (by omega) (by omega), t2]
  (dsimp only [alloc_Allocator_carve, alloc_Allocator_carve_s0, alloc_Allocator_carve_s1, alloc_Allocator_carve_s2, alloc_Allocator_carve_s3, alloc_Allocator_carve_s4, alloc_Allocator_carve_l5, alloc_Allocator_carve_s6])
  rw [e0]
  refine T_lpX (fun n z => R * Al a d g { s with L := setN s.L k (s.L k ++ cvN s.U b k (cn k - n)) }) (fun n (z : Int × Unit) => n ≤ cn k ∧ z.1 = (n : Int) - 1) (cn k) ?_ ⟨by omega, rfl⟩ ?_
  · rw [Nat.sub_self]
    simp only [cvN, List.append_nil]
    rw [setN_self]
  rintro n ⟨z, u⟩ c ⟨e1, e2⟩ hc
  simp only at e2
  subst e2
  (repeat' (with_reducible refine T_brD (fun _ => ?_) (fun _ => ?_)))
  · rename_i hge
    have hn : 1 ≤ n := by omega
    have ei : (n : Int) - 1 = ((n - 1 : Nat) : Int) := by omega
    have hlt : n - 1 < cn k := by omega
    refine Al_open fun m u f => ?_
    unfold da
    (repeat (first | with_reducible refine T_nn ?_ | ((with_reducible apply T_ldI); (focus rfl); (focus (repeat (first | with_reducible exact Has.last | with_reducible exact Has.one | refine Has.init ?_))); (focus rfl))))
    rw [ei]
    refine cells_Address_c (by omega) ?_
    rw [cellAt_eq hk hb hb2 hlt]
    (repeat (first | with_reducible refine T_nn ?_ | ((with_reducible apply T_ldP); (focus rfl); (focus (repeat (first | with_reducible exact Has.last | with_reducible exact Has.one | refine Has.init ?_))); (focus rfl))))
    refine T_bring (X := Bm u (512 * g) s.U) (.init (.init .last)) ?_
    refine bitmap_Has_c ?_
    have hh : has s.U ((cellN b k (n - 1) : Nat) : Int) = s.U (cellN b k (n - 1)) := by unfold has; rw [decide_eq_true (by omega), Bool.true_and, Int.toNat_natCast]
    rw [hh]
    have hstep : cn k - (n - 1) = (cn k - n) + 1 := by omega
    have hcell : cn k - 1 - (cn k - n) = n - 1 := by omega
    have hnx := hc (n - 1) (IntKind.wrap .i64 (((n - 1 : Nat) : Int) - 1), ()) (by omega) ⟨by omega, by rw [w64 (by omega) (by omega)]⟩
    rw [hstep] at hnx
    simp only [cvN, hcell] at hnx
    cases hu : s.U (cellN b k (n - 1))
    · rw [hu] at hnx
      simp only [Bool.false_eq_true, if_false] at hnx
      simp only [Bool.not_false]
      (repeat (first | with_reducible refine T_nn ?_ | with_reducible refine T_brT ?_ | ((with_reducible apply T_ldP); (focus rfl); (focus (repeat (first | with_reducible exact Has.last | with_reducible exact Has.one | refine Has.init ?_))); (focus rfl))))
      refine T_bring (X := Fl f (setN s.L k (s.L k ++ cvN s.U b k (cn k - n)))) (.init (.init .last)) ?_
      have hlen : ∀ i, i < 160 → (setN s.L k (s.L k ++ cvN s.U b k (cn k - n)) i).length ≤ 2 ^ 30 := by
        intro i hi
        have h1 := hL i hi
        have h2 := @cvN_len s.U b k (cn k - n)
        by_cases e : i = k
        · subst e; rw [setN_same, List.length_append]; omega
        · rw [setN_ne _ _ e]; omega
      refine free_Push_c hlen hk (fun hf => ?_) (fun _ => ?_)
      · exfalso
        rcases hf with h | ⟨m', hm', h⟩
        · rw [setN_same, List.mem_append] at h
          rcases h with h | h
          · exact hno (n - 1) hlt (.inl h)
          · obtain ⟨i, h1, h2, h3, h4⟩ := (cvN_mem (by omega)).1 h
            have := (cellN_inj (b := b) (b' := b) hk hlt h2 (by omega)).2
            omega
        · rw [setN_ne _ _ (by unfold ix; omega)] at h
          exact hno (n - 1) hlt (.inr ⟨m', hm', h⟩)
      · have e3 : setN (setN s.L k (s.L k ++ cvN s.U b k (cn k - n))) k (setN s.L k (s.L k ++ cvN s.U b k (cn k - n)) k ++ [((cellN b k (n - 1) : Nat) : Int)]) = setN s.L k (s.L k ++ (cvN s.U b k (cn k - n) ++ [((cellN b k (n - 1) : Nat) : Int)])) := by
          funext j
          by_cases e : j = k
          · subst e; rw [setN_same, setN_same, setN_same, List.append_assoc]
          · rw [setN_ne _ _ e, setN_ne _ _ e, setN_ne _ _ e]
        rw [e3]
        exact T.perm (by unfold da; ac_rfl) (Al_close (a := a) (m := m) (u := u) (f := f) (d := d) (g := g) (R := R) (s := { s with L := setN s.L k (s.L k ++ (cvN s.U b k (cn k - n) ++ [((cellN b k (n - 1) : Nat) : Int)])) }) hnx)
    · rw [hu] at hnx
      simp only [if_true, List.append_nil] at hnx
      simp only [Bool.not_true]
      (repeat (with_reducible refine T_brF ?_))
      exact T.perm (by unfold da; ac_rfl) (Al_close (a := a) (m := m) (u := u) (f := f) (d := d) (g := g) (R := R) (s := { s with L := setN s.L k (s.L k ++ cvN s.U b k (cn k - n)) }) hnx)
  · have : n = 0 := by omega
    subst this
    exact hkk
end
end Go.Proofs.YtdgcbapclnnkkaaGreat.X
end
section
/- How an allocator's state turns: a cell taken, a block taken; a cell of another mutator. Conditions: at most 2^20 blocks. -/
set_option linter.unusedVariables false
set_option maxRecDepth 4000
namespace Go.Proofs.YtdgcbapclnnkkaaGreat.X
open Go
theorem hRight_mem {hs : List Hd} (h : ∀ x ∈ hs, hRight x) (b : Nat) : hRight (hd hs b) := by
  by_cases hb : b < hs.length
  · exact h _ (getD_mem hb)
  · unfold hd; rw [List.getD_eq_getElem?_getD, List.getElem?_eq_none (by omega)]; exact .inl rfl
theorem WholeP.keep {hs hs' : List Hd} {b n : Nat} (hl : hs'.length = hs.length) (h : WholeP hs b n) (he : ∀ i, b ≤ i → i < b + n → hd hs' i = hd hs i) : WholeP hs' b n := by
  obtain ⟨h1, h2, h3, h4, h5⟩ := h
  refine ⟨h1, by omega, ?_, ?_, fun i hi hi2 => ?_⟩
  · have := he b (by omega) (by omega); unfold hd at this; rw [this]; exact h3
  · have := he b (by omega) (by omega); unfold hd at this; rw [this]; exact h4
  · have := he (b + i) (by omega) (by omega); unfold hd at this; rw [this]; exact h5 i hi hi2
theorem WholeP.kind {hs : List Hd} {b n i : Nat} (h : WholeP hs b n) (h1 : b ≤ i) (h2 : i < b + n) : (i = b ∧ (hd hs i).1 = 2) ∨ (b < i ∧ (hd hs i).1 = 3) := by
  by_cases e : i = b
  · subst e; exact .inl ⟨rfl, h.2.2.1⟩
  · right
    refine ⟨by omega, ?_⟩
    have := h.2.2.2.2 (i - b) (by omega) (by omega)
    rw [show b + (i - b) = i by omega] at this
    show (hs.getD i (0, 0, 0)).1 = 3
    rw [this]
/-- a cell out of the lists -/
theorem Frees.take {g : Nat} {hs : List Hd} {U : Nat → Bool} {L L' : Nat → List Int} (h : Frees g hs U L) {k : Nat} (hk : k < 32) {y : Int} (hp : (accL L k 4).Perm (y :: accL L' k 4)) (ho : ∀ j, j < 32 → j ≠ k → (accL L' j 4).Perm (accL L j 4)) :
    ∃ x : Nat, y = x ∧ SmCell g hs k x ∧ U x = false ∧ Frees g hs (uAdd U x) L' := by
  have hy : y ∈ accL L k 4 := hp.mem_iff.2 (by simp)
  obtain ⟨x, rfl, hc, hu⟩ := (h.mem k hk y).1 hy
  refine ⟨x, rfl, hc, hu, fun j hj => ?_, fun j hj z => ?_⟩
  · by_cases e : j = k
    · subst e
      exact (List.nodup_cons.1 (hp.nodup_iff.1 (h.nd j hj))).2
    · exact (ho j hj e).nodup_iff.2 (h.nd j hj)
  · by_cases e : j = k
    · subst e
      have hnd := List.nodup_cons.1 (hp.nodup_iff.1 (h.nd j hj))
      constructor
      · intro hz
        obtain ⟨x', rfl, h1, h2⟩ := (h.mem j hj z).1 (hp.mem_iff.2 (by simp [hz]))
        refine ⟨x', rfl, h1, ?_⟩
        unfold uAdd
        have : x' ≠ x := fun e => hnd.1 (by rw [← e]; exact hz)
        simp [this, h2]
      · rintro ⟨x', rfl, h1, h2⟩
        unfold uAdd at h2
        simp only [Bool.or_eq_false_iff, beq_eq_false_iff_ne, ne_eq] at h2
        have := hp.mem_iff.1 ((h.mem j hj (x' : Int)).2 ⟨x', rfl, h1, h2.2⟩)
        rcases List.mem_cons.1 this with h3 | h3
        · exact absurd (by omega) h2.1
        · exact h3
    · rw [(ho j hj e).mem_iff, h.mem j hj z]
      constructor
      · rintro ⟨x', rfl, h1, h2⟩
        refine ⟨x', rfl, h1, ?_⟩
        unfold uAdd
        have : x' ≠ x := fun e2 => e (SmCell.k hj hk h1 (e2 ▸ hc))
        simp [this, h2]
      · rintro ⟨x', rfl, h1, h2⟩
        unfold uAdd at h2
        simp only [Bool.or_eq_false_iff] at h2
        exact ⟨x', rfl, h1, h2.2⟩
theorem Inv.take {g : Nat} {hs : List Hd} {U : Nat → Bool} {L L' : Nat → List Int} (h : Inv g hs U L) {k : Nat} (hk : k < 32) {y : Int} (hp : (accL L k 4).Perm (y :: accL L' k 4)) (ho : ∀ j, j < 32 → j ≠ k → (accL L' j 4).Perm (accL L j 4)) :
    ∃ x : Nat, y = x ∧ SmCell g hs k x ∧ U x = false ∧ Inv g hs (uAdd U x) L' := by
  obtain ⟨x, h1, h2, h3, h4⟩ := h.free.take hk hp ho
  refine ⟨x, h1, h2, h3, ⟨h.len, h.two, h.big, h.right, h.zero, h.whole, h.cont, fun z hz => ?_, h4⟩⟩
  unfold uAdd at hz
  simp only [Bool.or_eq_true, beq_iff_eq] at hz
  rcases hz with rfl | hz
  · exact .inl ⟨k, hk, h2⟩
  · exact h.used z hz
/-- blocks that are free have nothing in use -/
theorem Inv.free_unused {g : Nat} {hs : List Hd} {U : Nat → Bool} {L : Nat → List Int} (h : Inv g hs U L) {b : Nat} (hb : (hd hs b).1 = 0 ∨ (hd hs b).1 = 3) {x : Nat} (hx : x / 512 = b) : U x = false := by
  cases hu : U x with
  | false => rfl
  | true =>
    exfalso
    rcases h.used x hu with ⟨k, hk, b', i, h1, h2, h3, h4, rfl⟩ | ⟨b', n, h1, hw, rfl⟩
    · rw [cellN_blk hk h4] at hx
      subst hx
      rw [h3] at hb
      simp at hb
    · have : b' = b := by omega
      subst this
      have := hw.2.2.1
      unfold hd at hb; omega
/-- a new block of small objects -/
theorem Inv.block {g : Nat} {hs : List Hd} {U : Nat → Bool} {L : Nat → List Int} (h : Inv g hs U L) {b k : Nat} (hk : k < 32) (hb : 1 ≤ b) (hb2 : b < g) (h0 : (hd hs b).1 = 0) :
    (∀ i, i < cn k → ¬ FHas L k ((cellN b k i : Nat) : Int)) ∧ (∀ i, i < cn k → U (cellN b k i) = false) ∧ Inv g (splice hs b [(1, (k : Int), 0)]) U (setN L k (L k ++ cvN U b k (cn k))) ∧ (accL (setN L k (L k ++ cvN U b k (cn k))) k 4).Perm (accL L k 4 ++ cvN U b k (cn k)) := by
  have hl := h.len
  have hfit : b + [((1, (k : Int), 0) : Hd)].length ≤ hs.length := by simp; omega
  have hhd : ∀ i, hd (splice hs b [(1, (k : Int), 0)]) i = if i = b then (1, (k : Int), 0) else hd hs i := by
    intro i
    unfold hd
    rw [splice_getD hfit]
    simp only [List.length_singleton]
    by_cases e : i = b
    · subst e; rw [if_pos (by omega), if_pos rfl]; simp
    · rw [if_neg (by omega), if_neg e]
  have hun : ∀ i, i < cn k → U (cellN b k i) = false := fun i hi => h.free_unused (.inl h0) (cellN_blk hk hi)
  have hno : ∀ i, i < cn k → ¬ FHas L k ((cellN b k i : Nat) : Int) := by
    intro i hi hf
    obtain ⟨x, hx, ⟨b', i', h1, h2, h3, h4, h5⟩, _⟩ := (h.free.mem k hk _).1 (mem_accL.2 hf)
    have h6 : cellN b k i = cellN b' k i' := by omega
    have := (cellN_inj hk hi h4 h6).1
    subst this
    rw [h3] at h0
    simp at h0
  have hw' : ∀ {b0 n0}, WholeP hs b0 n0 → WholeP (splice hs b [(1, (k : Int), 0)]) b0 n0 := by
    intro b0 n0 hw
    refine hw.keep (splice_length hfit) fun i h1 h2 => ?_
    rw [hhd, if_neg]
    intro e; subst e
    rcases hw.kind h1 h2 with ⟨_, h3⟩ | ⟨_, h3⟩ <;> omega
  have hacc : ∀ j, j < 32 → (accL (setN L k (L k ++ cvN U b k (cn k))) j 4).Perm (if j = k then accL L k 4 ++ cvN U b k (cn k) else accL L j 4) := by
    intro j hj
    by_cases e : j = k
    · subst e
      rw [if_pos rfl]
      have := (accL_turn (L := L) (L' := setN L j (L j ++ cvN U b j (cn j))) (m := 0) (by omega) hj (fun i h1 _ => setN_ne _ _ h1) (l := cvN U b j (cn j)) (l' := []) (by
        rw [setN_same, setN_ne _ _ (show ix 0 j ≠ j by unfold ix; omega), List.append_nil, List.append_assoc, List.append_assoc]
        exact List.Perm.append_left _ List.perm_append_comm)).1
      rw [List.append_nil] at this
      exact this.symm
    · rw [if_neg e]
      have := (accL_turn (L := L) (L' := setN L k (L k ++ cvN U b k (cn k))) (m := 0) (by omega) hk (fun i h1 _ => setN_ne _ _ h1) (l := cvN U b k (cn k)) (l' := []) (by
        rw [setN_same, setN_ne _ _ (show ix 0 k ≠ k by unfold ix; omega), List.append_nil, List.append_assoc, List.append_assoc]
        exact List.Perm.append_left _ List.perm_append_comm)).2 j hj e
      rw [this]
  have hsm : ∀ j, j < 32 → ∀ x, SmCell g (splice hs b [(1, (k : Int), 0)]) j x ↔ SmCell g hs j x ∨ (j = k ∧ ∃ i, i < cn k ∧ x = cellN b k i) := by
    intro j hj x
    constructor
    · rintro ⟨b', i, h1, h2, h3, h4, rfl⟩
      rw [hhd] at h3
      by_cases e : b' = b
      · subst e
        rw [if_pos rfl] at h3
        simp only [Prod.mk.injEq] at h3
        have : j = k := by omega
        subst this
        exact .inr ⟨rfl, i, h4, rfl⟩
      · rw [if_neg e] at h3
        exact .inl ⟨b', i, h1, h2, h3, h4, rfl⟩
    · rintro (⟨b', i, h1, h2, h3, h4, rfl⟩ | ⟨rfl, i, h4, rfl⟩)
      · refine ⟨b', i, h1, h2, ?_, h4, rfl⟩
        rw [hhd, if_neg]
        · exact h3
        · intro e; subst e; rw [h3] at h0; simp at h0
      · exact ⟨b, i, hb, hb2, by rw [hhd, if_pos rfl], h4, rfl⟩
  refine ⟨hno, hun, ⟨by rw [splice_length hfit]; exact hl, h.two, h.big, fun x hx => ?_, ?_, fun b0 hb0 => ?_, fun b0 hb0 => ?_, fun x hx => ?_, ⟨fun j hj => ?_, fun j hj y => ?_⟩⟩, ?_⟩
  · unfold splice at hx
    simp only [List.mem_append, List.mem_singleton] at hx
    rcases hx with (hx | rfl) | hx
    · exact h.right x (List.mem_of_mem_take hx)
    · exact .inr (.inl ⟨rfl, by simp only; omega, by simp only; omega, rfl⟩)
    · exact h.right x (List.mem_of_mem_drop hx)
  · rw [hhd, if_neg (by omega)]; exact h.zero
  · rw [hhd] at hb0
    by_cases e : b0 = b
    · rw [if_pos e] at hb0; simp at hb0
    · rw [if_neg e] at hb0
      obtain ⟨n, hw⟩ := h.whole b0 hb0
      exact ⟨n, hw' hw⟩
  · rw [hhd] at hb0
    by_cases e : b0 = b
    · rw [if_pos e] at hb0; simp at hb0
    · rw [if_neg e] at hb0
      obtain ⟨b1, n, hw, h1, h2⟩ := h.cont b0 hb0
      exact ⟨b1, n, hw' hw, h1, h2⟩
  · rcases h.used x hx with ⟨j, hj, hc⟩ | ⟨b0, n, h1, hw, h2⟩
    · exact .inl ⟨j, hj, (hsm j hj x).2 (.inl hc)⟩
    · exact .inr ⟨b0, n, h1, hw' hw, h2⟩
  · rw [(hacc j hj).nodup_iff]
    by_cases e : j = k
    · subst e
      rw [if_pos rfl, List.nodup_append]
      refine ⟨h.free.nd j hj, cvN_nodup hj (by omega), fun y hy z hz => ?_⟩
      obtain ⟨i, h1, h2, h3, _⟩ := (cvN_mem (by omega)).1 hz
      intro e
      rw [e, h3] at hy
      exact hno i h2 (mem_accL.1 hy)
    · rw [if_neg e]; exact h.free.nd j hj
  · rw [(hacc j hj).mem_iff]
    by_cases e : j = k
    · subst e
      rw [if_pos rfl, List.mem_append, h.free.mem j hj, cvN_mem (by omega)]
      constructor
      · rintro (⟨x, rfl, h1, h2⟩ | ⟨i, h1, h2, rfl, h3⟩)
        · exact ⟨x, rfl, (hsm j hj x).2 (.inl h1), h2⟩
        · exact ⟨_, rfl, (hsm j hj _).2 (.inr ⟨rfl, i, h2, rfl⟩), h3⟩
      · rintro ⟨x, rfl, h1, h2⟩
        rcases (hsm j hj x).1 h1 with h1 | ⟨_, i, h3, rfl⟩
        · exact .inl ⟨x, rfl, h1, h2⟩
        · exact .inr ⟨i, by omega, h3, rfl, h2⟩
    · rw [if_neg e, h.free.mem j hj]
      constructor
      · rintro ⟨x, rfl, h1, h2⟩
        exact ⟨x, rfl, (hsm j hj x).2 (.inl h1), h2⟩
      · rintro ⟨x, rfl, h1, h2⟩
        rcases (hsm j hj x).1 h1 with h1 | ⟨h3, _⟩
        · exact ⟨x, rfl, h1, h2⟩
        · exact absurd h3 e
  · have := hacc k hk
    rw [if_pos rfl] at this
    exact this
theorem drain_acc (L : Nat → List Int) {m : Nat} (hm : m < 4) {j : Nat} (hj : j < 32) : (accL (drF L m 32) j 4).Perm (accL L j 4) := by
  rw [List.perm_iff_count]
  intro y
  rw [accL_count, accL_count]
  have hg := fun x hx => drF_get L hm 32 (by omega) x hx
  have h0 : drF L m 32 j = L j ++ L (ix m j) := by rw [hg j (by omega), if_pos hj, if_pos hj]
  have hc : ∀ m', m' < 4 → drF L m 32 (ix m' j) = if m' = m then [] else L (ix m' j) := by
    intro m' hm'
    rw [hg (ix m' j) (by unfold ix; omega), if_neg (by unfold ix; omega)]
    by_cases e : m' = m
    · subst e; rw [if_pos (by unfold ix; omega), if_pos rfl]
    · rw [if_neg (by unfold ix; omega), if_neg e]
  rw [h0, hc 0 (by omega), hc 1 (by omega), hc 2 (by omega), hc 3 (by omega), List.count_append]
  have : m = 0 ∨ m = 1 ∨ m = 2 ∨ m = 3 := by omega
  rcases this with rfl | rfl | rfl | rfl <;> simp <;> omega
section
variable {B : World} {P R : SL} {t : K}
theorem steal_c {a d g m0 k : Nat} {s : St} (hL : ∀ i, i < 160 → (s.L i).length ≤ 2 ^ 29) (hm : m0 < 4) (hk : k < 32) (he : s.L k = []) {kk : Int × Int → K}
    (h0 : accL s.L k 4 = [] → T B (R * Al a d g s) (kk (0, 4)))
    (h1 : ∀ x L', (accL s.L k 4).Perm (x :: accL L' k 4) → (∀ j, j < 32 → j ≠ k → (accL L' j 4).Perm (accL s.L j 4)) → T B (R * Al a d g { s with L := L' }) (kk (x, 0))) :
    T B (R * Al a d g s) (c_alloc_Allocator_steal (da a) m0 k kk) := by
  refine T_of (alloc_Allocator_steal_ok _ m0 k kk) ?_
  (dsimp only [alloc_Allocator_steal, alloc_Allocator_steal_s0, alloc_Allocator_steal_s1, alloc_Allocator_steal_s2, alloc_Allocator_steal_s3, alloc_Allocator_steal_s4, alloc_Allocator_steal_s5, alloc_Allocator_steal_s6, alloc_Allocator_steal_l7, alloc_Allocator_steal_s8])
  refine T_lpX (fun _ _ => R * Al a d g s) (fun n (z : Int × Unit) => ∃ i : Nat, z.1 = i ∧ i ≤ 4 ∧ n = 4 - i ∧ ∀ m, m < i → s.L (ix m k) = []) 4 rfl ⟨0, rfl, by omega, rfl, fun m h => by omega⟩ ?_
  rintro n ⟨z, u⟩ c ⟨i, e1, e2, e3, e4⟩ hc
  simp only at e1
  subst e1 e3
  (repeat' (with_reducible refine T_brD (fun _ => ?_) (fun _ => ?_)))
  · have hi : i < 4 := by omega
    refine Al_open fun m u f => ?_
    unfold da
    (repeat (first | with_reducible refine T_nn ?_ | ((with_reducible apply T_ldP); (focus rfl); (focus (repeat (first | with_reducible exact Has.last | with_reducible exact Has.one | refine Has.init ?_))); (focus rfl))))
    refine T_bring (X := Fl f s.L) (.init .last) ?_
    refine free_Own_c hi hk ?_
    (repeat' (first | with_reducible refine T_nn ?_ | ((with_reducible apply T_ldP); (focus rfl); (focus (repeat (first | with_reducible exact Has.last | with_reducible exact Has.one | refine Has.init ?_))); (focus rfl)) | with_reducible refine T_brD (fun _ => ?_) (fun _ => ?_)))
    · rename_i hpos
      have hne : s.L (ix i k) ≠ [] := fun h => by rw [h] at hpos; simp at hpos
      refine free_Drain_c (fun j hj => by have := hL j hj; omega) hi ?_
      (repeat (first | with_reducible refine T_nn ?_ | ((with_reducible apply T_ldP); (focus rfl); (focus (repeat (first | with_reducible exact Has.last | with_reducible exact Has.one | refine Has.init ?_))); (focus rfl))))
      have hlen : ∀ j, j < 160 → (drF s.L i 32 j).length ≤ 2 ^ 30 := by
        intro j hj
        rw [drF_get s.L hi 32 (by omega) j hj]
        split
        · rw [List.length_append]
          have h1 := hL j hj
          have h2 := hL (ix i j) (by unfold ix; omega)
          omega
        · split
          · simp
          · have h1 := hL j hj; omega
      have hdk : drF s.L i 32 k = s.L (ix i k) := by rw [drF_get s.L hi 32 (by omega) k (by omega), if_pos hk, if_pos hk, he, List.nil_append]
      refine free_Take_c hlen hm hk (fun h _ => ?_) (fun x L' ht hp => ?_)
      · exfalso; rw [hdk] at h; exact hne h
      · skip
        obtain ⟨p1, p2⟩ := accL_turn (L := drF s.L i 32) (L' := L') hm hk ht (l := []) (l' := [x]) (by rw [List.append_nil]; exact hp.trans (List.perm_append_singleton x _).symm)
        rw [List.append_nil] at p1
        have := h1 x L' (((drain_acc s.L hi hk).symm.trans p1).trans (List.perm_append_singleton x _)) (fun j hj hjk => by rw [p2 j hj hjk]; exact drain_acc s.L hi hj)
        exact T.perm (by unfold da; ac_rfl) (Al_close (a := a) (m := m) (u := u) (f := f) (d := d) (g := g) (R := R) (s := { s with L := L' }) this)
    · rename_i hpos
      have hz : s.L (ix i k) = [] := List.eq_nil_of_length_eq_zero (by omega)
      refine T.perm ?_ (Al_close (a := a) (m := m) (u := u) (f := f) (d := d) (g := g) (R := R) (s := s) (hc (4 - (i + 1)) (IntKind.wrap .i64 ((i : Int) + 1), ()) (by omega) ⟨i + 1, w64 (by omega) (by omega), by omega, rfl, fun m' hm' => ?_⟩))
      · unfold da; ac_rfl
      · by_cases e : m' = i
        · subst e; exact hz
        · exact e4 m' (by omega)
  · refine h0 ?_
    show (((s.L k ++ s.L (ix 0 k)) ++ s.L (ix 1 k)) ++ s.L (ix 2 k)) ++ s.L (ix 3 k) = []
    rw [he, e4 0 (by omega), e4 1 (by omega), e4 2 (by omega), e4 3 (by omega)]; rfl
end
end Go.Proofs.YtdgcbapclnnkkaaGreat.X
end
section
/- Contracts: room for a small object. Conditions: at most 2^20 blocks; the device goes on. -/
set_option linter.unusedVariables false
set_option maxRecDepth 4000
set_option maxHeartbeats 1000000
namespace Go.Proofs.YtdgcbapclnnkkaaGreat.X
open Go
theorem cvN_full {U : Nat → Bool} {b k : Nat} (h : ∀ i, i < cn k → U (cellN b k i) = false) : ∀ t, t ≤ cn k → (cvN U b k t).length = t := by
  intro t
  induction t with
  | zero => intro _; rfl
  | succ t ih =>
    intro ht
    simp only [cvN, List.length_append, ih (by omega)]
    rw [if_neg (by rw [h _ (by omega)]; simp)]; rfl
/-- a small object's cell: where it came from -/
structure RoomS (g : Nat) (s s' : St) (k x : Nat) : Prop where
  inv : Inv g s'.hs (uAdd s.U x) s'.L
  cell : SmCell g s'.hs k x
  un : s.U x = false
  u : s'.U = s.U
  other : ∀ j, j < 32 → j ≠ k → (accL s'.L j 4).length = (accL s.L j 4).length
  from_ : (s'.hs = s.hs ∧ s'.F = s.F ∧ s'.c = s.c ∧ (accL s.L k 4).length = (accL s'.L k 4).length + 1) ∨
    (∃ (b : Nat) (q : Int), 1 ≤ b ∧ b < g ∧ s.F b = some q ∧ 1 ≤ q ∧ (hd s.hs b).1 = 0 ∧ s'.hs = splice s.hs b [(1, (k : Int), 0)] ∧ s'.F = takeF s.F b 1 q ∧ s'.c = wrH s.c b [(1, (k : Int), 0)] ∧ (accL s'.L k 4).length + 1 = (accL s.L k 4).length + cn k)
section
variable {B : World} {P R : SL} {t : K}
theorem room_small_c {a d g m0 k : Nat} {s : St} (inv : Inv g s.hs s.U s.L) (hm : m0 < 4) (hk : k < 32) {o : Ob} (ho : kOf (oSize o) = ((k : Int), true)) {kk : Int × Int → K}
    (h0 : accL s.L k 4 = [] → (∀ q r, s.F q = some r → r < 1) → T B (R * Al a d g s) (kk (0, 4)))
    (h1 : ∀ (x : Nat) s', RoomS g s s' k x → T B (R * Al a d g s') (kk ((x : Int), 0))) :
    T B (R * Al a d g s) (c_alloc_Allocator_room (da a) m0 o kk) := by
  refine T_of (alloc_Allocator_room_ok _ m0 o kk) ?_
  have hL := inv.free.lens inv.big
  have hL30 : ∀ i, i < 160 → (s.L i).length ≤ 2 ^ 30 := fun i hi => by have := hL i hi; omega
  (repeat (first | ((with_reducible apply T_ldI); (focus rfl); (focus (repeat (first | with_reducible exact Has.last | with_reducible exact Has.one | refine Has.init ?_))); (focus rfl)) | (with_reducible refine T_al ?_; intro _)))
  rename_i bo
  refine ohead_Small_c ?_
  rw [show ((o.1, o.2) : Ob) = o from rfl, ho]
  (dsimp only [alloc_Allocator_room, alloc_Allocator_room_s0, alloc_Allocator_room_s1, alloc_Allocator_room_s2, alloc_Allocator_room_s3, alloc_Allocator_room_s4, alloc_Allocator_room_s5, alloc_Allocator_room_s6, alloc_Allocator_room_s7, alloc_Allocator_room_s8, alloc_Allocator_room_s9, alloc_Allocator_room_s10, alloc_Allocator_room_s11, alloc_Allocator_room_s12, alloc_Allocator_room_s13, alloc_Allocator_room_s14, alloc_Allocator_room_s15, alloc_Allocator_room_s16, alloc_Allocator_room_s17, alloc_Allocator_room_s18, alloc_Allocator_room_s19, alloc_Allocator_room_s20, alloc_Allocator_room_s21, alloc_Allocator_room_s22])
  simp only [Bool.not_true]
  refine T_drop1 .last ?_
  refine Al_open fun m u f => ?_
  unfold da
  (repeat (first | with_reducible refine T_nn ?_ | with_reducible refine T_brF ?_ | ((with_reducible apply T_ldP); (focus rfl); (focus (repeat (first | with_reducible exact Has.last | with_reducible exact Has.one | refine Has.init ?_))); (focus rfl))))
  refine T_bring (X := Fl f s.L) (.init .last) ?_
  refine free_Take_c hL30 hm hk (fun e1 e2 => ?_) (fun x L' ht hp => ?_)
  · (repeat' (first | with_reducible refine T_nn ?_ | ((with_reducible apply T_ldP); (focus rfl); (focus (repeat (first | with_reducible exact Has.last | with_reducible exact Has.one | refine Has.init ?_))); (focus rfl)) | with_reducible refine T_brE (fun _ => ?_) (fun _ => ?_)))
    · rename_i h; exact absurd h (by decide)
    refine T_bring (X := LDx d (64 * g) s.c) (.init (.init (.init (.init .last)))) ?_
    refine T_bring (X := Mg m d g s.hs s.F) (.init (.init (.init (.init .last)))) ?_
    refine Mg_tie fun tie => ?_
    refine bman_Small_c (n := 64 * g) rfl (by omega) (fun hno => ?_) (fun b q hb hb1 hb2 hq => ?_)
    · (repeat' (first | with_reducible refine T_brE (fun _ => ?_) (fun _ => ?_) | with_reducible refine T_brNE (fun _ => ?_) (fun _ => ?_)))
      · rename_i h; exact absurd h (by decide)
      · rename_i h; exact absurd rfl h
      refine T.perm ?_ (Al_close (a := a) (m := m) (u := u) (f := f) (d := d) (g := g) (R := R) (s := s) (t := c_alloc_Allocator_steal (da a) m0 k fun x86 => kk (x86.1, x86.2)) ?_)
      · unfold da; ac_rfl
      refine steal_c hL hm hk e1 (fun he => ?_) (fun x L' hp ho => ?_)
      · exact h0 he hno
      · obtain ⟨n, rfl, q1, q2, q3⟩ := inv.take hk hp ho
        exact h1 n { s with L := L' } ⟨q3, q1, q2, rfl, fun j hj hjk => (ho j hj hjk).length_eq, .inl ⟨rfl, rfl, rfl, by rw [hp.length_eq]; rfl⟩⟩
    · (repeat' (first | with_reducible refine T_brE (fun _ => ?_) (fun _ => ?_) | with_reducible refine T_brNE (fun _ => ?_) (fun _ => ?_)))
      · have hfree : (hd s.hs b).1 = 0 := by
          have := (tie.fr b).1 ⟨(b : Int), q, hb, by omega, by omega⟩
          rw [Int.toNat_natCast] at this; exact this.2.2
        obtain ⟨g1, g2, g3, g4⟩ := inv.block hk hb1 hb2 hfree
        refine T.perm ?_ (Al_close (a := a) (m := m) (u := u) (f := f) (d := d) (g := g) (R := R) (s := { s with hs := splice s.hs b [(1, (k : Int), 0)], F := takeF s.F b 1 q, c := wrH s.c b [(1, (k : Int), 0)] }) (t := c_alloc_Allocator_carve (da a) b k fun x70 => alloc_Allocator_room_s3 (da a) m0 kk k) ?_)
        · unfold da; ac_rfl
        refine carve_c (s := { s with hs := splice s.hs b [(1, (k : Int), 0)], F := takeF s.F b 1 q, c := wrH s.c b [(1, (k : Int), 0)] }) inv.big hb1 hb2 hk hL g1 ?_
        refine Al_open fun m2 u2 f2 => ?_
        unfold da
        (repeat (first | with_reducible refine T_nn ?_ | ((with_reducible apply T_ldP); (focus rfl); (focus (repeat (first | with_reducible exact Has.last | with_reducible exact Has.one | refine Has.init ?_))); (focus rfl))))
        refine T_bring (X := Fl f2 (setN s.L k (s.L k ++ cvN s.U b k (cn k)))) (.init .last) ?_
        have hL' := g3.free.lens g3.big
        have hcv := cvN_full (U := s.U) (b := b) (k := k) g2 (cn k) (by omega)
        obtain ⟨_, _, _, _, _, hc2, _, _⟩ := cls_tab k hk
        refine free_Take_c (fun i hi => by have := hL' i hi; omega) hm hk (fun h _ => ?_) (fun x L' ht hp => ?_)
        · exfalso
          rw [setN_same] at h
          have := congrArg List.length h
          rw [List.length_append, hcv] at this
          simp at this; omega
        · skip
          obtain ⟨p1, p2⟩ := accL_turn (L := setN s.L k (s.L k ++ cvN s.U b k (cn k))) (L' := L') hm hk ht (l := []) (l' := [x]) (by rw [List.append_nil]; exact hp.trans (List.perm_append_singleton x _).symm)
          rw [List.append_nil] at p1
          have p1 := p1.trans (List.perm_append_singleton x _)
          obtain ⟨n, rfl, q1, q2, q3⟩ := g3.take hk p1 (fun j hj hjk => by rw [p2 j hj hjk])
          have h2 := h1 n { hs := splice s.hs b [(1, (k : Int), 0)], F := takeF s.F b 1 q, c := wrH s.c b [(1, (k : Int), 0)], U := s.U, L := L' } ⟨q3, q1, q2, rfl, fun j hj hjk => by
              simp only
              rw [p2 j hj hjk]
              have := (accL_turn (L := s.L) (L' := setN s.L k (s.L k ++ cvN s.U b k (cn k))) (m := 0) (by omega) hk (fun i h1 _ => setN_ne _ _ h1) (l := cvN s.U b k (cn k)) (l' := []) (by
                rw [setN_same, setN_ne _ _ (show ix 0 k ≠ k by unfold ix; omega), List.append_nil, List.append_assoc, List.append_assoc]
                exact List.Perm.append_left _ List.perm_append_comm)).2 j hj hjk
              rw [this], .inr ⟨b, q, hb1, hb2, hb, hq, hfree, rfl, rfl, rfl, by
              have e1 := p1.length_eq
              have e2 := g4.length_eq
              rw [List.length_append, hcv] at e2
              simp only [List.length_cons] at e1
              simp only; omega⟩⟩
          exact T.perm (by unfold da; ac_rfl) (Al_close (a := a) (m := m2) (u := u2) (f := f2) (d := d) (g := g) (R := R) h2)
      all_goals (rename_i h h2; first | exact absurd rfl h | exact absurd rfl h2)
  · obtain ⟨p1, p2⟩ := accL_turn (L := s.L) (L' := L') hm hk ht (l := []) (l' := [x]) (by rw [List.append_nil]; exact hp.trans (List.perm_append_singleton x _).symm)
    rw [List.append_nil] at p1
    have p1 := p1.trans (List.perm_append_singleton x _)
    obtain ⟨n, rfl, q1, q2, q3⟩ := inv.take hk p1 (fun j hj hjk => by rw [p2 j hj hjk])
    (repeat' (first | with_reducible refine T_nn ?_ | ((with_reducible apply T_ldP); (focus rfl); (focus (repeat (first | with_reducible exact Has.last | with_reducible exact Has.one | refine Has.init ?_))); (focus rfl)) | with_reducible refine T_brE (fun _ => ?_) (fun _ => ?_)))
    · have h2 := h1 n { s with L := L' } ⟨q3, q1, q2, rfl, fun j hj hjk => by simp only; rw [p2 j hj hjk], .inl ⟨rfl, rfl, rfl, by rw [p1.length_eq]; rfl⟩⟩
      exact T.perm (by unfold da; ac_rfl) (Al_close (a := a) (m := m) (u := u) (f := f) (d := d) (g := g) (R := R) h2)
    · rename_i h; exact absurd rfl h
end
end Go.Proofs.YtdgcbapclnnkkaaGreat.X
end
section
/- Contracts: objects made. Conditions: at most 2^20 blocks; the device goes on. -/
set_option linter.unusedVariables false
set_option maxRecDepth 4000
set_option maxHeartbeats 1000000
namespace Go.Proofs.YtdgcbapclnnkkaaGreat.X
open Go
theorem kOf_tab : ∀ w : Nat, w < 257 → 1 ≤ w → ∃ k : Nat, k < 32 ∧ kOf (w : Int) = ((k : Int), true) ∧ w ≤ cw k := by decide +kernel
theorem kOf_small {w : Int} (h1 : 1 ≤ w) (h2 : w ≤ 256) : ∃ k : Nat, k < 32 ∧ kOf w = ((k : Int), true) ∧ w ≤ cw k := by
  obtain ⟨n, rfl⟩ := Int.eq_ofNat_of_zero_le (show 0 ≤ w by omega)
  obtain ⟨k, a, b, c⟩ := kOf_tab n (by omega) (by omega)
  exact ⟨k, a, b, by omega⟩
theorem kOf_large {w : Int} (h : ¬ (1 ≤ w ∧ w ≤ 256)) : kOf w = (0, false) := if_neg h
/-- a large object's blocks, taken -/
theorem Inv.large {g : Nat} {hs : List Hd} {U : Nat → Bool} {L : Nat → List Int} (h : Inv g hs U L) {b n : Nat} (hb : 1 ≤ b) (hn : 1 ≤ n) (hn2 : n < 256) (hb2 : b + n ≤ g) (h0 : ∀ i, b ≤ i → i < b + n → (hd hs i).1 = 0) :
    WholeP (splice hs b (runH n)) b n ∧ Inv g (splice hs b (runH n)) (uAdd U (b * 512)) L ∧ U (b * 512) = false := by
  have hl := h.len
  have hrl := runH_len n
  have hfit : b + (runH n).length ≤ hs.length := by omega
  have hhd : ∀ i, hd (splice hs b (runH n)) i = if b ≤ i ∧ i < b + n then (if i = b then (2, 0, (n : Int)) else (3, 0, ((i - b : Nat) : Int))) else hd hs i := by
    intro i
    unfold hd
    rw [splice_getD hfit, hrl]
    by_cases e : b ≤ i ∧ i < b + n
    · rw [if_pos e, if_pos e, List.getD_eq_getElem?_getD, runH_get n (by omega)]
      by_cases e2 : i = b
      · rw [if_pos (by omega), if_pos e2]; rfl
      · rw [if_neg (by omega), if_neg e2]; rfl
    · rw [if_neg e, if_neg e]
  have hwn : WholeP (splice hs b (runH n)) b n := by
    refine ⟨hn, by rw [splice_length hfit]; omega, ?_, ?_, fun i h1 h2 => ?_⟩
    · have := hhd b; unfold hd at this; rw [this, if_pos (by omega), if_pos rfl]
    · have := hhd b; unfold hd at this; rw [this, if_pos (by omega), if_pos rfl]
    · have := hhd (b + i); unfold hd at this; rw [this, if_pos (by omega), if_neg (by omega)]
      congr 2; omega
  have hw' : ∀ {b0 n0}, WholeP hs b0 n0 → WholeP (splice hs b (runH n)) b0 n0 := by
    intro b0 n0 hw
    refine hw.keep (splice_length hfit) fun i h1 h2 => ?_
    rw [hhd, if_neg]
    intro e
    have := h0 i e.1 e.2
    rcases hw.kind h1 h2 with ⟨_, h3⟩ | ⟨_, h3⟩ <;> omega
  have hsm : ∀ j x, SmCell g (splice hs b (runH n)) j x ↔ SmCell g hs j x := by
    intro j x
    constructor
    · rintro ⟨b', i, h1, h2, h3, h4, rfl⟩
      rw [hhd] at h3
      by_cases e : b ≤ b' ∧ b' < b + n
      · rw [if_pos e] at h3
        split at h3 <;> simp at h3
      · rw [if_neg e] at h3
        exact ⟨b', i, h1, h2, h3, h4, rfl⟩
    · rintro ⟨b', i, h1, h2, h3, h4, rfl⟩
      refine ⟨b', i, h1, h2, ?_, h4, rfl⟩
      rw [hhd, if_neg]
      · exact h3
      · intro e
        have := h0 b' e.1 e.2
        rw [h3] at this; simp at this
  have hun : U (b * 512) = false := h.free_unused (.inl (h0 b (by omega) (by omega))) (by omega)
  refine ⟨hwn, ⟨by rw [splice_length hfit]; exact hl, h.two, h.big, fun x hx => ?_, ?_, fun b0 hb0 => ?_, fun b0 hb0 => ?_, fun x hx => ?_, ⟨h.free.nd, fun j hj y => ?_⟩⟩, hun⟩
  · unfold splice at hx
    simp only [List.mem_append] at hx
    rcases hx with (hx | hx) | hx
    · exact h.right x (List.mem_of_mem_take hx)
    · exact (runH_right hn2 x hx).1
    · exact h.right x (List.mem_of_mem_drop hx)
  · rw [hhd, if_neg (by omega)]; exact h.zero
  · rw [hhd] at hb0
    by_cases e : b ≤ b0 ∧ b0 < b + n
    · rw [if_pos e] at hb0
      by_cases e2 : b0 = b
      · subst e2; exact ⟨n, hwn⟩
      · rw [if_neg e2] at hb0; simp at hb0
    · rw [if_neg e] at hb0
      obtain ⟨n', hw⟩ := h.whole b0 hb0
      exact ⟨n', hw' hw⟩
  · rw [hhd] at hb0
    by_cases e : b ≤ b0 ∧ b0 < b + n
    · rw [if_pos e] at hb0
      by_cases e2 : b0 = b
      · rw [if_pos e2] at hb0; simp at hb0
      · exact ⟨b, n, hwn, by omega, by omega⟩
    · rw [if_neg e] at hb0
      obtain ⟨b1, n', hw, h1, h2⟩ := h.cont b0 hb0
      exact ⟨b1, n', hw' hw, h1, h2⟩
  · unfold uAdd at hx
    simp only [Bool.or_eq_true, beq_iff_eq] at hx
    rcases hx with rfl | hx
    · exact .inr ⟨b, n, hb, hwn, rfl⟩
    · rcases h.used x hx with ⟨j, hj, hc⟩ | ⟨b0, n0, h1, hw, h2⟩
      · exact .inl ⟨j, hj, (hsm j x).2 hc⟩
      · exact .inr ⟨b0, n0, h1, hw' hw, h2⟩
  · rw [h.free.mem j hj]
    constructor
    · rintro ⟨x, rfl, h1, h2⟩
      refine ⟨x, rfl, (hsm j x).2 h1, ?_⟩
      unfold uAdd
      have : x ≠ b * 512 := by
        intro e
        obtain ⟨b', i, g1, g2, g3, g4, g5⟩ := h1
        have e3 := cellN_blk (b := b') hj g4
        have : b' = b := by omega
        subst this
        have := h0 b' (by omega) (by omega)
        rw [g3] at this; simp at this
      simp [this, h2]
    · rintro ⟨x, rfl, h1, h2⟩
      unfold uAdd at h2
      simp only [Bool.or_eq_false_iff] at h2
      exact ⟨x, rfl, (hsm j x).1 h1, h2.2⟩
/-- a large object's blocks: where they came from -/
structure RoomL (g : Nat) (s s' : St) (n x : Nat) : Prop where
  inv : Inv g s'.hs (uAdd s.U x) s'.L
  un : s.U x = false
  u : s'.U = s.U
  l : s'.L = s.L
  from_ : ∃ (b : Nat) (q : Int), x = b * 512 ∧ 1 ≤ b ∧ b + n ≤ g ∧ WholeP s'.hs b n ∧ s.F b = some q ∧ (n : Int) ≤ q ∧ (∀ r q', s.F r = some q' → (n : Int) ≤ q' → q < q' ∨ q = q' ∧ (b : Int) ≤ r) ∧
    s'.hs = splice s.hs b (runH n) ∧ s'.F = takeF s.F b n q ∧ s'.c = wrH s.c b (runH n)
section
variable {B : World} {P R : SL} {t : K}
theorem room_large_c {a d g : Nat} {m0 : Int} {n : Nat} {s : St} (inv : Inv g s.hs s.U s.L) {o : Ob} (ho : kOf (oSize o) = (0, false)) (hn : oBlocks o = n) (hn1 : 1 ≤ n) (hn2 : n < 256) {kk : Int × Int → K}
    (h0 : (∀ q r, s.F q = some r → r < n) → T B (R * Al a d g s) (kk (0, 4)))
    (h1 : ∀ (x : Nat) s', RoomL g s s' n x → T B (R * Al a d g s') (kk ((x : Int), 0))) :
    T B (R * Al a d g s) (c_alloc_Allocator_room (da a) m0 o kk) := by
  refine T_of (alloc_Allocator_room_ok _ m0 o kk) ?_
  have hg := inv.big
  (repeat (first | ((with_reducible apply T_ldI); (focus rfl); (focus (repeat (first | with_reducible exact Has.last | with_reducible exact Has.one | refine Has.init ?_))); (focus rfl)) | (with_reducible refine T_al ?_; intro _)))
  rename_i bo
  refine ohead_Small_c ?_
  rw [show ((o.1, o.2) : Ob) = o from rfl, ho]
  (dsimp only [alloc_Allocator_room, alloc_Allocator_room_s0, alloc_Allocator_room_s1, alloc_Allocator_room_s2, alloc_Allocator_room_s3, alloc_Allocator_room_s4, alloc_Allocator_room_s5, alloc_Allocator_room_s6, alloc_Allocator_room_s7, alloc_Allocator_room_s8, alloc_Allocator_room_s9, alloc_Allocator_room_s10, alloc_Allocator_room_s11, alloc_Allocator_room_s12, alloc_Allocator_room_s13, alloc_Allocator_room_s14, alloc_Allocator_room_s15, alloc_Allocator_room_s16, alloc_Allocator_room_s17, alloc_Allocator_room_s18, alloc_Allocator_room_s19, alloc_Allocator_room_s20, alloc_Allocator_room_s21, alloc_Allocator_room_s22])
  simp only [Bool.not_false]
  refine T_bring (X := Al a d g s) (.init .last) ?_
  refine Al_open fun m u f => ?_
  unfold da
  (repeat (first | with_reducible refine T_nn ?_ | with_reducible refine T_tick ?_ | with_reducible refine T_brT ?_ | ((with_reducible apply T_ldI); (focus rfl); (focus (repeat (first | with_reducible exact Has.last | with_reducible exact Has.one | refine Has.init ?_))); (focus rfl)) | ((with_reducible apply T_ldP); (focus rfl); (focus (repeat (first | with_reducible exact Has.last | with_reducible exact Has.one | refine Has.init ?_))); (focus rfl))))
  refine ohead_Blocks_c ?_
  rw [show ((o.1, o.2) : Ob) = o from rfl, hn]
  (repeat (first | with_reducible refine T_chk0 ?_ | ((with_reducible apply T_chk); (focus rfl); (focus (repeat (first | with_reducible exact Has.last | with_reducible exact Has.one | refine Has.init ?_))); (focus rfl))))
  refine T_bring (X := LDx d (64 * g) s.c) (.init (.init (.init (.init .last)))) ?_
  refine T_bring (X := Mg m d g s.hs s.F) (.init (.init (.init (.init .last)))) ?_
  refine Mg_tie fun tie => ?_
  refine bman_Large_c (n := 64 * g) rfl ⟨hn1, hn2⟩ (fun hno => ?_) (fun b q hb hq hmin hb1 hb2 => ?_)
  · (repeat' (first | with_reducible refine T_nn ?_ | ((with_reducible apply T_ldI); (focus rfl); (focus (repeat (first | with_reducible exact Has.last | with_reducible exact Has.one | refine Has.init ?_))); (focus rfl)) | with_reducible refine T_brNE (fun _ => ?_) (fun _ => ?_)))
    · refine T_drop1 (.init (.init (.init (.init (.init .last))))) ?_
      exact T.perm (by unfold da; ac_rfl) (Al_close (a := a) (m := m) (u := u) (f := f) (d := d) (g := g) (R := R) (s := s) (h0 hno))
    · rename_i h; exact absurd h (by decide)
  · (repeat' (first | with_reducible refine T_nn ?_ | ((with_reducible apply T_ldI); (focus rfl); (focus (repeat (first | with_reducible exact Has.last | with_reducible exact Has.one | refine Has.init ?_))); (focus rfl)) | with_reducible refine T_brNE (fun _ => ?_) (fun _ => ?_)))
    · rename_i h; exact absurd rfl h
    refine geom_First_c (by omega) ?_
    have hf : first g (b : Int) = ((b * 512 : Nat) : Int) := by unfold first; rw [if_neg (by omega)]; omega
    rw [hf]
    have hfree : ∀ i, b ≤ i → i < b + n → (hd s.hs i).1 = 0 := by
      intro i h1 h2
      have := (tie.fr i).1 ⟨(b : Int), q, hb, by omega, by omega⟩
      rw [Int.toNat_natCast] at this; exact this.2.2
    obtain ⟨w1, w2, w3⟩ := inv.large hb1 hn1 hn2 hb2 hfree
    have h2 := h1 (b * 512) { s with hs := splice s.hs b (runH n), F := takeF s.F b n q, c := wrH s.c b (runH n) } ⟨w2, w3, rfl, rfl, b, q, rfl, hb1, hb2, w1, hb, hq, hmin, rfl, rfl, rfl⟩
    refine T_drop1 (.init (.init (.init (.init (.init .last))))) ?_
    exact T.perm (by unfold da; ac_rfl) (Al_close (a := a) (m := m) (u := u) (f := f) (d := d) (g := g) (R := R) h2)
end
end Go.Proofs.YtdgcbapclnnkkaaGreat.X
end
section
/- Contracts: Alloc. Conditions: at most 2^20 blocks; the device goes on. -/
set_option linter.unusedVariables false
set_option maxRecDepth 4000
set_option maxHeartbeats 1000000
namespace Go.Proofs.YtdgcbapclnnkkaaGreat.X
open Go
def RoomR (g : Nat) (s : St) (o : Ob) (s1 : St) (x : Nat) : Prop :=
  (∃ k : Nat, k < 32 ∧ kOf (oSize o) = ((k : Int), true) ∧ oSize o ≤ cw k ∧ RoomS g s s1 k x) ∨ (∃ n : Nat, kOf (oSize o) = (0, false) ∧ oBlocks o = n ∧ 1 ≤ n ∧ n < 256 ∧ RoomL g s s1 n x)
def made (s1 : St) (o : Ob) (x : Nat) : St := { s1 with c := (zerN s1.c x (oSize o).toNat).set x (oenc x o), U := uAdd s1.U x }
def NoRoom (s : St) (o : Ob) : Prop :=
  (∃ k : Nat, k < 32 ∧ kOf (oSize o) = ((k : Int), true) ∧ accL s.L k 4 = [] ∧ ∀ q r, s.F q = some r → r < 1) ∨ (∃ n : Nat, kOf (oSize o) = (0, false) ∧ oBlocks o = n ∧ 1 ≤ n ∧ n < 256 ∧ ∀ q r, s.F q = some r → r < n)
theorem RoomR.inv {g : Nat} {s s1 : St} {o : Ob} {x : Nat} (h : RoomR g s o s1 x) : Inv g s1.hs (uAdd s.U x) s1.L ∧ s.U x = false ∧ s1.U = s.U := by
  rcases h with ⟨k, _, _, _, h⟩ | ⟨n, _, _, _, _, h⟩
  · exact ⟨h.inv, h.un, h.u⟩
  · exact ⟨h.inv, h.un, h.u⟩
theorem RoomR.fits {g : Nat} {s s1 : St} {o : Ob} {x : Nat} (h : RoomR g s o s1 x) (h1 : oSize o ≠ 0) : (x : Int) + oSize o ≤ 512 * g ∧ 512 ≤ x := by
  have hr := oSize_rng o
  rcases h with ⟨k, hk, hko, hs, h⟩ | ⟨n, hk, hb, _, _, h⟩
  · obtain ⟨b, i, h1, h2, h3, h4, rfl⟩ := h.cell
    have := cellN_rng (b := b) hk h4
    omega
  · obtain ⟨b, q, rfl, h1, h2, h3, _⟩ := h.from_
    unfold oBlocks at hb
    have : ¬ (1 ≤ oSize o ∧ oSize o ≤ 256) := by
      intro hh
      unfold kOf at hk
      rw [if_pos hh] at hk
      simp at hk
    rw [if_neg this] at hb
    omega
section
variable {B : World} {P R : SL} {t : K}
theorem Alloc_c {a d g : Nat} {s : St} (inv : Inv g s.hs s.U s.L) {m p q : Int} {kk : Int × Int → K} (hg8 : (g - 1 : Nat) * 512 < 255 * 512)
    (hA : ¬ (0 ≤ m ∧ m < 4) → T B (R * Al a d g s) (kk (0, 1)))
    (hS : 0 ≤ m → m < 4 → (oSize (p, q) = 0 ∨ ((g : Int) - 1) * 512 < oSize (p, q)) → T B (R * Al a d g s) (kk (0, 5)))
    (h0 : 0 ≤ m → m < 4 → oSize (p, q) ≠ 0 → oSize (p, q) ≤ ((g : Int) - 1) * 512 → NoRoom s (p, q) → T B (R * Al a d g s) (kk (0, 4)))
    (h1 : 0 ≤ m → m < 4 → oSize (p, q) ≠ 0 → oSize (p, q) ≤ ((g : Int) - 1) * 512 → ∀ (x : Nat) s1, RoomR g s (p, q) s1 x → T B (R * Al a d g (made s1 (p, q) x)) (kk ((x : Int), 0))) :
    T B (R * Al a d g s) (c_alloc_Allocator_Alloc (da a) m p q kk) := by
  refine T_of (alloc_Allocator_Alloc_ok _ m p q kk) ?_
  have hg := inv.big
  have hg2 := inv.two
  have hr := oSize_rng (p, q)
  (repeat' (first | with_reducible refine T_tick ?_ | with_reducible refine T_brT ?_ | ((with_reducible apply T_ldI); (focus rfl); (focus (repeat (first | with_reducible exact Has.last | with_reducible exact Has.one | refine Has.init ?_))); (focus rfl)) | (with_reducible refine T_al ?_; intro _) | ((with_reducible apply T_st); (focus rfl); (focus (repeat (first | with_reducible exact Upd.last | with_reducible exact Upd.one | with_reducible apply Upd.init))); (focus simp); simp only [List.set, Nat.zero_add, Nat.reduceAdd]) | with_reducible refine T_brD (fun _ => ?_) (fun _ => ?_)))
  · refine T_drop1 .last ?_
    exact hA (by omega)
  · refine T_drop1 .last ?_
    exact hA (by omega)
  rename_i b hm1 hm2
  refine ohead_Size_c ?_
  (repeat' (first | with_reducible refine T_brT ?_ | ((with_reducible apply T_ldI); (focus rfl); (focus (repeat (first | with_reducible exact Has.last | with_reducible exact Has.one | refine Has.init ?_))); (focus rfl)) | with_reducible refine T_brE (fun _ => ?_) (fun _ => ?_)))
  · rename_i hz
    refine T_drop1 .last ?_
    exact hS (by omega) (by omega) (.inl hz)
  rename_i hz
  refine T_bring (X := Al a d g s) (.init .last) ?_
  -- the heap's geometry
  have rest : T B (R * pt b (.cells [.int .i64 p, .int .i64 q].toArray 68) * Al a d g s) (alloc_Allocator_Alloc_s12 (da a) m kk ⟨b, 0, none⟩ (decide (oSize (p, q) > max 0 ((g : Int) - 1) * 512))) := by
    (repeat' (first | ((with_reducible apply T_ldI); (focus rfl); (focus (repeat (first | with_reducible exact Has.last | with_reducible exact Has.one | refine Has.init ?_))); (focus rfl)) | with_reducible refine T_brD (fun _ => ?_) (fun _ => ?_)))
    · rename_i hgt
      refine T_drop1 (.init .last) ?_
      exact hS (by omega) (by omega) (.inr (by omega))
    rename_i hle
    have hle2 : oSize (p, q) ≤ ((g : Int) - 1) * 512 := by omega
    obtain ⟨m0, rfl⟩ := Int.eq_ofNat_of_zero_le (show 0 ≤ m by omega)
    have h0' := h0 (by omega) (by omega) hz hle2
    have h1' := h1 (by omega) (by omega) hz hle2
    -- behind the room
    have fin : ∀ (x : Nat) s1, RoomR g s (p, q) s1 x → T B (R * pt b (.cells [.int .i64 p, .int .i64 q].toArray 68) * Al a d g s1) (alloc_Allocator_Alloc_s8 (da a) kk ⟨b, 0, none⟩ (x : Int) 0) := by
      intro x s1 hrr
      have hkk := h1' x s1 hrr
      obtain ⟨f1, f2⟩ := hrr.fits hz
      obtain ⟨_, hun, hu⟩ := hrr.inv
      (repeat' (first | with_reducible refine T_tick ?_ | with_reducible refine T_brNE (fun _ => ?_) (fun _ => ?_)))
      · rename_i h; exact absurd rfl h
      refine T_bring (X := Al a d g s1) .last ?_
      refine Al_open fun mm u f => ?_
      unfold da
      (repeat (first | with_reducible refine T_nn ?_ | ((with_reducible apply T_ldI); (focus rfl); (focus (repeat (first | with_reducible exact Has.last | with_reducible exact Has.one | refine Has.init ?_))); (focus rfl)) | ((with_reducible apply T_ldP); (focus rfl); (focus (repeat (first | with_reducible exact Has.last | with_reducible exact Has.one | refine Has.init ?_))); (focus rfl))))
      refine T_bring (X := LDx d (64 * g) s1.c) (.init (.init (.init (.init .last)))) ?_
      refine LDx_open fun la => ?_
      refine object_Init_c (o := (p, q)) hz (by omega) ?_
      (repeat' (first | with_reducible refine T_nn ?_ | ((with_reducible apply T_ldP); (focus rfl); (focus (repeat (first | with_reducible exact Has.last | with_reducible exact Has.one | refine Has.init ?_))); (focus rfl)) | with_reducible refine T_brNE (fun _ => ?_) (fun _ => ?_)))
      · rename_i h; exact absurd rfl h
      refine LDx_close ?_
      refine T_bring (X := Bm u (512 * g) s1.U) (.init (.init (.init .last))) ?_
      refine bitmap_Add_c (fun h => ?_) (fun _ _ _ => ?_)
      · exact absurd ⟨by omega, by omega, by rw [Int.toNat_natCast, hu]; exact hun⟩ h
      rw [Int.toNat_natCast]
      refine T_drop1 (.init (.init (.init (.init (.init .last))))) ?_
      exact T.perm (by unfold da; ac_rfl) (Al_close (a := a) (m := mm) (u := u) (f := f) (d := d) (g := g) (R := R) (s := made s1 (p, q) x) hkk)
    skip
    by_cases hsm : oSize (p, q) ≤ 256
    · obtain ⟨k, k1, k2, k3⟩ := kOf_small (w := oSize (p, q)) (by omega) hsm
      refine room_small_c inv (by omega) k1 k2 (fun e1 e2 => ?_) (fun x s1 h => ?_)
      · (repeat' (first | with_reducible refine T_tick ?_ | with_reducible refine T_brNE (fun _ => ?_) (fun _ => ?_)))
        · refine T_drop1 (.init .last) ?_
          exact h0' (.inl ⟨k, k1, k2, e1, e2⟩)
        · rename_i h; exact absurd h (by decide)
      · exact fin x s1 (.inl ⟨k, k1, k2, k3, h⟩)
    · have k2 := kOf_large (w := oSize (p, q)) (by omega)
      obtain ⟨n, hn⟩ := Int.eq_ofNat_of_zero_le (show 0 ≤ oBlocks (p, q) by unfold oBlocks; split <;> omega)
      have hb : oBlocks (p, q) = (oSize (p, q) + 511) / 512 := by unfold oBlocks; rw [if_neg (by omega)]
      refine room_large_c (n := n) inv k2 hn (by omega) (by omega) (fun e1 => ?_) (fun x s1 h => ?_)
      · (repeat' (first | with_reducible refine T_tick ?_ | with_reducible refine T_brNE (fun _ => ?_) (fun _ => ?_)))
        · refine T_drop1 (.init .last) ?_
          exact h0' (.inr ⟨n, k2, hn, by omega, by omega, e1⟩)
        · rename_i h; exact absurd h (by decide)
      · exact fin x s1 (.inr ⟨n, k2, hn, by omega, by omega, h⟩)
  refine Al_open fun mm u f => ?_
  unfold da
  (repeat (first | with_reducible refine T_nn ?_ | ((with_reducible apply T_ldI); (focus rfl); (focus (repeat (first | with_reducible exact Has.last | with_reducible exact Has.one | refine Has.init ?_))); (focus rfl))))
  refine ohead_Size_c ?_
  (repeat (first | with_reducible refine T_chk0 ?_ | ((with_reducible apply T_chk); (focus rfl); (focus (repeat (first | with_reducible exact Has.last | with_reducible exact Has.one | refine Has.init ?_))); (focus rfl))))
  refine geom_Most_c (by omega) (by omega) ?_
  exact T.perm (by unfold da; ac_rfl) (Al_close (a := a) (m := mm) (u := u) (f := f) (d := d) (g := g) (s := s) rest)
end
end Go.Proofs.YtdgcbapclnnkkaaGreat.X
end
section
/- Contracts: where an object is placed. Conditions: at most 2^20 blocks; the device goes on. -/
set_option linter.unusedVariables false
set_option maxRecDepth 4000
set_option maxHeartbeats 1000000
namespace Go.Proofs.YtdgcbapclnnkkaaGreat.X
open Go
/-- an object stands at an address -/
def PlOk (c : List Int) (n : Nat) (hs : List Hd) (g at_ : Int) (o : Ob) : Prop := oHead c n at_ = (o, 0) ∧ 1 ≤ blockOf g at_ ∧ blockOf g at_ < hs.length ∧
  ((∃ k : Nat, k < 32 ∧ kOf (oSize o) = ((k : Int), true) ∧ (cellOf g k at_).2 = true ∧ hd hs (blockOf g at_).toNat = (1, (k : Int), 0)) ∨
   (kOf (oSize o) = (0, false) ∧ ∃ m : Nat, WholeP hs (blockOf g at_).toNat m ∧ at_ = first g (blockOf g at_) ∧ (m : Int) = oBlocks o))
section
variable {B : World} {P R : SL} {t : K}
theorem Placed_c {d n : Nat} {c : List Int} {g at_ : Int} {hs : List Hd} {x : Sl} (hg : 0 ≤ g) (hg2 : g ≤ 2 ^ 20) (hl : hs.length ≤ 2 ^ 20) (hx : Rd R x 3 (hds hs)) {kk : Ob × Bool → K}
    (h1 : ∀ o, PlOk c n hs g at_ o → T B (R * LDx d n c) (kk (o, true))) (h0 : (∀ o, ¬ PlOk c n hs g at_ o) → ∀ o, T B (R * LDx d n c) (kk (o, false))) :
    T B (R * LDx d n c) (c_alloc_Placed (da d) g x at_ kk) := by
  refine T_of (alloc_Placed_ok _ g x at_ kk) ?_
  refine T_rdlen hx.init fun hxn => ?_
  rw [hds_len] at hxn
  have hxl : x.n = hs.length := by omega
  (repeat (first | ((with_reducible apply T_ldI); (focus rfl); (focus (repeat (first | with_reducible exact Has.last | with_reducible exact Has.one | refine Has.init ?_))); (focus rfl)) | (with_reducible refine T_al ?_; intro _)))
  refine geom_BlockOf_c (by omega) (by omega) ?_
  (repeat' (first | with_reducible refine T_brT ?_ | ((with_reducible apply T_ldI); (focus rfl); (focus (repeat (first | with_reducible exact Has.last | with_reducible exact Has.one | refine Has.init ?_))); (focus rfl)) | ((with_reducible apply T_st); (focus rfl); (focus (repeat (first | with_reducible exact Upd.last | with_reducible exact Upd.one | with_reducible apply Upd.init))); (focus simp); simp only [List.set, Nat.zero_add, Nat.reduceAdd]) | with_reducible refine T_brD (fun _ => ?_) (fun _ => ?_)))
  · rename_i b3 b4 hlt
    refine T_drop1 .last (T_drop1 .last ?_)
    exact h0 (fun o ho => by have := ho.2.1; omega) _
  · rename_i b3 b4 hn1 hlt
    refine T_drop1 .last (T_drop1 .last ?_)
    exact h0 (fun o ho => by have := ho.2.2.1; omega) _
  rename_i b3 b4 hb1 hb2
  obtain ⟨b, hb⟩ := Int.eq_ofNat_of_zero_le (show 0 ≤ blockOf g at_ by omega)
  have hlt : b < hs.length := by omega
  have hhd : hd hs b = hs[b] := getD_eq hlt _
  refine T_bring (X := LDx d n c) (.init (.init .last)) ?_
  refine LDx_open fun la => ?_
  refine object_Head_c ?_
  refine LDx_close ?_
  generalize hoh : oHead c n at_ = oe
  obtain ⟨⟨o1, o2⟩, e⟩ := oe
  simp only
  (repeat' (first | ((with_reducible apply T_ldI); (focus rfl); (focus (repeat (first | with_reducible exact Has.last | with_reducible exact Has.one | refine Has.init ?_))); (focus rfl)) | (with_reducible refine T_al ?_; intro _) | ((with_reducible apply T_st); (focus rfl); (focus (repeat (first | with_reducible exact Upd.last | with_reducible exact Upd.one | with_reducible apply Upd.init))); (focus simp); simp only [List.set, Nat.zero_add, Nat.reduceAdd]) | with_reducible refine T_brNE (fun _ => ?_) (fun _ => ?_)))
  · rename_i b2 hne
    refine T_drop1 .last ?_
    refine T_drop1 (.init .last) (T_drop1 (.init .last) ?_)
    exact h0 (fun o ho => by rw [ho.1] at hoh; simp only [Prod.mk.injEq] at hoh; exact hne hoh.2.symm) _
  rename_i b2 he
  subst he
  rw [hb]
  refine T_ixH (l := hs) hx.init.init.init.init (by omega) (by rw [Int.toNat_natCast]; exact hlt) fun a ha => ?_
  simp only [Int.toNat_natCast] at ha
  refine T_ldAt ha rfl ?_
  refine T_ldAt ha rfl ?_
  refine T_ldAt ha rfl ?_
  (repeat (first | ((with_reducible apply T_ldI); (focus rfl); (focus (repeat (first | with_reducible exact Has.last | with_reducible exact Has.one | refine Has.init ?_))); (focus rfl)) | (with_reducible refine T_al ?_; intro _) | ((with_reducible apply T_st); (focus rfl); (focus (repeat (first | with_reducible exact Upd.last | with_reducible exact Upd.one | with_reducible apply Upd.init))); (focus simp); simp only [List.set, Nat.zero_add, Nat.reduceAdd])))
  refine ohead_Small_c ?_
  by_cases hs1 : 1 ≤ oSize (o1, o2) ∧ oSize (o1, o2) ≤ 256
  · obtain ⟨k, k1, k2, k3⟩ := kOf_small hs1.1 hs1.2
    rw [k2]
    (repeat (first | with_reducible refine T_brT ?_ | ((with_reducible apply T_ldI); (focus rfl); (focus (repeat (first | with_reducible exact Has.last | with_reducible exact Has.one | refine Has.init ?_))); (focus rfl))))
    refine cells_At_c (by omega) (by omega) ?_
    generalize hce : cellOf g k at_ = ce
    obtain ⟨⟨c1, c2⟩, cb⟩ := ce
    have hno : (cb = true → hs[b] = (1, (k : Int), 0) → False) → ∀ o, ¬ PlOk c n hs g at_ o := by
      intro hn o ho
      obtain ⟨g1, g2, g3, g4⟩ := ho
      rw [hoh] at g1
      simp only [Prod.mk.injEq, and_true] at g1
      subst g1
      rcases g4 with ⟨k', h1', h2', h3', h4'⟩ | ⟨h2', _⟩
      · rw [k2] at h2'
        simp only [Prod.mk.injEq, Int.natCast_inj, and_true] at h2'
        subst h2'
        rw [hce] at h3'
        rw [hb, Int.toNat_natCast, hhd] at h4'
        exact hn h3' h4'
      · rw [k2] at h2'; simp at h2'
    cases cb
    · (repeat (first | with_reducible refine T_tick ?_ | with_reducible refine T_brF ?_ | ((with_reducible apply T_ldI); (focus rfl); (focus (repeat (first | with_reducible exact Has.last | with_reducible exact Has.one | refine Has.init ?_))); (focus rfl)) | (with_reducible refine T_al ?_; intro _) | ((with_reducible apply T_st); (focus rfl); (focus (repeat (first | with_reducible exact Upd.last | with_reducible exact Upd.one | with_reducible apply Upd.init))); (focus simp); simp only [List.set, Nat.zero_add, Nat.reduceAdd])))
      refine T_bring (X := LDx d n c) (by (repeat (first | with_reducible exact Frm.last | with_reducible exact Frm.one | with_reducible apply Frm.init))) ?_
      repeat refine T_drop1 (.init .last) ?_
      exact h0 (hno fun h => by cases h) _
    · (repeat (first | with_reducible refine T_tick ?_ | with_reducible refine T_brT ?_ | with_reducible refine T_chk0 ?_ | ((with_reducible apply T_ldI); (focus rfl); (focus (repeat (first | with_reducible exact Has.last | with_reducible exact Has.one | refine Has.init ?_))); (focus rfl)) | (with_reducible refine T_al ?_; intro _) | ((with_reducible apply T_st); (focus rfl); (focus (repeat (first | with_reducible exact Upd.last | with_reducible exact Upd.one | with_reducible apply Upd.init))); (focus simp); simp only [List.set, Nat.zero_add, Nat.reduceAdd]) | ((with_reducible apply T_chk); (focus rfl); (focus (repeat (first | with_reducible exact Has.last | with_reducible exact Has.one | refine Has.init ?_))); (focus rfl))))
      refine T_bring (X := LDx d n c) (by (repeat (first | with_reducible exact Frm.last | with_reducible exact Frm.one | with_reducible apply Frm.init))) ?_
      repeat refine T_drop1 (.init .last) ?_
      by_cases hq : hs[b] = (1, (k : Int), 0)
      · rw [hq]
        simp only [BEq.rfl, Bool.and_true]
        exact h1 (o1, o2) ⟨hoh, by omega, by omega, .inl ⟨k, k1, k2, by rw [hce], by rw [hb, Int.toNat_natCast, hhd, hq]⟩⟩
      · have : (hs[b].1 == 1 && (hs[b].2.1 == (k : Int) && (hs[b].2.2 == 0 && true))) = false := by
          cases hc2 : (hs[b].1 == 1 && (hs[b].2.1 == (k : Int) && (hs[b].2.2 == 0 && true))) with
          | false => rfl
          | true =>
            simp only [Bool.and_eq_true, beq_iff_eq, Bool.and_true] at hc2
            exact absurd (Prod.ext hc2.1 (Prod.ext hc2.2.1 hc2.2.2)) hq
        rw [this]
        exact h0 (hno fun _ h => hq h) _
  · have k2 := kOf_large hs1
    rw [k2]
    (repeat (with_reducible refine T_brF ?_))
    have hno : (∀ m : Nat, WholeP hs b m → at_ = first g (b : Int) → (m : Int) = oBlocks (o1, o2) → False) → ∀ o, ¬ PlOk c n hs g at_ o := by
      intro hn o ho
      obtain ⟨g1, g2, g3, g4⟩ := ho
      rw [hoh] at g1
      simp only [Prod.mk.injEq, and_true] at g1
      subst g1
      rcases g4 with ⟨k', h1', h2', h3', h4'⟩ | ⟨h2', m, h3', h4', h5'⟩
      · rw [k2] at h2'; simp at h2'
      · rw [hb] at h3' h4'
        exact hn m h3' h4' h5'
    refine bhead_Whole_c (hs := hs) (by omega) (by omega) hx.init.init.init.init.init (fun bb m e1 hw => ?_) (fun hw => ?_)
    · have e2 : bb = b := by omega
      subst e2
      (repeat (first | with_reducible refine T_tick ?_ | with_reducible refine T_brT ?_ | ((with_reducible apply T_ldI); (focus rfl); (focus (repeat (first | with_reducible exact Has.last | with_reducible exact Has.one | refine Has.init ?_))); (focus rfl))))
      refine geom_First_c (by omega) ?_
      (repeat' (first | with_reducible refine T_chk0 ?_ | ((with_reducible apply T_ldI); (focus rfl); (focus (repeat (first | with_reducible exact Has.last | with_reducible exact Has.one | refine Has.init ?_))); (focus rfl)) | ((with_reducible apply T_st); (focus rfl); (focus (repeat (first | with_reducible exact Upd.last | with_reducible exact Upd.one | with_reducible apply Upd.init))); (focus simp); simp only [List.set, Nat.zero_add, Nat.reduceAdd]) | ((with_reducible apply T_chk); (focus rfl); (focus (repeat (first | with_reducible exact Has.last | with_reducible exact Has.one | refine Has.init ?_))); (focus rfl)) | with_reducible refine T_brE (fun _ => ?_) (fun _ => ?_)))
      · rename_i hf
        refine ohead_Blocks_c ?_
        (repeat (first | with_reducible refine T_chk0 ?_ | ((with_reducible apply T_ldI); (focus rfl); (focus (repeat (first | with_reducible exact Has.last | with_reducible exact Has.one | refine Has.init ?_))); (focus rfl)) | ((with_reducible apply T_st); (focus rfl); (focus (repeat (first | with_reducible exact Upd.last | with_reducible exact Upd.one | with_reducible apply Upd.init))); (focus simp); simp only [List.set, Nat.zero_add, Nat.reduceAdd]) | ((with_reducible apply T_chk); (focus rfl); (focus (repeat (first | with_reducible exact Has.last | with_reducible exact Has.one | refine Has.init ?_))); (focus rfl))))
        refine T_bring (X := LDx d n c) (by (repeat (first | with_reducible exact Frm.last | with_reducible exact Frm.one | with_reducible apply Frm.init))) ?_
        repeat refine T_drop1 (.init .last) ?_
        by_cases hq : (m : Int) = oBlocks (o1, o2)
        · rw [← hq]
          simp only [BEq.rfl]
          exact h1 (o1, o2) ⟨hoh, by omega, by omega, .inr ⟨k2, m, by rw [hb]; exact hw, by rw [hb]; exact hf, hq⟩⟩
        · have : ((m : Int) == oBlocks (o1, o2)) = false := by simpa using hq
          rw [this]
          exact h0 (hno fun m' h1' h2' h3' => hq (by have := hw.uniq h1'; subst this; exact h3')) _
      · rename_i hf
        refine T_bring (X := LDx d n c) (by (repeat (first | with_reducible exact Frm.last | with_reducible exact Frm.one | with_reducible apply Frm.init))) ?_
        repeat refine T_drop1 (.init .last) ?_
        exact h0 (hno fun m' h1' h2' h3' => hf h2') _
    · (repeat (first | with_reducible refine T_tick ?_ | with_reducible refine T_brF ?_ | ((with_reducible apply T_ldI); (focus rfl); (focus (repeat (first | with_reducible exact Has.last | with_reducible exact Has.one | refine Has.init ?_))); (focus rfl)) | ((with_reducible apply T_st); (focus rfl); (focus (repeat (first | with_reducible exact Upd.last | with_reducible exact Upd.one | with_reducible apply Upd.init))); (focus simp); simp only [List.set, Nat.zero_add, Nat.reduceAdd])))
      refine T_bring (X := LDx d n c) (by (repeat (first | with_reducible exact Frm.last | with_reducible exact Frm.one | with_reducible apply Frm.init))) ?_
      repeat refine T_drop1 (.init .last) ?_
      exact h0 (hno fun m' h1' h2' h3' => hw b m' rfl h1') _
theorem Place_c {a d g : Nat} {s : St} {at_ : Int} (inv : Inv g s.hs s.U s.L) {kk : Ob × Bool → K}
    (h1 : ∀ o, PlOk s.c (64 * g) s.hs g at_ o → T B (R * Al a d g s) (kk (o, true))) (h0 : (∀ o, ¬ PlOk s.c (64 * g) s.hs g at_ o) → ∀ o, T B (R * Al a d g s) (kk (o, false))) :
    T B (R * Al a d g s) (c_alloc_Allocator_Place (da a) at_ kk) := by
  refine T_of (alloc_Allocator_Place_ok _ at_ kk) ?_
  have hg := inv.big
  have hl := inv.len
  refine Al_open fun m u f => ?_
  unfold da
  (repeat (first | with_reducible refine T_nn ?_ | with_reducible refine T_tick ?_ | ((with_reducible apply T_ldI); (focus rfl); (focus (repeat (first | with_reducible exact Has.last | with_reducible exact Has.one | refine Has.init ?_))); (focus rfl)) | ((with_reducible apply T_ldP); (focus rfl); (focus (repeat (first | with_reducible exact Has.last | with_reducible exact Has.one | refine Has.init ?_))); (focus rfl)) | (with_reducible refine T_al ?_; intro _)))
  rename_i b0
  refine T_bring (X := Mg m d g s.hs s.F) (by (repeat (first | with_reducible exact Frm.last | with_reducible exact Frm.one | with_reducible apply Frm.init))) ?_
  refine Mg_open fun tt x tie => ?_
  unfold da
  (repeat (((with_reducible apply T_ldP); (focus rfl); (focus (repeat (first | with_reducible exact Has.last | with_reducible exact Has.one | refine Has.init ?_))); (focus rfl))))
  refine T_bring (X := Tab tt d g s.hs) (by (repeat (first | with_reducible exact Frm.last | with_reducible exact Frm.one | with_reducible apply Frm.init))) ?_
  refine blocks_All_c (by omega) fun sl => ?_
  (repeat (first | with_reducible refine T_chk0 ?_ | ((with_reducible apply T_chk); (focus rfl); (focus (repeat (first | with_reducible exact Has.last | with_reducible exact Has.one | refine Has.init ?_))); (focus rfl))))
  refine T_bring (X := LDx d (64 * g) s.c) (by (repeat (first | with_reducible exact Frm.last | with_reducible exact Frm.one | with_reducible apply Frm.init))) ?_
  have cl : ∀ (o : Ob) (b : Bool), T B (R * Al a d g s) (kk (o, b)) → T B (R * Bm u (512 * g) s.U * Fl f s.L * pt a (.cells [.pointer (some ⟨m, 0, none⟩), .pointer (some ⟨d, 0, none⟩), .int .i64 g, .pointer (some ⟨u, 0, none⟩), .pointer (some ⟨f, 0, none⟩)].toArray 47) * pt b0 (.cells [.int .i64 o.1, .int .i64 o.2].toArray 68) * Idx x g s.F * pt m (.cells [.pointer (some ⟨tt, 0, none⟩), .pointer (some ⟨x, 0, none⟩), .int .i64 g].toArray 51) * Tab tt d g s.hs * vec 143 3 sl (hds s.hs) * LDx d (64 * g) s.c) (kk (o, b)) := by
    intro o b h
    have h2 := Al_close (m := m) (u := u) (f := f) h
    have h3 : T B (R * LDx d (64 * g) s.c * Bm u (512 * g) s.U * Fl f s.L * pt a (.cells [.pointer (da m), .pointer (da d), .int .i64 g, .pointer (da u), .pointer (da f)].toArray 47) * Mg m d g s.hs s.F) (kk (o, b)) := T.perm (by ac_rfl) h2
    have h4 := Mg_close (a := tt) (x := x) tie h3
    refine T_drop1 (.init .last) ?_
    refine T_drop1 (by (repeat (first | with_reducible exact Frm.last | with_reducible exact Frm.one | with_reducible apply Frm.init)) : Frm _ (pt b0 (.cells [.int .i64 o.1, .int .i64 o.2].toArray 68)) _) ?_
    exact T.perm (by unfold da; ac_rfl) h4
  refine Placed_c (by omega) (by omega) (by omega) (Rd.vec (E := 143) (s := sl) .last) (fun o ho => ?_) (fun hno o => ?_)
  · (repeat (first | ((with_reducible apply T_ldI); (focus rfl); (focus (repeat (first | with_reducible exact Has.last | with_reducible exact Has.one | refine Has.init ?_))); (focus rfl)) | ((with_reducible apply T_st); (focus rfl); (focus (repeat (first | with_reducible exact Upd.last | with_reducible exact Upd.one | with_reducible apply Upd.init))); (focus simp); simp only [List.set, Nat.zero_add, Nat.reduceAdd])))
    exact T.perm (by ac_rfl) (cl o true (h1 o ho))
  · (repeat (first | ((with_reducible apply T_ldI); (focus rfl); (focus (repeat (first | with_reducible exact Has.last | with_reducible exact Has.one | refine Has.init ?_))); (focus rfl)) | ((with_reducible apply T_st); (focus rfl); (focus (repeat (first | with_reducible exact Upd.last | with_reducible exact Upd.one | with_reducible apply Upd.init))); (focus simp); simp only [List.set, Nat.zero_add, Nat.reduceAdd])))
    exact T.perm (by ac_rfl) (cl o false (h0 hno o))
end
end Go.Proofs.YtdgcbapclnnkkaaGreat.X
end
section
/- Contracts: objects given back. Conditions: at most 2^20 blocks; the device goes on. -/
set_option linter.unusedVariables false
set_option maxRecDepth 4000
set_option maxHeartbeats 1000000
namespace Go.Proofs.YtdgcbapclnnkkaaGreat.X
open Go
theorem Inv.freeS {g : Nat} {hs : List Hd} {U : Nat → Bool} {L L' : Nat → List Int} (h : Inv g hs U L) {k x : Nat} (hk : k < 32) (hc : SmCell g hs k x) (hu : U x = true) (hp : (accL L' k 4).Perm ((x : Int) :: accL L k 4)) (ho : ∀ j, j < 32 → j ≠ k → (accL L' j 4).Perm (accL L j 4)) :
    Inv g hs (uDrop U x) L' := by
  refine ⟨h.len, h.two, h.big, h.right, h.zero, h.whole, h.cont, fun z hz => ?_, ⟨fun j hj => ?_, fun j hj y => ?_⟩⟩
  · unfold uDrop at hz
    simp only [Bool.and_eq_true] at hz
    exact h.used z hz.2
  · by_cases e : j = k
    · subst e
      rw [hp.nodup_iff, List.nodup_cons]
      refine ⟨fun hm => ?_, h.free.nd j hj⟩
      obtain ⟨x', e1, _, h2⟩ := (h.free.mem j hj _).1 hm
      have : x = x' := by omega
      subst this
      rw [hu] at h2; cases h2
    · exact (ho j hj e).nodup_iff.2 (h.free.nd j hj)
  · by_cases e : j = k
    · subst e
      rw [hp.mem_iff, List.mem_cons, h.free.mem j hj]
      constructor
      · rintro (rfl | ⟨x', rfl, h1, h2⟩)
        · exact ⟨x, rfl, hc, by unfold uDrop; simp⟩
        · exact ⟨x', rfl, h1, by unfold uDrop; simp [h2]⟩
      · rintro ⟨x', rfl, h1, h2⟩
        by_cases e : x' = x
        · subst e; exact .inl rfl
        · right
          refine ⟨x', rfl, h1, ?_⟩
          unfold uDrop at h2
          simpa [e] using h2
    · rw [(ho j hj e).mem_iff, h.free.mem j hj]
      constructor
      · rintro ⟨x', rfl, h1, h2⟩
        exact ⟨x', rfl, h1, by unfold uDrop; simp [h2]⟩
      · rintro ⟨x', rfl, h1, h2⟩
        refine ⟨x', rfl, h1, ?_⟩
        have hne : x' ≠ x := fun e2 => e (SmCell.k hj hk h1 (e2 ▸ hc))
        unfold uDrop at h2
        simpa [hne] using h2
theorem Inv.freeL {g : Nat} {hs : List Hd} {U : Nat → Bool} {L : Nat → List Int} (h : Inv g hs U L) {b n : Nat} (hb : 1 ≤ b) (hw : WholeP hs b n) : Inv g (splice hs b (List.replicate n (0, 0, 0))) (uDrop U (b * 512)) L := by
  have hl := h.len
  have hfit : b + (List.replicate n ((0, 0, 0) : Hd)).length ≤ hs.length := by simp; exact hw.2.1
  have hhd : ∀ i, hd (splice hs b (List.replicate n (0, 0, 0))) i = if b ≤ i ∧ i < b + n then (0, 0, 0) else hd hs i := by
    intro i
    unfold hd
    rw [splice_getD hfit, List.length_replicate]
    by_cases e : b ≤ i ∧ i < b + n
    · rw [if_pos e, if_pos e, List.getD_eq_getElem?_getD, List.getElem?_replicate]; split <;> rfl
    · rw [if_neg e, if_neg e]
  have hw' : ∀ {b0 n0}, WholeP hs b0 n0 → b0 ≠ b → WholeP (splice hs b (List.replicate n (0, 0, 0))) b0 n0 := by
    intro b0 n0 hw0 hne
    refine hw0.keep (splice_length hfit) fun i h1 h2 => ?_
    rw [hhd, if_neg]
    intro e
    rcases hw0.kind h1 h2 with ⟨h3, h4⟩ | ⟨h3, h4⟩ <;> rcases hw.kind e.1 e.2 with ⟨h5, h6⟩ | ⟨h5, h6⟩
    · omega
    · omega
    · omega
    · have e1 := hw0.2.2.2.2 (i - b0) (by omega) (by omega)
      have e2 := hw.2.2.2.2 (i - b) (by omega) (by omega)
      rw [show b0 + (i - b0) = i by omega] at e1
      rw [show b + (i - b) = i by omega] at e2
      rw [e1] at e2
      simp only [Prod.mk.injEq] at e2
      omega
  have hsm : ∀ j x, SmCell g (splice hs b (List.replicate n (0, 0, 0))) j x ↔ SmCell g hs j x := by
    intro j x
    constructor
    · rintro ⟨b', i, h1, h2, h3, h4, rfl⟩
      rw [hhd] at h3
      by_cases e : b ≤ b' ∧ b' < b + n
      · rw [if_pos e] at h3; simp at h3
      · rw [if_neg e] at h3; exact ⟨b', i, h1, h2, h3, h4, rfl⟩
    · rintro ⟨b', i, h1, h2, h3, h4, rfl⟩
      refine ⟨b', i, h1, h2, ?_, h4, rfl⟩
      rw [hhd, if_neg]
      · exact h3
      · intro e
        rcases hw.kind e.1 e.2 with ⟨_, h6⟩ | ⟨_, h6⟩ <;> (rw [h3] at h6; simp at h6)
  refine ⟨by rw [splice_length hfit]; exact hl, h.two, h.big, fun x hx => ?_, ?_, fun b0 hb0 => ?_, fun b0 hb0 => ?_, fun x hx => ?_, ⟨h.free.nd, fun j hj y => ?_⟩⟩
  · unfold splice at hx
    simp only [List.mem_append] at hx
    rcases hx with (hx | hx) | hx
    · exact h.right x (List.mem_of_mem_take hx)
    · rw [List.eq_of_mem_replicate hx]; exact .inl rfl
    · exact h.right x (List.mem_of_mem_drop hx)
  · rw [hhd, if_neg (by omega)]; exact h.zero
  · rw [hhd] at hb0
    by_cases e : b ≤ b0 ∧ b0 < b + n
    · rw [if_pos e] at hb0; simp at hb0
    · rw [if_neg e] at hb0
      obtain ⟨n', hw0⟩ := h.whole b0 hb0
      exact ⟨n', hw' hw0 (fun e2 => e (by have := hw.1; omega))⟩
  · rw [hhd] at hb0
    by_cases e : b ≤ b0 ∧ b0 < b + n
    · rw [if_pos e] at hb0; simp at hb0
    · rw [if_neg e] at hb0
      obtain ⟨b1, n', hw0, h1, h2⟩ := h.cont b0 hb0
      refine ⟨b1, n', hw' hw0 (fun e2 => ?_), h1, h2⟩
      subst e2
      have := hw.uniq hw0
      omega
  · unfold uDrop at hx
    simp only [Bool.and_eq_true, bne_iff_ne, ne_eq] at hx
    rcases h.used x hx.2 with ⟨j, hj, hc⟩ | ⟨b0, n0, h1, hw0, h2⟩
    · exact .inl ⟨j, hj, (hsm j x).2 hc⟩
    · exact .inr ⟨b0, n0, h1, hw' hw0 (fun e => hx.1 (by omega)), h2⟩
  · rw [h.free.mem j hj]
    constructor
    · rintro ⟨x, rfl, h1, h2⟩
      exact ⟨x, rfl, (hsm j x).2 h1, by unfold uDrop; simp [h2]⟩
    · rintro ⟨x, rfl, h1, h2⟩
      have h1 := (hsm j x).1 h1
      refine ⟨x, rfl, h1, ?_⟩
      have hne : x ≠ b * 512 := by
        intro e
        obtain ⟨b', i, g1, g2, g3, g4, g5⟩ := h1
        have e3 := cellN_blk (b := b') hj g4
        have : b' = b := by omega
        subst this
        have := hw.2.2.1
        unfold hd at g3
        rw [g3] at this; simp at this
      unfold uDrop at h2
      simpa [hne] using h2
/-- what a giving back turns -/
structure FreeR (g : Nat) (s s' : St) (x : Nat) : Prop where
  inv : Inv g s'.hs s'.U s'.L
  was : s.U x = true
  u : s'.U = uDrop s.U x
  from_ : (∃ k : Nat, k < 32 ∧ SmCell g s.hs k x ∧ s'.hs = s.hs ∧ s'.F = s.F ∧ s'.c = s.c ∧ (accL s'.L k 4).Perm ((x : Int) :: accL s.L k 4) ∧ ∀ j, j < 32 → j ≠ k → (accL s'.L j 4).Perm (accL s.L j 4)) ∨
    (∃ b n : Nat, x = b * 512 ∧ 1 ≤ b ∧ WholeP s.hs b n ∧ s'.hs = splice s.hs b (List.replicate n (0, 0, 0)) ∧ s'.c = wrH s.c b (List.replicate n (0, 0, 0)) ∧ s'.L = s.L)
theorem blockOf_nat {g a : Int} (h : 1 ≤ blockOf g a) : ∃ x : Nat, a = x ∧ blockOf g a = ((x / 512 : Nat) : Int) ∧ a < g * 512 ∧ 512 ≤ x := by
  unfold blockOf at h ⊢
  split at h
  · omega
  · rename_i hh
    obtain ⟨x, rfl⟩ := Int.eq_ofNat_of_zero_le (show 0 ≤ a by omega)
    refine ⟨x, rfl, by rw [if_neg hh]; omega, by omega, by omega⟩
theorem cellOf_sm {g : Nat} {hs : List Hd} {k : Nat} {a : Int} (hk : k < 32) (hb : 1 ≤ blockOf g a) (hc : (cellOf g k a).2 = true) (hh : hd hs (blockOf g a).toNat = (1, (k : Int), 0)) : ∃ x : Nat, a = x ∧ SmCell g hs k x := by
  obtain ⟨x, rfl, h1, h2, h3⟩ := blockOf_nat hb
  obtain ⟨t1, t2, t3, t4, t5, t6, t7, t8⟩ := cls_tab k hk
  refine ⟨x, rfl, ?_⟩
  unfold cellOf at hc
  rw [if_neg (by omega)] at hc
  simp only [decide_eq_true_eq] at hc
  rw [h1] at hc hh
  rw [Int.toNat_natCast] at hh
  unfold cellAt at hc
  split at hc
  · omega
  · rename_i hn
    simp only [t1, t2] at hc hn
    have e : (x : Int) % 512 / (cw k : Int) = ((x % 512 / cw k : Nat) : Int) := by simp
    rw [e] at hc hn
    refine ⟨x / 512, x % 512 / cw k, by omega, by omega, hh, by omega, ?_⟩
    unfold cellN
    have : ((x / 512 : Nat) : Int) * 512 + ((x % 512 / cw k : Nat) : Int) * (cw k : Int) = ((x / 512 * 512 + x % 512 / cw k * cw k : Nat) : Int) := by simp
    rw [this] at hc
    omega
section
variable {B : World} {P R : SL} {t : K}
theorem Free_c {a d g : Nat} {s : St} (inv : Inv g s.hs s.U s.L) {m x : Int} {kk : Int → K}
    (hM : ((∀ o, ¬ PlOk s.c (64 * g) s.hs g x o) ∨ has s.U x = false) → T B (R * Al a d g s) (kk 42))
    (h1 : ∀ (n : Nat) s' o, x = n → PlOk s.c (64 * g) s.hs g x o → FreeR g s s' n → T B (R * Al a d g s') (kk 0)) :
    T B (R * Al a d g s) (c_alloc_Allocator_Free (da a) m x kk) := by
  refine T_of (alloc_Allocator_Free_ok _ m x kk) ?_
  have hg := inv.big
  have hl := inv.len
  refine Place_c inv (fun o ho => ?_) (fun hno o => ?_)
  · (repeat (first | (with_reducible refine T_al ?_; intro _) | ((with_reducible apply T_st); (focus rfl); (focus (repeat (first | with_reducible exact Upd.last | with_reducible exact Upd.one | with_reducible apply Upd.init))); (focus simp); simp only [List.set, Nat.zero_add, Nat.reduceAdd])))
    rename_i b0
    (dsimp only [alloc_Allocator_Free, alloc_Allocator_Free_s0, alloc_Allocator_Free_s1, alloc_Allocator_Free_s2, alloc_Allocator_Free_s3, alloc_Allocator_Free_s4, alloc_Allocator_Free_s5, alloc_Allocator_Free_s6, alloc_Allocator_Free_s7, alloc_Allocator_Free_s8, alloc_Allocator_Free_s9, alloc_Allocator_Free_s10, alloc_Allocator_Free_s11, alloc_Allocator_Free_s12, alloc_Allocator_Free_s13, alloc_Allocator_Free_s14, alloc_Allocator_Free_s15, alloc_Allocator_Free_s16, alloc_Allocator_Free_s17, alloc_Allocator_Free_s18, alloc_Allocator_Free_s19])
    simp only [Bool.not_true]
    (repeat (with_reducible refine T_brF ?_))
    refine T_bring (X := Al a d g s) (.init .last) ?_
    refine Al_open fun mm u f => ?_
    unfold da
    (repeat (first | with_reducible refine T_nn ?_ | ((with_reducible apply T_ldP); (focus rfl); (focus (repeat (first | with_reducible exact Has.last | with_reducible exact Has.one | refine Has.init ?_))); (focus rfl))))
    refine T_bring (X := Bm u (512 * g) s.U) (.init (.init .last)) ?_
    refine bitmap_Has_c ?_
    have cl : ∀ t, T B (R * Al a d g s) t → T B (R * pt b0 (.cells [.int .i64 o.1, .int .i64 o.2].toArray 68) * LDx d (64 * g) s.c * Mg mm d g s.hs s.F * Fl f s.L * pt a (.cells [.pointer (some ⟨mm, 0, none⟩), .pointer (some ⟨d, 0, none⟩), .int .i64 g, .pointer (some ⟨u, 0, none⟩), .pointer (some ⟨f, 0, none⟩)].toArray 47) * Bm u (512 * g) s.U) t := by
      intro t h
      refine T_drop1 (by (repeat (first | with_reducible exact Frm.last | with_reducible exact Frm.one | with_reducible apply Frm.init)) : Frm _ (pt b0 (.cells [.int .i64 o.1, .int .i64 o.2].toArray 68)) _) ?_
      exact T.perm (by unfold da; ac_rfl) (Al_close (m := mm) (u := u) (f := f) h)
    cases hu : has s.U x
    · simp only [Bool.not_false]
      (repeat (with_reducible refine T_brT ?_))
      exact cl _ (hM (.inr hu))
    simp only [Bool.not_true]
    (repeat (first | with_reducible refine T_brF ?_ | ((with_reducible apply T_ldI); (focus rfl); (focus (repeat (first | with_reducible exact Has.last | with_reducible exact Has.one | refine Has.init ?_))); (focus rfl))))
    refine ohead_Small_c ?_
    rw [show ((o.1, o.2) : Ob) = o from rfl]
    obtain ⟨g1, g2, g3, g4⟩ := ho
    have hhu := hu
    unfold has at hu
    simp only [Bool.and_eq_true, decide_eq_true_eq] at hu
    rcases g4 with ⟨k, k1, k2, k3, k4⟩ | ⟨k2, n, k3, k4, k5⟩
    · obtain ⟨n, rfl, hc⟩ := cellOf_sm k1 g2 k3 k4
      rw [Int.toNat_natCast] at hu
      rw [k2]
      (dsimp only [alloc_Allocator_Free, alloc_Allocator_Free_s0, alloc_Allocator_Free_s1, alloc_Allocator_Free_s2, alloc_Allocator_Free_s3, alloc_Allocator_Free_s4, alloc_Allocator_Free_s5, alloc_Allocator_Free_s6, alloc_Allocator_Free_s7, alloc_Allocator_Free_s8, alloc_Allocator_Free_s9, alloc_Allocator_Free_s10, alloc_Allocator_Free_s11, alloc_Allocator_Free_s12, alloc_Allocator_Free_s13, alloc_Allocator_Free_s14, alloc_Allocator_Free_s15, alloc_Allocator_Free_s16, alloc_Allocator_Free_s17, alloc_Allocator_Free_s18, alloc_Allocator_Free_s19])
      simp only [Bool.not_true]
      (repeat (first | with_reducible refine T_nn ?_ | with_reducible refine T_brF ?_ | ((with_reducible apply T_ldP); (focus rfl); (focus (repeat (first | with_reducible exact Has.last | with_reducible exact Has.one | refine Has.init ?_))); (focus rfl))))
      have hL : ∀ i, i < 160 → (s.L i).length ≤ 2 ^ 30 := fun i hi => by have := inv.free.lens hg i hi; omega
      have hnf : ¬ FHas s.L k ((n : Nat) : Int) := by
        intro hf
        obtain ⟨x', e1, _, h2⟩ := (inv.free.mem k k1 _).1 (mem_accL.2 hf)
        have : n = x' := by omega
        subst this
        rw [hu.2] at h2; cases h2
      refine bitmap_Drop_c (fun h => by rw [hhu] at h; cases h) (fun _ _ => ?_)
      rw [Int.toNat_natCast]
      have fin : ∀ L', (accL L' k 4).Perm ((n : Int) :: accL s.L k 4) → (∀ j, j < 32 → j ≠ k → (accL L' j 4).Perm (accL s.L j 4)) →
          T B (R * pt b0 (.cells [.int .i64 o.1, .int .i64 o.2].toArray 68) * LDx d (64 * g) s.c * Mg mm d g s.hs s.F * pt a (.cells [.pointer (some ⟨mm, 0, none⟩), .pointer (some ⟨d, 0, none⟩), .int .i64 g, .pointer (some ⟨u, 0, none⟩), .pointer (some ⟨f, 0, none⟩)].toArray 47) * Bm u (512 * g) (uDrop s.U n) * Fl f L') (kk 0) := by
        intro L' hp ho
        have h2 := h1 n { s with U := uDrop s.U n, L := L' } o rfl ⟨g1, g2, g3, .inl ⟨k, k1, k2, k3, k4⟩⟩ ⟨inv.freeS k1 hc hu.2 hp ho, hu.2, rfl, .inl ⟨k, k1, hc, rfl, rfl, rfl, hp, ho⟩⟩
        refine T_drop1 (by (repeat (first | with_reducible exact Frm.last | with_reducible exact Frm.one | with_reducible apply Frm.init)) : Frm _ (pt b0 (.cells [.int .i64 o.1, .int .i64 o.2].toArray 68)) _) ?_
        exact T.perm (by unfold da; ac_rfl) (Al_close (m := mm) (u := u) (f := f) h2)
      have push : T B (R * pt b0 (.cells [.int .i64 o.1, .int .i64 o.2].toArray 68) * LDx d (64 * g) s.c * Mg mm d g s.hs s.F * pt a (.cells [.pointer (some ⟨mm, 0, none⟩), .pointer (some ⟨d, 0, none⟩), .int .i64 g, .pointer (some ⟨u, 0, none⟩), .pointer (some ⟨f, 0, none⟩)].toArray 47) * Bm u (512 * g) (uDrop s.U n) * Fl f s.L) (c_free_Lists_Push (da f) k n fun x74 => kk x74) := by
        refine free_Push_c hL k1 (fun h => absurd h hnf) fun _ => ?_
        obtain ⟨p1, p2⟩ := accL_turn (L := s.L) (L' := setN s.L k (s.L k ++ [(n : Int)])) (m := 0) (by omega) k1 (fun i h1 _ => setN_ne _ _ h1) (l := [(n : Int)]) (l' := []) (by
          rw [setN_same, setN_ne _ _ (show ix 0 k ≠ k by unfold ix; omega), List.append_nil, List.append_assoc, List.append_assoc]
          exact List.Perm.append_left _ List.perm_append_comm)
        rw [List.append_nil] at p1
        exact fin _ (p1.symm.trans (List.perm_append_singleton _ _)) (fun j hj hjk => by rw [p2 j hj hjk])
      (repeat' (first | with_reducible refine T_nn ?_ | with_reducible refine T_brT ?_ | ((with_reducible apply T_ldP); (focus rfl); (focus (repeat (first | with_reducible exact Has.last | with_reducible exact Has.one | refine Has.init ?_))); (focus rfl)) | with_reducible refine T_brD (fun _ => ?_) (fun _ => ?_)))
      · refine T.perm (by ac_rfl) push
      · refine T.perm (by ac_rfl) push
      · rename_i hm1 hm2
        obtain ⟨m0, rfl⟩ := Int.eq_ofNat_of_zero_le (show 0 ≤ m by omega)
        refine T_bring (X := Fl f s.L) (by (repeat (first | with_reducible exact Frm.last | with_reducible exact Frm.one | with_reducible apply Frm.init))) ?_
        refine free_Put_c hL (by omega) k1 (fun h => absurd h hnf) fun _ L' ht hp => ?_
        obtain ⟨p1, p2⟩ := accL_turn (L := s.L) (L' := L') (by omega) k1 ht (l := [(n : Int)]) (l' := []) (by
          rw [List.append_nil]
          exact (List.perm_append_singleton _ _).trans hp.symm)
        rw [List.append_nil] at p1
        exact T.perm (by ac_rfl) (fin _ (p1.symm.trans (List.perm_append_singleton _ _)) (fun j hj hjk => by rw [p2 j hj hjk]))
    · obtain ⟨y, rfl, hb1, hb2, hb3⟩ := blockOf_nat g2
      rw [Int.toNat_natCast] at hu
      rw [hb1, Int.toNat_natCast] at k3
      have hyb : y = y / 512 * 512 := by
        rw [hb1] at k4
        unfold first at k4
        split at k4 <;> omega
      have hyb1 : 1 ≤ y / 512 := by omega
      rw [k2]
      (dsimp only [alloc_Allocator_Free, alloc_Allocator_Free_s0, alloc_Allocator_Free_s1, alloc_Allocator_Free_s2, alloc_Allocator_Free_s3, alloc_Allocator_Free_s4, alloc_Allocator_Free_s5, alloc_Allocator_Free_s6, alloc_Allocator_Free_s7, alloc_Allocator_Free_s8, alloc_Allocator_Free_s9, alloc_Allocator_Free_s10, alloc_Allocator_Free_s11, alloc_Allocator_Free_s12, alloc_Allocator_Free_s13, alloc_Allocator_Free_s14, alloc_Allocator_Free_s15, alloc_Allocator_Free_s16, alloc_Allocator_Free_s17, alloc_Allocator_Free_s18, alloc_Allocator_Free_s19])
      simp only [Bool.not_false]
      (repeat (first | with_reducible refine T_nn ?_ | with_reducible refine T_tick ?_ | with_reducible refine T_brT ?_ | ((with_reducible apply T_ldI); (focus rfl); (focus (repeat (first | with_reducible exact Has.last | with_reducible exact Has.one | refine Has.init ?_))); (focus rfl)) | ((with_reducible apply T_ldP); (focus rfl); (focus (repeat (first | with_reducible exact Has.last | with_reducible exact Has.one | refine Has.init ?_))); (focus rfl))))
      refine geom_BlockOf_c (by omega) (by omega) ?_
      rw [hb1]
      (repeat (first | with_reducible refine T_chk0 ?_ | ((with_reducible apply T_chk); (focus rfl); (focus (repeat (first | with_reducible exact Has.last | with_reducible exact Has.one | refine Has.init ?_))); (focus rfl))))
      refine T_bring (X := LDx d (64 * g) s.c) (by (repeat (first | with_reducible exact Frm.last | with_reducible exact Frm.one | with_reducible apply Frm.init))) ?_
      refine T_bring (X := Mg mm d g s.hs s.F) (by (repeat (first | with_reducible exact Frm.last | with_reducible exact Frm.one | with_reducible apply Frm.init))) ?_
      refine bman_Release_c (nn := n) rfl hyb1 (.inr k3) fun F' tie' => ?_
      (repeat' (first | with_reducible refine T_nn ?_ | ((with_reducible apply T_ldP); (focus rfl); (focus (repeat (first | with_reducible exact Has.last | with_reducible exact Has.one | refine Has.init ?_))); (focus rfl)) | with_reducible refine T_brNE (fun _ => ?_) (fun _ => ?_)))
      · rename_i h; exact absurd rfl h
      refine T_bring (X := Bm u (512 * g) s.U) (by (repeat (first | with_reducible exact Frm.last | with_reducible exact Frm.one | with_reducible apply Frm.init))) ?_
      refine bitmap_Drop_c (fun h => by rw [hhu] at h; cases h) (fun _ _ => ?_)
      rw [Int.toNat_natCast]
      have hinv := inv.freeL hyb1 k3
      rw [← hyb] at hinv
      have h2 := h1 y { s with hs := splice s.hs (y / 512) (List.replicate n (0, 0, 0)), F := F', c := wrH s.c (y / 512) (List.replicate n (0, 0, 0)), U := uDrop s.U y } o rfl ⟨g1, g2, g3, .inr ⟨k2, n, by rw [hb1, Int.toNat_natCast]; exact k3, k4, k5⟩⟩ ⟨hinv, hu.2, rfl, .inr ⟨y / 512, n, hyb, hyb1, k3, rfl, rfl, rfl⟩⟩
      refine T_drop1 (by (repeat (first | with_reducible exact Frm.last | with_reducible exact Frm.one | with_reducible apply Frm.init)) : Frm _ (pt b0 (.cells [.int .i64 o.1, .int .i64 o.2].toArray 68)) _) ?_
      exact T.perm (by unfold da; ac_rfl) (Al_close (m := mm) (u := u) (f := f) h2)
  · (repeat (first | (with_reducible refine T_al ?_; intro _) | ((with_reducible apply T_st); (focus rfl); (focus (repeat (first | with_reducible exact Upd.last | with_reducible exact Upd.one | with_reducible apply Upd.init))); (focus simp); simp only [List.set, Nat.zero_add, Nat.reduceAdd])))
    (dsimp only [alloc_Allocator_Free, alloc_Allocator_Free_s0, alloc_Allocator_Free_s1, alloc_Allocator_Free_s2, alloc_Allocator_Free_s3, alloc_Allocator_Free_s4, alloc_Allocator_Free_s5, alloc_Allocator_Free_s6, alloc_Allocator_Free_s7, alloc_Allocator_Free_s8, alloc_Allocator_Free_s9, alloc_Allocator_Free_s10, alloc_Allocator_Free_s11, alloc_Allocator_Free_s12, alloc_Allocator_Free_s13, alloc_Allocator_Free_s14, alloc_Allocator_Free_s15, alloc_Allocator_Free_s16, alloc_Allocator_Free_s17, alloc_Allocator_Free_s18, alloc_Allocator_Free_s19])
    simp only [Bool.not_false]
    (repeat (with_reducible refine T_brT ?_))
    refine T_drop1 .last ?_
    exact hM (.inl hno)
end
end Go.Proofs.YtdgcbapclnnkkaaGreat.X
end
section
/- The addresses of a set, one behind the other: the iterator's walk. Conditions: limits below 2^40. -/
set_option linter.unusedVariables false
set_option maxRecDepth 100000
set_option maxHeartbeats 2000000
namespace Go.Proofs.YtdgcbapclnnkkaaGreat.X
open Go Go.RowKit Go.Shelf
attribute [local go_sem] Oper.semAt_some
def Nxt (U : Nat → Bool) (lim : Nat) (a : Int) (r : Int × Bool) : Prop :=
  (r = (0, false) ∧ ∀ x : Nat, a ≤ x → U x = false) ∨ (∃ x : Nat, r = ((x : Int), true) ∧ a ≤ x ∧ x < lim ∧ U x = true ∧ ∀ y : Nat, a ≤ y → y < x → U y = false)
/-- the addresses of a set below one -/
def uBel (U : Nat → Bool) (n : Nat) : List Int := ((List.range n).filter fun x => U x).map fun (x : Nat) => (x : Int)
theorem uBel_skip {U : Nat → Bool} {a : Nat} : ∀ {n : Nat}, a ≤ n → (∀ y, a ≤ y → y < n → U y = false) → uBel U n = uBel U a := by
  intro n
  induction n with
  | zero => intro h _; have : a = 0 := by omega
            subst this; rfl
  | succ n ih =>
    intro h hy
    by_cases e : a = n + 1
    · rw [e]
    · rw [← ih (by omega) fun y h1 h2 => hy y h1 (by omega)]
      unfold uBel
      rw [List.range_succ, List.filter_append]
      simp [hy n (by omega) (by omega)]
theorem uBel_len {U : Nat → Bool} {n : Nat} : (uBel U n).length ≤ n := by
  unfold uBel
  rw [List.length_map]
  exact Nat.le_trans (List.length_filter_le _ _) (by simp)
theorem uBel_hit {U : Nat → Bool} {x : Nat} (h : U x = true) : uBel U (x + 1) = uBel U x ++ [(x : Int)] := by
  unfold uBel
  rw [List.range_succ, List.filter_append]
  simp [h]
theorem all1_in (l Bx s lim n : Nat) (hn1 : 1 ≤ n) (U : Nat → Bool) (J : List Int → World → Prop) (hlim : lim ≤ 2 ^ 40) (hoff : ∀ x, lim ≤ x → U x = false)
    (hbox : ∀ pre W, J pre W → W.cell? ⟨Bx, 0, none⟩ = some (.pointer (some ⟨s, 0, none⟩)))
    (hN : ∀ pre W (a : Int), J pre W → Calls Tryz.prog 189 #[.pointer (some ⟨s, 0, none⟩), .int .i64 a] W fun e W' => ∃ r : Int × Bool, e = .returned (.tuple #[.int .i64 r.1, .bool r.2]) ∧ Nxt U lim a r ∧ J pre W')
    (hY : ∀ m (x : Nat) W, J (uBel U x) W → x < lim → YieldAt Fence.wide m Tryz.prog l #[.int .i64 x] W fun e W' => e = .returned (.bool true) ∧ J (uBel U x ++ [(x : Int)]) W')
    (W : World) (h0 : J [] W) :
    CallsIn Fence.wide n Tryz.prog 188 #[.func (.yield l) #[] #[], .pointer (some ⟨Bx, 0, none⟩)] W fun e W' => (∃ v, e = .returned v) ∧ J (uBel U lim) W' := by
  refine callsIn_of_wp Tryz.func188 rfl trivial ?_ rfl
  simp only [Tryz.ntmps188, List.size_toArray, List.length_cons, List.length_nil, Nat.reduceAdd, Nat.reduceSub, Array.replicate_succ, Array.replicate_zero, List.push_toArray, List.append_toArray, List.nil_append, List.cons_append]
  have hb := hbox [] W h0
  have hf189 : Fence.wide.fn 189 := trivial
  gi_wp2_with (gi_at_call 189; refine (callsIn_wide.2 (hN [] W 0 h0)).mono ?_; rintro e w' ⟨r, rfl, hr, hJ⟩)
  gi_loopw [3, 4] (fun p q wr => ∃ (a : Nat) (r : Int × Bool), p = .int .i64 r.1 ∧ q = .bool r.2 ∧ Nxt U lim a r ∧ a ≤ lim ∧ J (uBel U a) wr)
    (fun p q wr => match p, q with | .int _ x, .bool true => lim - x.toNat | _, _ => 0)
  case atStart =>
    exact ⟨0, r, rfl, rfl, hr, by omega, hJ⟩
  case round =>
    obtain ⟨a, r, rfl, rfl, hr, ha, hJ⟩ := hrel
    rcases hr with ⟨rfl, hz⟩ | ⟨x, rfl, h1, h2, h3, h4⟩
    · gi_wp2
      go_end0
      refine ⟨⟨_, rfl⟩, ?_⟩
      rw [uBel_skip (a := a) ha fun y h1 h2 => hz y (by omega)]
      exact hJ
    · have hJ' : J (uBel U x) wr := by
        rw [uBel_skip (a := a) (by omega) fun y h5 h6 => h4 y (by omega) h6]; exact hJ
      obtain ⟨fn, tmps, assign, body, hy, hR⟩ := hY (n - 1) x wr hJ' h2
      gi_wp2
      refine hR.mono ?_
      rintro e W3 ⟨rfl, hJ3⟩
      rw [← uBel_hit h3] at hJ3
      have hb3 := hbox _ W3 hJ3
      gi_wp2_with (gi_at_call 189; refine (callsIn_wide.2 (hN _ W3 (((x + 1 : Nat) : Int)) hJ3)).mono ?_; rintro e w' ⟨r', rfl, hr', hJ4⟩)
      go_roundw
      case rel => exact ⟨x + 1, r', rfl, rfl, hr', by omega, hJ4⟩
      case measure =>
        rcases hr' with ⟨rfl, _⟩ | ⟨x', rfl, h5, h6, _, _⟩
        · simp; omega
        · simp; omega
end Go.Proofs.YtdgcbapclnnkkaaGreat.X
end
section
/- Contracts: the addresses of a set, as a list. Conditions: limits below 2^40. -/
set_option linter.unusedVariables false
set_option maxRecDepth 100000
set_option maxHeartbeats 2000000
namespace Go.Proofs.YtdgcbapclnnkkaaGreat.X
open Go Go.RowKit Go.Shelf
attribute [local go_sem] Oper.semAt_some
theorem all_in (n : Nat) (p0 : Option Addr) (w : World) :
    CallsIn Fence.wide n Tryz.prog 130 #[.pointer p0] w fun e w' => e = .returned (.func (.func 188) #[] #[.pointer (some ⟨w.heap.size, 0, none⟩)]) ∧ w' = w.alloc (.cells #[.pointer p0] 44) := by
  refine callsIn_of_wp Tryz.func130 rfl trivial ?_ rfl
  simp only [Tryz.ntmps130, List.size_toArray, List.length_cons, List.length_nil, Nat.reduceAdd, Nat.reduceSub, Array.replicate_succ, Array.replicate_zero, List.push_toArray, List.append_toArray, List.nil_append, List.cons_append]
  gi_wp2
  go_ret
  exact ⟨rfl, rfl⟩
theorem wpListIn_append_run {F : Fence} {n : Nat} {P : Program} (w : World) {ops : Array Oper} {rest : List Oper} {o : Oper} {a : Act} {Q : Exit → Act → World → Prop}
    (hg : o.guard = none) (s x : Operand) (t : TypeId) (hop : o.op = Op.call { callee := Callee.builtin Builtin.append, args := #[s, x], argTypes := #[t, t] })
    (v v2 v' : Value) (w' : World) (hs : a.eval s = v) (hx : a.eval x = v2) (hrun : (Builtin.append_ #[t, t] o.type #[v, v2]).run P w = .ok v' w') (hK : wpListIn F n P ops Q rest (a.put o.dst v') w') :
    wpListIn F n P ops Q (o :: rest) a w := by
  refine wpListIn_plain hg fun K hK' => ?_
  unfold Oper.wpIn
  refine ⟨?_, ?_⟩
  · simp [Oper.about, hop, resolve, Target.leads, Sem.run_pure]
  · rw [Oper.semAt_plain F _ _ (by rw [hop]; intro c hc'; cases hc')]
    simp [execOp, hop, resolve, invoke, builtin, hs, hx, hrun, Result.andThen]
    exact hK' _ _ hK
section
variable {B : World} {P R : SL} {t : K}
theorem Bm_ok {s lim : Nat} {U : Nat → Bool} (h : lim ≤ 2 ^ 40 → (∀ x, lim ≤ x → U x = false) → T B (R * Bm s lim U) t) : T B (R * Bm s lim U) t :=
  Bm_open fun q ws m ok => Bm_close ok (h ok.big ok.off)
theorem Sat.perm {Q : SL} {w : World} (e : P = Q) (h : Sat B P w) : Sat B Q w := e ▸ h
theorem putObj_sat {w : World} {r : Nat} {o o' : Obj} (s : Sat B (R * pt r o) w) : Sat B (R * pt r o') (w.putObj r o') := by
  have hr := (s.has (b := r) (o := o) Has.last).1
  have hlt : r < w.heap.size := (Array.getElem?_eq_some_iff.1 hr).1
  refine s.upd Upd.last (World.putObj_heap_same hlt) (fun x hx => World.putObj_heap_other hx) rfl rfl rfl (by simp)
theorem sat_ex {α : Type} {X : α → SL} {w : World} (h : Sat B (ex X) w) : ∃ x, Sat B (X x) w := by
  obtain ⟨⟨g, ⟨x, hx⟩, hb⟩, k⟩ := h
  exact ⟨x, ⟨g, hx, hb⟩, k⟩
theorem ex_sat {α : Type} {X : α → SL} {w : World} (x : α) (h : Sat B (X x) w) : Sat B (ex X) w := by
  obtain ⟨⟨g, hx, hb⟩, k⟩ := h
  exact ⟨⟨g, ⟨x, hx⟩, hb⟩, k⟩
/-- a range over a function whose rounds go on: what stands between two rounds is told by an assertion -/
theorem wp_rangeS {Pg : Program} {β : Type} {g : Operand} {ps : Array Tmp} {assign body : Code} {Q : Exit → Act → World → Prop} {a : Act} {w : World} {n gf : Nat} {lb : Array Value} (hn : 1 ≤ n)
    (hg : a.eval g = .func (.func gf) #[] lb) (eg : ∀ args w, (callFunc gf args).run Pg w = .ok (.enter gf args) w) (enc : β → Array Value) (hps : ∀ x, (enc x).size = ps.size) (ok : List β → β → Prop)
    (I : List β → SL) (all : List β) (h0 : Sat B (I []) w) (a₁ : β → Act)
    (hseq : ∀ (l : Nat) (X : SL), (∀ m pre x W, Sat B (I pre * X) W → ok pre x → YieldAt Fence.wide m Pg l (enc x) W fun e W' => e = .returned (.bool true) ∧ Sat B (I (pre ++ [x]) * X) W') →
      ∀ W, Sat B (I [] * X) W → CallsIn Fence.wide (n - 1) Pg gf (#[.func (.yield l) #[] #[]] ++ lb) W fun e W' => (∃ v, e = .returned v) ∧ Sat B (I all * X) W')
    (hassign : ∀ (m l : Nat) (x : β) (W : World) (K : Act → World → Prop), K (a₁ x) W → assign.wpIn (Fence.wide.inRound l) m Pg (Exit.then K (fun _ _ _ => False)) { tmps := (ps.zip (enc x)).foldl (fun t (p, v) => t.setIfInBounds p v) a.tmps, defers := [] } W)
    (hbody : ∀ (m l : Nat) (pre : List β) (x : β) (W : World) (X : SL), ok pre x → Sat B (I pre * X) W → body.wpIn (Fence.wide.inRound l) m Pg (fun e _ W' => e = .normal ∧ Sat B (I (pre ++ [x]) * X) W') (a₁ x) W)
    (hdone : ∀ (D : Nat) (W : World), Sat B (I all * pt D (.deferred (some []))) W → Q .normal { a with defers := { target := .collected D, args := #[] } :: a.defers } W) :
    (Code.rangeFunc g ps assign body).wpIn Fence.wide n Pg Q a w := by
  refine wpIn_rangeFunc ?_
  intro fn hfn
  rw [show Fence.wide.round = none from rfl]
  obtain ⟨rec, hrec⟩ : ∃ rec : LoopState → Option Code → Loop, rec = fun st pe => { state := st, pending := pe, fn, tmps := a.tmps, params := ps, assign, body, defers := w.heap.size } := ⟨_, rfl⟩
  have s1 : Sat B (I [] * pt w.heap.size (.deferred (some []))) (w.alloc (.deferred (some []))) := h0.alloc
  have s2 : Sat B (I [] * pt w.heap.size (.deferred (some [])) * pt (w.heap.size + 1) (.loop (rec .ready none))) ((w.alloc (.deferred (some []))).alloc (.loop (rec .ready none))) := by
    have := s1.alloc (o := .loop (rec .ready none))
    rwa [World.size_alloc] at this
  obtain ⟨W1, hW1⟩ : ∃ W1, (w.alloc (.deferred (some []))).alloc (.loop (rec .ready none)) = W1 := ⟨_, rfl⟩
  rw [hW1] at s2
  have sw : ∀ o (W : World) (Y : SL), Sat B (Y * (pt w.heap.size (.deferred (some [])) * pt (w.heap.size + 1) o)) W ↔ Sat B (Y * pt w.heap.size (.deferred (some [])) * pt (w.heap.size + 1) o) W := fun o W Y => by rw [sep_assoc]
  refine ⟨w.heap.size + 1, [{ target := .collected w.heap.size, args := #[] }], W1, { target := .fn (.func gf) lb, args := #[.func (.yield (w.heap.size + 1)) #[] #[]] }, W1, gf,
    #[.func (.yield (w.heap.size + 1)) #[] #[]] ++ lb, W1, ?_, ?_, fun _ _ => trivial, ?_, fun _ => hn, ?_⟩
  · rw [← hW1, hrec]; exact run_enterLoop_outer _ _ _ _ _
  · simp only [resolve, hg]
    simp [go_sem]
  · simp [invoke, go_sem, eg]
  · refine (hseq (w.heap.size + 1) (pt w.heap.size (.deferred (some [])) * pt (w.heap.size + 1) (.loop (rec .ready none))) ?_ W1 ((sw _ _ _).2 s2)).mono ?_
    · intro m pre x W hs hx
      rw [sw] at hs
      have hl : W.heap[w.heap.size + 1]? = some (.loop (rec .ready none)) := (hs.has Has.last).1
      have hy := run_yield (P := Pg) (args := enc x) hl (by rw [hrec]; exact hps x)
      rw [hrec] at hy
      refine ⟨fn, _, assign, body, hy, roundIn_of_wpIn hfn (hassign _ _ x W _ ⟨_, run_beginRound hl (by rw [hrec]), ?_⟩)⟩
      have hs2 := putObj_sat (o' := .loop { rec .ready none with state := .busy }) hs
      rw [← sw] at hs2
      refine wpIn_mono (hbody _ _ pre x _ _ hx hs2) ?_
      rintro e a3 W3 ⟨rfl, hs3⟩
      rw [sw] at hs3
      have hl3 : W3.heap[w.heap.size + 1]? = some (.loop { rec .ready none with state := .busy }) := (hs3.has Has.last).1
      have hend := run_endRound (P := Pg) none hl3
      refine ⟨_, _, hend, rfl, ?_⟩
      have hs4 := putObj_sat (o' := .loop (rec .ready none)) hs3
      rw [sw]
      rw [hrec] at hs4 ⊢
      exact hs4
    · rintro e W2 ⟨⟨v, rfl⟩, hs⟩
      rw [sw] at hs
      have hl : W2.heap[w.heap.size + 1]? = some (.loop (rec .ready none)) := (hs.has Has.last).1
      refine ⟨none, _, by have := run_endLoop (P := Pg) hl (by rw [hrec]; simp); rw [hrec] at this; exact this, ?_⟩
      exact hdone _ _ (putObj_sat hs).left
theorem bitmap_List_c {s lim : Nat} {U : Nat → Bool} {k : Sl → K} (hk : ∀ out, T B (R * Bm s lim U * vec 3 1 out (ints (uBel U lim))) (k out)) : T B (R * Bm s lim U) (c_bitmap_Set_List (da s) k) := by
  refine Bm_ok fun hlim hoff => ?_
  intro w hw
  unfold c_bitmap_Set_List cl
  refine (callsIn_wide (n := 9)).1 (callsIn_of_wp_marks Tryz.func67 rfl trivial ?_ rfl)
  simp only [Tryz.ntmps67, List.size_toArray, List.length_cons, List.length_nil, Nat.reduceAdd, Nat.reduceSub, Array.replicate_succ, Array.replicate_zero, List.push_toArray, List.append_toArray, List.nil_append, List.cons_append]
  have hf130 : Fence.wide.fn 130 := trivial
  gi_wp2_with (gi_at_call 130; refine (all_in (9 - 1) _ _).mono ?_; rintro e w' ⟨rfl, rfl⟩)
  have s1 := hw.alloc (o := .cells [Value.slice none 0 0].toArray 27)
  have s2 := s1.alloc (o := .cells [Value.pointer (da s)].toArray 44)
  have hsz : ({ w with heap := w.heap.push (.cells [Value.slice none 0 0].toArray 27) } : World).heap.size = w.heap.size + 1 := by simp
  rw [hsz] at s2
  generalize hbx : w.heap.size + 1 = bx at *
  generalize hbo : w.heap.size = bo at *
  have s2 : Sat B (R * Bm s lim U * pt bo (.cells [Value.slice none 0 0].toArray 27) * pt bx (.cells [Value.pointer (da s)].toArray 44)) ((w.alloc (.cells #[Value.slice none 0 0] 27)).alloc (.cells #[Value.pointer (da s)] 44)) := s2
  generalize ((w.alloc (.cells #[Value.slice none 0 0] 27)).alloc (.cells #[Value.pointer (da s)] 44)) = w2 at *
  have eg : ∀ args w, (callFunc 188 args).run Tryz.prog w = .ok (.enter 188 args) w := enters_of Tryz.func188 (by kernel_rfl) rfl
  refine wp_rangeS (B := B) (n := 9) (β := Int) (lb := #[.pointer (some ⟨bx, 0, none⟩)]) (by omega) rfl eg (fun x => #[.int .i64 x]) (fun _ => rfl) (fun pre x => ∃ n : Nat, x = n ∧ n < lim ∧ pre = uBel U n)
    (fun pre => ex fun out : Sl => R * Bm s lim U * pt bx (.cells [Value.pointer (da s)].toArray 44) * pt bo (.cells [out.v].toArray 27) * vec 3 1 out (ints pre)) (uBel U lim) ?start
    (fun x => { tmps := #[Value.pointer (da s), undef, Value.slice none 0 0, Value.pointer (some { block := bo, off := 0 }), Value.int .i64 x, Value.pointer (da s), Value.func (Fn.func 188) #[] #[Value.pointer (some { block := bx, off := 0 })], Value.int .i64 x, undef, undef, undef, undef, undef], defers := [] }) ?seq ?assign ?body ?done
  case start =>
    refine ex_sat ⟨none, 0, 0⟩ ?_
    refine vec_none rfl rfl ?_
    exact s2.perm (by ac_rfl)
  case seq =>
    intro l X hY W hW
    refine all1_in l bx s lim (9 - 1) (by omega) U (fun pre W => Sat B ((ex fun out : Sl => R * Bm s lim U * pt bx (.cells [Value.pointer (da s)].toArray 44) * pt bo (.cells [out.v].toArray 27) * vec 3 1 out (ints pre)) * X) W) hlim hoff ?_ ?_ ?_ W hW
    · intro pre W hs
      rw [ex_sep] at hs
      obtain ⟨out, hs⟩ := sat_ex hs
      refine hs.cell (b := bx) (l := [Value.pointer (da s)]) (ty := 44) (fz := (0, 0)) (by (repeat (first | with_reducible exact Has.last | with_reducible exact Has.one | refine Has.init ?_))) rfl
    · intro pre W a hs
      rw [ex_sep] at hs
      obtain ⟨out, hs⟩ := sat_ex hs
      have hT : T B (R * pt bx (.cells [Value.pointer (da s)].toArray 44) * pt bo (.cells [out.v].toArray 27) * vec 3 1 out (ints pre) * X * Bm s lim U)
          (c_bitmap_Set_Next (da s) a fun r w' => Nxt U lim a r ∧ Sat B ((ex fun out : Sl => R * Bm s lim U * pt bx (.cells [Value.pointer (da s)].toArray 44) * pt bo (.cells [out.v].toArray 27) * vec 3 1 out (ints pre)) * X) w') := by
        have close : ∀ w', Sat B (R * pt bx (.cells [Value.pointer (da s)].toArray 44) * pt bo (.cells [out.v].toArray 27) * vec 3 1 out (ints pre) * X * Bm s lim U) w' → Sat B ((ex fun out : Sl => R * Bm s lim U * pt bx (.cells [Value.pointer (da s)].toArray 44) * pt bo (.cells [out.v].toArray 27) * vec 3 1 out (ints pre)) * X) w' := by
          intro w' h
          rw [ex_sep]
          exact ex_sat out (h.perm (by ac_rfl))
        refine bitmap_Next_c (fun hz w' h => ⟨.inl ⟨rfl, hz⟩, close w' h⟩) (fun x h1 h2 h3 h4 w' h => ⟨.inr ⟨x, rfl, h1, h3, h2, h4⟩, close w' h⟩)
      have hC := hT W (hs.perm (by ac_rfl))
      unfold c_bitmap_Set_Next cl at hC
      refine Calls.mono hC ?_
      rintro e W' ⟨r, rfl, h1, h2⟩
      exact ⟨r, rfl, h1, h2⟩
    · intro m x W hs hx
      exact hY m _ x W hs ⟨x, rfl, hx, rfl⟩
  case assign =>
    intro m l x W K hK
    gi_wp2
    exact hK
  case body =>
    intro m l pre x W X hx hs
    rw [ex_sep] at hs
    obtain ⟨out, hs⟩ := sat_ex hs
    have hc : W.cell? ⟨bo, 0, none⟩ = some out.v := hs.cell (b := bo) (l := [out.v]) (ty := 27) (fz := (0, 0)) (by (repeat (first | with_reducible exact Has.last | with_reducible exact Has.one | refine Has.init ?_))) rfl
    have hlen : pre.length + 1 ≤ 2 ^ 40 := by
      obtain ⟨n, _, h1, rfl⟩ := hx
      have := @uBel_len U n
      omega
    have hap : T B (R * Bm s lim U * pt bx (.cells [Value.pointer (da s)].toArray 44) * pt bo (.cells [out.v].toArray 27) * X * vec 3 1 out (ints pre) * pt W.heap.size (.cells [Value.int .i64 x].toArray 3))
        (semT Tryz.prog (Builtin.append_ #[27, 27] 27 #[out.v, .slice (some ⟨W.heap.size, 0, none⟩) 1 1]) (.one (.sc .slice)) fun s' w' => Sat B (R * Bm s lim U * pt bx (.cells [Value.pointer (da s)].toArray 44) * pt bo (.cells [out.v].toArray 27) * X * vec 3 1 s' (ints pre ++ [Value.int .i64 x])) w') :=
      T_app1b (new := [Value.int .i64 x]) kd_int rfl rfl (by rw [ints_len]; omega) fun s' w' h => h
    have hap2 := hap (W.alloc (.cells #[Value.int .i64 x] 3)) (Sat.alloc (hs.perm (by ac_rfl)))
    unfold semT at hap2
    generalize hrun : (Builtin.append_ #[27, 27] 27 #[out.v, .slice (some ⟨W.heap.size, 0, none⟩) 1 1]).run Tryz.prog (W.alloc (.cells #[Value.int .i64 x] 3)) = res at hap2
    cases res <;> simp only at hap2 <;> (try exact hap2.elim)
    rename_i v W'
    obtain ⟨s', rfl, hs'⟩ := hap2
    have hc' : W'.cell? ⟨bo, 0, none⟩ = some out.v := hs'.cell (b := bo) (l := [out.v]) (ty := 27) (fz := (0, 0)) (by (repeat (first | with_reducible exact Has.last | with_reducible exact Has.one | refine Has.init ?_))) rfl
    have hb' : W'.heap[bo]? = some (.cells [out.v].toArray 27) := (hs'.has (b := bo) (o := .cells [out.v].toArray 27) (by (repeat (first | with_reducible exact Has.last | with_reducible exact Has.one | refine Has.init ?_)))).1
    have hf' : W'.frozen? ⟨bo, 0, none⟩ = false := by simp [World.frozen?, hb']
    gi_wp2_with (gi_at_builtin; refine wpListIn_append_run _ rfl _ _ _ rfl _ _ _ _ rfl rfl hrun ?_)
    have hst := (T_st (a := ⟨bo, 0, none⟩) (v := s'.v) (i := 0) (l := [out.v]) (ty := 27) (b := bo) (t := fun w' => Sat B ((ex fun out : Sl => R * Bm s lim U * pt bx (.cells [Value.pointer (da s)].toArray 44) * pt bo (.cells [out.v].toArray 27) * vec 3 1 out (ints (pre ++ [x]))) * X) w') rfl (by (repeat (first | with_reducible exact Upd.last | with_reducible exact Upd.one | with_reducible apply Upd.init))) (by simp) fun w' h => by
      rw [ex_sep]
      refine ex_sat s' (h.perm ?_)
      rw [ints_append]
      show R * Bm s lim U * pt bx _ * pt bo (.cells [s'.v].toArray 27) * X * vec 3 1 s' (ints pre ++ ints [x]) = _
      ac_rfl) W' hs'
    exact hst.2.2
  case done =>
    intro D W hs
    rw [ex_sep] at hs
    obtain ⟨out, hs⟩ := sat_ex hs
    have hK : W.heap[D]? = some (.deferred (some [])) := (hs.has Has.last).1
    have hc : W.cell? ⟨bo, 0, none⟩ = some out.v := hs.cell (b := bo) (l := [out.v]) (ty := 27) (fz := (0, 0)) (by (repeat (first | with_reducible exact Has.last | with_reducible exact Has.one | refine Has.init ?_))) rfl
    gi_wp2
    refine ⟨by simp, .inl ⟨_, _, rfl, run_takeDeferred hK, ?_⟩⟩
    refine ⟨_, results_tmp rfl _ _ _, out, rfl, ?_⟩
    have hs2 := (putObj_sat (o' := .deferred none) hs).left
    refine hk out _ ?_
    have hs3 : Sat B (R * Bm s lim U * vec 3 1 out (ints (uBel U lim)) * (pt bx (.cells [Value.pointer (da s)].toArray 44) * pt bo (.cells [out.v].toArray 27))) (W.putObj D (.deferred none)) := hs2.perm (by ac_rfl)
    exact hs3.left
end
end Go.Proofs.YtdgcbapclnnkkaaGreat.X
end
section
/- Contracts: an allocator begun; what it tells. Conditions: at most 2^20 blocks; the device goes on. -/
set_option linter.unusedVariables false
set_option maxRecDepth 4000
set_option maxHeartbeats 1000000
namespace Go.Proofs.YtdgcbapclnnkkaaGreat.X
open Go
def hs0 (g : Nat) : List Hd := List.replicate g (0, 0, 0)
theorem hd_hs0 (g b : Nat) : hd (hs0 g) b = (0, 0, 0) := by
  unfold hd hs0
  rw [List.getD_eq_getElem?_getD, List.getElem?_replicate]; split <;> rfl
theorem Inv.begun {g : Nat} (h1 : 2 ≤ g) (h2 : g ≤ 2 ^ 20) : Inv g (hs0 g) (fun _ => false) (fun _ => []) := by
  have hno : ∀ k x, ¬ SmCell g (hs0 g) k x := by
    rintro k x ⟨b, i, _, _, h3, _⟩
    rw [hd_hs0] at h3; simp at h3
  refine ⟨by simp [hs0], h1, h2, fun x hx => ?_, hd_hs0 g 0, fun b hb => ?_, fun b hb => ?_, fun x hx => (by cases hx), ⟨fun k _ => ?_, fun k _ y => ?_⟩⟩
  · rw [List.eq_of_mem_replicate hx]; exact .inl rfl
  · rw [hd_hs0] at hb; simp at hb
  · rw [hd_hs0] at hb; simp at hb
  · simp [accL]
  · simp only [accL, List.append_nil, List.not_mem_nil, false_iff]
    rintro ⟨x, _, h3, _⟩
    exact hno k x h3
section
variable {B : World} {P R : SL} {t : K}
theorem alloc_New_c {d m g : Nat} {c : List Int} {F : RF} (h1 : 2 ≤ g) (h2 : g ≤ 2 ^ 20) {kk : Option Addr × Int → K}
    (hk : ∀ a, T B (R * Al a d g ⟨hs0 g, F, c, fun _ => false, fun _ => []⟩) (kk (da a, 0))) : T B (R * LDx d (64 * g) c * Mg m d g (hs0 g) F) (c_alloc_New (da d) (da m) ⟨none, 0, 0⟩ kk) := by
  refine T_of (alloc_New_ok _ _ _ kk) ?_
  refine bman_Geometry_c ?_
  refine T_bring (X := LDx d (64 * g) c) (.init .last) ?_
  refine LDx_open fun la => ?_
  refine LLen_c fun hl hn => ?_
  refine LDx_close ?_
  have e1 : ((8 * (64 * g) : Nat) : Int) = ((512 * g : Nat) : Int) := by omega
  rw [e1]
  refine bitmap_New_c (by omega) fun u => ?_
  refine free_New_c fun f => ?_
  (repeat ((with_reducible refine T_al ?_; intro _)))
  rename_i a
  (dsimp only [alloc_New, alloc_New_s0, alloc_New_s1, alloc_New_s2, alloc_New_s3, alloc_New_s4, alloc_New_s5, alloc_New_l6, alloc_New_s7, alloc_New_s8, alloc_New_s9, alloc_New_s10, alloc_New_s11, alloc_New_s12, alloc_New_s13, alloc_New_s14, alloc_New_s15, alloc_New_s16, alloc_New_l17, alloc_New_s18, alloc_New_s19, alloc_New_s20])
  have cl : ∀ t, T B (R * Al a d g ⟨hs0 g, F, c, fun _ => false, fun _ => []⟩) t → T B (R * Mg m d g (hs0 g) F * LDx d (64 * g) c * Bm u (512 * g) (fun _ => false) * Fl f (fun _ => []) * pt a (.cells [.pointer (da m), .pointer (da d), .int .i64 g, .pointer (da u), .pointer (da f)].toArray 47)) t :=
    fun t h => T.perm (by ac_rfl) (Al_close (a := a) (m := m) (u := u) (f := f) (d := d) (g := g) (R := R) (s := ⟨hs0 g, F, c, fun _ => false, fun _ => []⟩) h)
  have hk := cl _ (hk a)
  clear cl
  generalize hX : R * Mg m d g (hs0 g) F * LDx d (64 * g) c * Bm u (512 * g) (fun _ => false) * Fl f (fun _ => []) * pt a (.cells [.pointer (da m), .pointer (da d), .int .i64 g, .pointer (da u), .pointer (da f)].toArray 47) = X at *
  refine T_lpX (fun _ _ => X) (fun n (z : Int × Unit) => z.1 = 0 ∧ n = 0) 0 rfl ⟨rfl, rfl⟩ ?_
  rintro n ⟨z, uu⟩ cc ⟨e, rfl⟩ hc
  simp only at e
  subst e
  clear hc
  (repeat' (with_reducible refine T_brD (fun _ => ?_) (fun _ => ?_)))
  · rename_i h; simp at h
  refine T_lpX (fun _ _ => X) (fun n (z : Int × Unit) => ∃ i : Nat, z.1 = i ∧ 1 ≤ i ∧ n = g - i) (g - 1) rfl ⟨1, rfl, by omega, rfl⟩ ?_
  rintro n ⟨z, uu⟩ cc ⟨i, e1, e2, e3⟩ hc
  simp only at e1
  subst e1 e3
  have hnx := hc (g - (i + 1)) (IntKind.wrap .i64 ((i : Int) + 1), ())
  clear hc
  subst hX
  refine T_bring (X := Mg m d g (hs0 g) F) (by (repeat (first | with_reducible exact Frm.last | with_reducible exact Frm.one | with_reducible apply Frm.init))) ?_
  refine Mg_open fun tt x tie => ?_
  unfold da
  (repeat (first | with_reducible refine T_nn ?_ | ((with_reducible apply T_ldP); (focus rfl); (focus (repeat (first | with_reducible exact Has.last | with_reducible exact Has.one | refine Has.init ?_))); (focus rfl))))
  refine T_bring (X := Tab tt d g (hs0 g)) (by (repeat (first | with_reducible exact Frm.last | with_reducible exact Frm.one | with_reducible apply Frm.init))) ?_
  refine blocks_Len_c ?_
  have hlen : (hs0 g).length = g := by simp [hs0]
  rw [hlen]
  (repeat' (first | with_reducible refine T_nn ?_ | ((with_reducible apply T_ldP); (focus rfl); (focus (repeat (first | with_reducible exact Has.last | with_reducible exact Has.one | refine Has.init ?_))); (focus rfl)) | with_reducible refine T_brD (fun _ => ?_) (fun _ => ?_)))
  · rename_i hlt
    refine blocks_Get_c ?_
    rw [if_neg (by omega), Int.toNat_natCast, show (hs0 g).getD i (0, 0, 0) = (0, 0, 0) from hd_hs0 g i]
    (repeat' (first | ((with_reducible apply T_ldI); (focus rfl); (focus (repeat (first | with_reducible exact Has.last | with_reducible exact Has.one | refine Has.init ?_))); (focus rfl)) | (with_reducible refine T_al ?_; intro _) | ((with_reducible apply T_st); (focus rfl); (focus (repeat (first | with_reducible exact Upd.last | with_reducible exact Upd.one | with_reducible apply Upd.init))); (focus simp); simp only [List.set, Nat.zero_add, Nat.reduceAdd]) | with_reducible refine T_brE (fun _ => ?_) (fun _ => ?_)))
    · rename_i h; exact absurd h (by decide)
    rename_i b hne
    by_cases hb : i < g
    · have := hnx (by omega) ⟨i + 1, w64 (by omega) (by omega), by omega, rfl⟩
      refine T_drop1 .last ?_
      have h2 : T B (R * LDx d (64 * g) c * Bm u (512 * g) (fun _ => false) * Fl f (fun _ => []) * pt a (.cells [.pointer (da m), .pointer (da d), .int .i64 g, .pointer (da u), .pointer (da f)].toArray 47) * Mg m d g (hs0 g) F) (cc (IntKind.wrap .i64 ((i : Int) + 1), ())) := T.perm (by ac_rfl) this
      have h3 := Mg_close (a := tt) (x := x) tie h2
      exact T.perm (by unfold da; ac_rfl) h3
    · exfalso; omega
  · have h2 : T B (R * LDx d (64 * g) c * Bm u (512 * g) (fun _ => false) * Fl f (fun _ => []) * pt a (.cells [.pointer (da m), .pointer (da d), .int .i64 g, .pointer (da u), .pointer (da f)].toArray 47) * Mg m d g (hs0 g) F) (kk (da a, 0)) := T.perm (by ac_rfl) hk
    have h3 := Mg_close (a := tt) (x := x) tie h2
    exact T.perm (by unfold da; ac_rfl) h3
theorem Objects_c {a d g : Nat} {s : St} {kk : Sl → K} (hk : ∀ sl, T B (R * Al a d g s * vec 3 1 sl (ints (uBel s.U (512 * g)))) (kk sl)) : T B (R * Al a d g s) (c_alloc_Allocator_Objects (da a) kk) := by
  refine T_of (alloc_Allocator_Objects_ok _ kk) ?_
  refine Al_open fun m u f => ?_
  unfold da
  (repeat (first | with_reducible refine T_nn ?_ | ((with_reducible apply T_ldP); (focus rfl); (focus (repeat (first | with_reducible exact Has.last | with_reducible exact Has.one | refine Has.init ?_))); (focus rfl))))
  refine T_bring (X := Bm u (512 * g) s.U) (by (repeat (first | with_reducible exact Frm.last | with_reducible exact Frm.one | with_reducible apply Frm.init))) ?_
  refine bitmap_List_c fun sl => ?_
  have h2 : T B (R * vec 3 1 sl (ints (uBel s.U (512 * g))) * Al a d g s) (kk sl) := T.perm (by ac_rfl) (hk sl)
  exact T.perm (by unfold da; ac_rfl) (Al_close (m := m) (u := u) (f := f) h2)
theorem FreeCells_c {a d g k : Nat} {s : St} (inv : Inv g s.hs s.U s.L) (hk2 : k < 32) {kk : Sl → K} (hk : ∀ sl, T B (R * Al a d g s * vec 3 1 sl (ints (sortI (accL s.L k 4)))) (kk sl)) : T B (R * Al a d g s) (c_alloc_Allocator_FreeCells (da a) k kk) := by
  refine T_of (alloc_Allocator_FreeCells_ok _ k kk) ?_
  refine Al_open fun m u f => ?_
  unfold da
  (repeat (first | with_reducible refine T_nn ?_ | ((with_reducible apply T_ldP); (focus rfl); (focus (repeat (first | with_reducible exact Has.last | with_reducible exact Has.one | refine Has.init ?_))); (focus rfl))))
  refine T_bring (X := Fl f s.L) (by (repeat (first | with_reducible exact Frm.last | with_reducible exact Frm.one | with_reducible apply Frm.init))) ?_
  refine free_List_c (fun i hi => by have := inv.free.lens inv.big i hi; omega) hk2 fun sl => ?_
  have h2 : T B (R * vec 3 1 sl (ints (sortI (accL s.L k 4))) * Al a d g s) (kk sl) := T.perm (by ac_rfl) (hk sl)
  exact T.perm (by unfold da; ac_rfl) (Al_close (m := m) (u := u) (f := f) h2)
theorem bman_Runs_c {m d g : Nat} {hs : List Hd} {F : RF} {k : Sl → K} (hk : ∀ s l, Cov F l → l.Pairwise (fun p q => p.1 ≤ q.1) → T B (R * Mg m d g hs F * vec 152 2 s (prs l)) (k s)) : T B (R * Mg m d g hs F) (c_bman_Manager_Runs (da m) k) := by
  refine T_of (bman_Manager_Runs_ok _ k) ?_
  refine Mg_open fun a x ok => ?_
  unfold da
  (repeat (first | with_reducible refine T_nn ?_ | ((with_reducible apply T_ldP); (focus rfl); (focus (repeat (first | with_reducible exact Has.last | with_reducible exact Has.one | refine Has.init ?_))); (focus rfl))))
  refine T_bring (X := Idx x g F) (.init .last) ?_
  refine runs_List_c ok.ok fun sl l hc hso => ?_
  have h2 : T B (R * vec 152 2 sl (prs l) * Mg m d g hs F) (k sl) := T.perm (by ac_rfl) (hk sl l hc hso)
  exact T.perm (by unfold da; ac_rfl) (Mg_close (a := a) (x := x) ok h2)
end
end Go.Proofs.YtdgcbapclnnkkaaGreat.X
end
section
/- How often there will be room: plain facts. Conditions: at most 2^20 blocks. -/
set_option linter.unusedVariables false
set_option maxRecDepth 4000
set_option maxHeartbeats 1000000
namespace Go.Proofs.YtdgcbapclnnkkaaGreat.X
open Go
def sumD (b : Int) : List (Int × Int) → Int | [] => 0 | p :: l => p.2 / b + sumD b l
theorem sumI_perm {l l' : List (Int × Int)} (h : l.Perm l') : sumI l = sumI l' := by
  induction h with
  | nil => rfl
  | cons x _ ih => simp only [sumI, ih]
  | swap x y l => simp only [sumI]; omega
  | trans _ _ h1 h2 => exact h1.trans h2
theorem sumD_perm {b : Int} {l l' : List (Int × Int)} (h : l.Perm l') : sumD b l = sumD b l' := by
  induction h with
  | nil => rfl
  | cons x _ ih => simp only [sumD, ih]
  | swap x y l => simp only [sumD]; omega
  | trans _ _ h1 h2 => exact h1.trans h2
theorem Cov.nodup {F : RF} {l : List (Int × Int)} (h : Cov F l) : l.Nodup :=
  List.Pairwise.of_map (·.1) (fun a b h e => h (by rw [e])) h.1
theorem Cov.perm {F : RF} {l l' : List (Int × Int)} (h : Cov F l) (h' : Cov F l') : l.Perm l' :=
  (List.perm_ext_iff_of_nodup h.nodup h'.nodup).2 fun p => by
    obtain ⟨a, b⟩ := p
    rw [← h.2, ← h'.2]
theorem Cov.pick {F : RF} {l : List (Int × Int)} (h : Cov F l) {b q : Int} (hb : F b = some q) : ∃ r, l.Perm ((b, q) :: r) ∧ Cov (delF F b) r := by
  have hm := (h.2 b q).1 hb
  refine ⟨l.erase (b, q), List.perm_cons_erase hm, ?_, fun key v => ?_⟩
  · have hn := h.1
    rw [((List.perm_cons_erase hm).map (·.1)).nodup_iff] at hn
    simp only [List.map_cons, List.nodup_cons] at hn
    exact hn.2
  · unfold delF
    rw [List.Nodup.mem_erase_iff h.nodup, ← h.2]
    have hn := h.1
    rw [((List.perm_cons_erase hm).map (·.1)).nodup_iff] at hn
    simp only [List.map_cons, List.nodup_cons] at hn
    by_cases e : key = b
    · rw [if_pos e]
      constructor
      · intro h; cases h
      · rintro ⟨h1, h2⟩
        rw [e, hb] at h2
        simp only [Option.some.injEq] at h2
        exact absurd (by rw [e, h2]) h1
    · rw [if_neg e]
      constructor
      · intro hk; exact ⟨fun he => e (by simp only [Prod.mk.injEq] at he; exact he.1), hk⟩
      · exact fun h => h.2
/-- the runs behind a taking -/
theorem Cov.take {lim : Int} {F : RF} (ok : RunsOk lim F) {l l' : List (Int × Int)} {b n q : Int} (h : Cov F l) (hb : F b = some q) (hn : 1 ≤ n) (hq : n ≤ q) (h' : Cov (takeF F b n q) l') :
    sumI l' = sumI l - n ∧ sumD n l' = sumD n l - 1 := by
  obtain ⟨r, hp, hr⟩ := h.pick hb
  have hrng := ok.rng _ _ hb
  by_cases hlt : n < q
  · have hcov : Cov (takeF F b n q) ((b + n, q - n) :: r) := by
      have hnot : (b + n) ∉ r.map (·.1) := by
        intro hm
        obtain ⟨p, hp2, he⟩ := List.mem_map.1 hm
        have h2 := (hr.2 p.1 p.2).2 hp2
        obtain ⟨_, h3⟩ := delF_some h2
        rw [he] at h3
        have := ok.sep _ _ _ _ hb h3 (by omega)
        omega
      refine ⟨by rw [List.map_cons, List.nodup_cons]; exact ⟨hnot, hr.1⟩, fun key v => ?_⟩
      unfold takeF
      rw [if_pos hlt]
      unfold updF
      rw [List.mem_cons]
      by_cases e : key = b + n
      · rw [if_pos e]
        constructor
        · intro h; left; simp only [Option.some.injEq] at h; rw [e, h]
        · rintro (h | h)
          · simp only [Prod.mk.injEq] at h; rw [h.2]
          · exact absurd (List.mem_map.2 ⟨_, h, e⟩) hnot
      · rw [if_neg e, hr.2]
        constructor
        · exact .inr
        · rintro (h | h)
          · simp only [Prod.mk.injEq] at h; exact absurd h.1 e
          · exact h
    have hp2 := h'.perm hcov
    rw [sumI_perm hp2, sumD_perm hp2, sumI_perm hp, sumD_perm hp]
    simp only [sumI, sumD]
    refine ⟨by omega, ?_⟩
    have : (q - n) / n = q / n - 1 := by
      rw [show q - n = q + (-1) * n by omega, Int.add_mul_ediv_right _ _ (by omega)]; omega
    omega
  · have hqn : q = n := by omega
    have hcov : Cov (takeF F b n q) r := by unfold takeF; rw [if_neg hlt]; exact hr
    have hp2 := h'.perm hcov
    rw [sumI_perm hp2, sumD_perm hp2, sumI_perm hp, sumD_perm hp]
    simp only [sumI, sumD, hqn]
    refine ⟨by omega, ?_⟩
    rw [Int.ediv_self (by omega)]; omega
theorem cov_ex {r : Nat} {F : RF} {es : Array MapEntry} {c : Nat} (h : FOk ei ei es c F) : ∃ l, Cov F l := by
  obtain ⟨l, ok, hl⟩ := h
  exact ⟨l, ok.keys, fun k v => by rw [← hl, lkup_mem ok.keys]⟩
theorem sumD_none {n : Int} (hn : 1 ≤ n) : ∀ {l : List (Int × Int)}, (∀ p ∈ l, 0 ≤ p.2 ∧ p.2 < n) → sumD n l = 0 := by
  intro l
  induction l with
  | nil => intro _; rfl
  | cons p l ih =>
    intro h
    simp only [sumD]
    have h1 := h p (by simp)
    rw [Int.ediv_eq_zero_of_lt h1.1 h1.2, ih fun q hq => h q (by simp [hq])]; rfl
theorem sumI_none : ∀ {l : List (Int × Int)}, (∀ p ∈ l, 1 ≤ p.2 ∧ p.2 < 1) → sumI l = 0 := by
  intro l h
  cases l with
  | nil => rfl
  | cons p l => have := h p (by simp); omega
theorem sumD_le {n : Int} (hn : 1 ≤ n) : ∀ {l : List (Int × Int)}, (∀ p ∈ l, 0 ≤ p.2) → 0 ≤ sumD n l ∧ sumD n l ≤ sumI l := by
  intro l
  induction l with
  | nil => intro _; simp [sumD, sumI]
  | cons p l ih =>
    intro h
    simp only [sumD, sumI]
    have h1 := h p (by simp)
    have h2 := ih fun q hq => h q (by simp [hq])
    have h3 := Int.ediv_nonneg h1 (show 0 ≤ n by omega)
    have h4 := Int.ediv_le_self (b := n) h1
    omega
/-- numbers of blocks -/
theorem countP_or {α : Type} {p q : α → Bool} : ∀ {l : List α}, (∀ x ∈ l, ¬ (p x = true ∧ q x = true)) → l.countP (fun x => p x || q x) = l.countP p + l.countP q := by
  intro l
  induction l with
  | nil => intro _; rfl
  | cons x l ih =>
    intro h
    have h1 := h x (by simp)
    have ih := ih fun y hy => h y (by simp [hy])
    rw [List.countP_cons, List.countP_cons, List.countP_cons, ih]
    cases hp : p x <;> cases hq : q x <;> simp_all <;> omega
theorem countP_rng {g s n : Nat} (h : s + n ≤ g) : (List.range g).countP (fun x => decide (s ≤ x ∧ x < s + n)) = n := by
  have key : ∀ g, (List.range g).countP (fun x => decide (s ≤ x ∧ x < s + n)) = min g (s + n) - min g s := by
    intro g
    induction g with
    | zero => simp
    | succ g ih =>
      rw [List.range_succ, List.countP_append, ih, List.countP_cons, List.countP_nil]
      by_cases h1 : s ≤ g ∧ g < s + n
      · rw [decide_eq_true h1]; simp; omega
      · rw [decide_eq_false h1]; simp; omega
  rw [key]; omega
theorem sumI_count {lim : Nat} {F : RF} (ok : RunsOk lim F) : ∀ {l : List (Int × Int)}, Sub F l → sumI l = ((List.range lim).countP (fun (x : Nat) => l.any fun p => decide (p.1 ≤ (x : Int) ∧ (x : Int) < p.1 + p.2)) : Nat) := by
  intro l
  induction l with
  | nil =>
    intro _
    simp [sumI, List.countP_eq_zero]
  | cons p l ih =>
    intro h
    have hn := h.nd
    rw [List.map_cons, List.nodup_cons] at hn
    have ih := ih ⟨hn.2, fun q hq => h.mem q (by simp [hq])⟩
    have hp := h.mem p (by simp)
    have hr := ok.rng _ _ hp
    simp only [List.any_cons]
    rw [countP_or]
    · simp only [sumI]
      obtain ⟨a, ha⟩ := Int.eq_ofNat_of_zero_le (show 0 ≤ p.1 by omega)
      obtain ⟨b, hb⟩ := Int.eq_ofNat_of_zero_le (show 0 ≤ p.2 by omega)
      have e1 : (List.range lim).countP (fun (x : Nat) => decide (p.1 ≤ (x : Int) ∧ (x : Int) < p.1 + p.2)) = b := by
        rw [← countP_rng (g := lim) (s := a) (n := b) (by omega)]
        congr 1; funext x
        rw [decide_eq_decide]; omega
      rw [e1, ih]; omega
    · rintro x _ ⟨h1, h2⟩
      simp only [decide_eq_true_eq, List.any_eq_true] at h1 h2
      obtain ⟨q, hq, h3, h4⟩ := h2
      have hq2 := h.mem q (by simp [hq])
      have hne : p.1 ≠ q.1 := fun e => hn.1 (List.mem_map.2 ⟨q, hq, e.symm⟩)
      rcases Int.lt_or_gt_of_ne hne with hh | hh
      · have := ok.sep _ _ _ _ hp hq2 hh; omega
      · have := ok.sep _ _ _ _ hq2 hp hh; omega
theorem Cov.sub {F : RF} {l : List (Int × Int)} (h : Cov F l) : Sub F l := ⟨h.1, fun p hp => (h.2 p.1 p.2).2 hp⟩
/-- free blocks, told by the headers -/
def nFree (hs : List Hd) (g : Nat) : Nat := (List.range g).countP fun x => decide (1 ≤ x ∧ (hd hs x).1 = 0)
theorem sumI_free {g : Nat} {hs : List Hd} {F : RF} (tie : Tie g hs F) {l : List (Int × Int)} (h : Cov F l) : sumI l = nFree hs g := by
  rw [sumI_count tie.ok h.sub]
  unfold nFree
  congr 1
  refine List.countP_congr fun x hx => ?_
  have hx := List.mem_range.1 hx
  have := tie.fr (x : Int)
  simp only [List.any_eq_true, decide_eq_true_eq, Int.toNat_natCast] at this ⊢
  constructor
  · rintro ⟨p, hp, h1, h2⟩
    have := this.1 ⟨p.1, p.2, (h.2 p.1 p.2).2 hp, h1, h2⟩
    exact ⟨by omega, this.2.2⟩
  · rintro ⟨h1, h2⟩
    obtain ⟨s, q, h3, h4, h5⟩ := this.2 ⟨by omega, by omega, h2⟩
    exact ⟨(s, q), (h.2 s q).1 h3, h4, h5⟩
/-- cells and blocks that are free, of a class: no more than there are cells -/
theorem cells_bound {g : Nat} {hs : List Hd} {U : Nat → Bool} {L : Nat → List Int} (inv : Inv g hs U L) {k : Nat} (hk : k < 32) : (accL L k 4).length + nFree hs g * cn k ≤ (g - 1) * cn k := by
  have hnd := inv.free.nd k hk
  have hmem := inv.free.mem k hk
  have key : ∀ n, n ≤ g → (accL L k 4).countP (fun (y : Int) => decide (y < 512 * (n : Int))) + (List.range n).countP (fun x => decide (1 ≤ x ∧ (hd hs x).1 = 0)) * cn k ≤ (n - 1) * cn k := by
    intro n
    induction n with
    | zero =>
      intro _
      have : (accL L k 4).countP (fun (y : Int) => decide (y < 512 * ((0 : Nat) : Int))) = 0 := by
        rw [List.countP_eq_zero]
        intro y hy
        obtain ⟨x, rfl, _⟩ := (hmem y).1 hy
        simp
      rw [this]; simp
    | succ n ih =>
      intro hn
      have ih := ih (by omega)
      have hsplit : (accL L k 4).countP (fun (y : Int) => decide (y < 512 * ((n + 1 : Nat) : Int))) = (accL L k 4).countP (fun (y : Int) => decide (y < 512 * (n : Int))) + (accL L k 4).countP (fun (y : Int) => decide (512 * (n : Int) ≤ y ∧ y < 512 * ((n + 1 : Nat) : Int))) := by
        rw [← countP_or]
        · congr 1; funext y
          rw [Bool.eq_iff_iff]; simp; omega
        · rintro y _ ⟨h1, h2⟩
          simp only [decide_eq_true_eq] at h1 h2
          omega
      rw [hsplit, List.range_succ, List.countP_append, List.countP_cons, List.countP_nil]
      -- cells in one block
      have hblk : (accL L k 4).countP (fun (y : Int) => decide (512 * (n : Int) ≤ y ∧ y < 512 * ((n + 1 : Nat) : Int))) ≤ cn k := by
        rw [List.countP_eq_length_filter]
        have h1 : (((accL L k 4).filter fun y => decide (512 * (n : Int) ≤ y ∧ y < 512 * ((n + 1 : Nat) : Int))).map fun y => (y.toNat % 512) / cw k).Nodup := by
          refine List.Pairwise.map _ (fun a b hab => ?_) (List.Pairwise.and_mem.1 (hnd.filter _))
          obtain ⟨ha, hb, hab⟩ := hab
          simp only [List.mem_filter, decide_eq_true_eq] at ha hb
          obtain ⟨x, rfl, ⟨b1, i1, g1, g2, g3, g4, rfl⟩, _⟩ := (hmem a).1 ha.1
          obtain ⟨x', rfl, ⟨b2, i2, g1', g2', g3', g4', rfl⟩, _⟩ := (hmem b).1 hb.1
          have r1 := cellN_rng (b := b1) hk g4
          have r2 := cellN_rng (b := b2) hk g4'
          obtain ⟨_, _, t3, _⟩ := cls_tab k hk
          have e1 : b1 = n := by omega
          have e2 : b2 = n := by omega
          subst e1 e2
          have m1 : ∀ i, i < cn k → ((cellN b2 k i : Nat) : Int).toNat % 512 / cw k = i := by
            intro i hi
            have r := cellN_rng (b := b2) hk hi
            rw [Int.toNat_natCast]
            have : cellN b2 k i % 512 = i * cw k := by unfold cellN at r ⊢; omega
            rw [this, Nat.mul_div_cancel _ (by omega)]
          rw [m1 i1 g4, m1 i2 g4']
          intro e; subst e; exact hab rfl
        have := nodup_lt_len (cn k) _ h1 (fun z hz => by
          obtain ⟨y, hy, rfl⟩ := List.mem_map.1 hz
          simp only [List.mem_filter, decide_eq_true_eq] at hy
          obtain ⟨x, rfl, ⟨b1, i1, g1, g2, g3, g4, rfl⟩, _⟩ := (hmem y).1 hy.1
          have r := cellN_rng (b := b1) hk g4
          obtain ⟨_, _, t3, _⟩ := cls_tab k hk
          rw [Int.toNat_natCast]
          have : cellN b1 k i1 % 512 = i1 * cw k := by unfold cellN at r ⊢; omega
          rw [this, Nat.mul_div_cancel _ (by omega)]; exact g4)
        simpa using this
      have hzero : ¬ (1 ≤ n ∧ (hd hs n).1 = 1) → (accL L k 4).countP (fun (y : Int) => decide (512 * (n : Int) ≤ y ∧ y < 512 * ((n + 1 : Nat) : Int))) = 0 := by
        intro hno
        rw [List.countP_eq_zero]
        intro y hy hh
        simp only [decide_eq_true_eq] at hh
        obtain ⟨x, rfl, ⟨b1, i1, g1, g2, g3, g4, rfl⟩, _⟩ := (hmem y).1 hy
        have r1 := cellN_rng (b := b1) hk g4
        obtain ⟨_, _, t3, _⟩ := cls_tab k hk
        have e1 : b1 = n := by omega
        subst e1
        exact hno ⟨g1, by rw [g3]⟩
      by_cases h0 : 1 ≤ n
      · have e : (n + 1 - 1) * cn k = (n - 1) * cn k + cn k := by
          rw [show n + 1 - 1 = (n - 1) + 1 by omega, Nat.add_mul, Nat.one_mul]
        by_cases hf : (hd hs n).1 = 0
        · rw [hzero (by omega), decide_eq_true ⟨h0, hf⟩]
          simp only [if_true, Nat.zero_add, Nat.add_zero]
          rw [Nat.add_mul, Nat.one_mul]; omega
        · rw [decide_eq_false (fun h => hf h.2)]
          simp only [Bool.false_eq_true, if_false, Nat.zero_add, Nat.add_zero]
          omega
      · have : n = 0 := by omega
        subst this
        rw [hzero (by omega)]
        simp only [decide_eq_false (show ¬ (1 ≤ 0 ∧ (hd hs 0).1 = 0) by omega)]
        simpa using ih
  have := key g (by omega)
  have e : (accL L k 4).countP (fun (y : Int) => decide (y < 512 * (g : Int))) = (accL L k 4).length := by
    rw [List.countP_eq_length]
    intro y hy
    obtain ⟨x, rfl, ⟨b1, i1, g1, g2, g3, g4, rfl⟩, _⟩ := (hmem y).1 hy
    have r1 := cellN_rng (b := b1) hk g4
    simp only [decide_eq_true_eq]
    obtain ⟨_, _, t3, _⟩ := cls_tab k hk
    omega
  rw [e] at this
  exact this
end Go.Proofs.YtdgcbapclnnkkaaGreat.X
end
section
/- Printed by a program of this session (gen.py): the functions of the dump over typed primitives, and that they serve for the model's code. No condition. -/
set_option maxRecDepth 100000
set_option linter.unusedVariables false
namespace Go.Proofs.YtdgcbapclnnkkaaGreat.X
open Go
@[reducible] def predict_Object_s0 (k : (Int → K)) (x4 : Int) : K :=
  k x4
@[reducible] def predict_Object_s1 (a : (Option Addr)) (k : (Int → K)) (o_1 : Addr) : K :=
  ldI .i64 (Addr.add o_1 0) fun x31_0 =>
  ldI .i64 (Addr.add o_1 1) fun x31_1 =>
  c_ohead_Object_Blocks (x31_0, x31_1) fun x32 =>
  c_predict_Large a x32 fun x33 =>
  predict_Object_s0 k x33
@[reducible] def predict_Object_s2 (k : (Int → K)) (x4_1 : Int) : K :=
  k x4_1
@[reducible] def predict_Object_s3 (a : (Option Addr)) (k : (Int → K)) (k_1 : Int) : K :=
  c_predict_Small a k_1 fun x29 =>
  predict_Object_s2 k x29
@[reducible] def predict_Object_s4 (a : (Option Addr)) (k : (Int → K)) (o_1 : Addr) (k_1 : Int) (x26 : Bool) : K :=
  brK x26
  (predict_Object_s3 a k k_1)
  (predict_Object_s1 a k o_1)
@[reducible] def predict_Object_s5 (a : (Option Addr)) (k : (Int → K)) (o_1 : Addr) (k_1 : Int) (small : Bool) : K :=
  predict_Object_s4 a k o_1 k_1 small
@[reducible] def predict_Object_s6 (a : (Option Addr)) (k : (Int → K)) (o_1 : Addr) : K :=
  ldI .i64 (Addr.add o_1 0) fun x22_0 =>
  ldI .i64 (Addr.add o_1 1) fun x22_1 =>
  c_ohead_Object_Small (x22_0, x22_1) fun x23 =>
  predict_Object_s5 a k o_1 x23.1 x23.2
@[reducible] def predict_Object_s7 (k : (Int → K)) (x4_2 : Int) : K :=
  k x4_2
@[reducible] def predict_Object_s8 (a : (Option Addr)) (k : (Int → K)) (o_1 : Addr) (x20 : Bool) : K :=
  brK x20
  (predict_Object_s7 k 0)
  (predict_Object_s6 a k o_1)
@[reducible] def predict_Object_s9 (a : (Option Addr)) (k : (Int → K)) (o_1 : Addr) : K :=
  tick fun _ =>
  ldI .i64 (Addr.add o_1 0) fun x7_0 =>
  ldI .i64 (Addr.add o_1 1) fun x7_1 =>
  c_ohead_Object_Size (x7_0, x7_1) fun x8 =>
  brK (x8 == 0)
  (predict_Object_s8 a k o_1 true)
  (ldI .i64 (Addr.add o_1 0) fun x11_0 =>
  ldI .i64 (Addr.add o_1 1) fun x11_1 =>
  nn a fun x14 =>
  ldP (Addr.add x14 0) fun x16 =>
  c_ohead_Object_Size (x11_0, x11_1) fun x12 =>
  chk [.cell (Addr.add x14 0) (.pointer x16)] fun _ =>
  c_bman_Manager_Geometry x16 fun x17 =>
  c_geom_Geometry_Most x17 fun x18 =>
  predict_Object_s8 a k o_1 (decide (x12 > x18)))
@[reducible] def predict_Object (a : (Option Addr)) (o : (Int × Int)) : M Int := fun k =>
  alK (.cells #[.int .i64 o.1, .int .i64 o.2] 68) fun b =>
  predict_Object_s9 a k ⟨b, 0, none⟩
theorem predict_Object_ok (a : (Option Addr)) (o : (Int × Int)) (k : Int → K) (w : World) (hyp_ : predict_Object a o k w) : c_predict_Object a o k w :=
  cl_of (P := Tryz.prog) Tryz.func31 rfl (by kernel_rfl)
  (RefK.seq [(3, .addr)] [0] (fun z_ => [(3, .pointer (some z_.1)), (0, .pointer a)]) (fun z_ => predict_Object_s9 a k z_.1) (by kernel_rfl) (fun _ => by kernel_rfl)
  (RefK.plain [] (by kernel_rfl))
  (fun ⟨o_1, _⟩ => RefK.seq [] [0, 3] (fun z_ => [(0, .pointer a), (3, .pointer (some o_1))]) (fun z_ => predict_Object_s6 a k o_1) (by kernel_rfl) (fun _ => by kernel_rfl)
  (RefK.seq [(20, .bool)] [0, 3] (fun z_ => [(20, .bool z_.1), (0, .pointer a), (3, .pointer (some o_1))]) (fun z_ => predict_Object_s8 a k o_1 z_.1) (by kernel_rfl) (fun _ => by kernel_rfl)
  (RefK.draw [3] [0, 1, 3, 7, 15, 31, 15, 79, 207, 463, 1023, 2047, 4095, 8191] [0, 1, 2, 3, 4, 6, 7, 8, 9, 5, 10, 11, 12, 13] [0, 1, 2, 3, 4, 5, 6, 7, 8, 9, 10, 11, 12, 13] (by kernel_rfl) (by kernel_rfl))
  (fun ⟨x20, _⟩ => RefK.cond (b := x20) (t1 := predict_Object_s7 k 0) (t2 := predict_Object_s6 a k o_1) (by kernel_rfl) (by kernel_rfl) (fun w h => brK_spec w h) (RefK.seq [(4, .int .i64)] [] (fun z_ => [(4, .int .i64 z_.1)]) (fun z_ => predict_Object_s7 k z_.1) (by kernel_rfl) (fun _ => by kernel_rfl)
  (RefK.plain [] (by kernel_rfl))
  (fun ⟨x4_2, _⟩ => RefK.ret (by kernel_rfl))) (RefK.skip (by kernel_rfl))))
  (fun _ => RefK.seq [] [0, 3] (fun z_ => [(0, .pointer a), (3, .pointer (some o_1))]) (fun z_ => predict_Object_s1 a k o_1) (by kernel_rfl) (fun _ => by kernel_rfl)
  (RefK.seq [(5, .int .i64), (6, .bool)] [0, 3] (fun z_ => [(5, .int .i64 z_.1), (6, .bool z_.2.1), (0, .pointer a), (3, .pointer (some o_1))]) (fun z_ => predict_Object_s5 a k o_1 z_.1 z_.2.1) (by kernel_rfl) (fun _ => by kernel_rfl)
  (RefK.plain [] (by kernel_rfl))
  (fun ⟨k_1, small, _⟩ => RefK.seq [(26, .bool)] [0, 3, 5] (fun z_ => [(26, .bool z_.1), (0, .pointer a), (3, .pointer (some o_1)), (5, .int .i64 k_1)]) (fun z_ => predict_Object_s4 a k o_1 k_1 z_.1) (by kernel_rfl) (fun _ => by kernel_rfl)
  (RefK.plain [] (by kernel_rfl))
  (fun ⟨x26, _⟩ => RefK.cond (b := x26) (t1 := predict_Object_s3 a k k_1) (t2 := predict_Object_s1 a k o_1) (by kernel_rfl) (by kernel_rfl) (fun w h => brK_spec w h) (RefK.seq [(4, .int .i64)] [] (fun z_ => [(4, .int .i64 z_.1)]) (fun z_ => predict_Object_s2 k z_.1) (by kernel_rfl) (fun _ => by kernel_rfl)
  (RefK.plain [] (by kernel_rfl))
  (fun ⟨x4_1, _⟩ => RefK.ret (by kernel_rfl))) (RefK.skip (by kernel_rfl)))))
  (fun _ => RefK.seq [(4, .int .i64)] [] (fun z_ => [(4, .int .i64 z_.1)]) (fun z_ => predict_Object_s0 k z_.1) (by kernel_rfl) (fun _ => by kernel_rfl)
  (RefK.plain [] (by kernel_rfl))
  (fun ⟨x4, _⟩ => RefK.ret (by kernel_rfl)))))) hyp_
@[reducible] def predict_Small_s0 (k : (Int → K)) (x4 : Int) : K :=
  k x4
@[reducible] def predict_Small_s1 (a : (Option Addr)) (k_1 : Int) (k : (Int → K)) : K :=
  tick fun _ =>
  nn a fun x13 =>
  ldP (Addr.add x13 0) fun x15 =>
  c_alloc_Allocator_FreeCells a k_1 fun x10 =>
  chk [.cell (Addr.add x13 0) (.pointer x15)] fun _ =>
  c_bman_Manager_FreeBlocks x15 fun x16 =>
  c_class_Cells k_1 fun x18 =>
  predict_Small_s0 k (IntKind.wrap .i64 (((x10.n : Nat) : Int) + (IntKind.wrap .i64 (x16 * x18))))
@[reducible] def predict_Small_s2 (k : (Int → K)) (x4_1 : Int) : K :=
  k x4_1
@[reducible] def predict_Small_s3 (a : (Option Addr)) (k_1 : Int) (k : (Int → K)) (x7 : Bool) : K :=
  brK x7
  (predict_Small_s2 k 0)
  (predict_Small_s1 a k_1 k)
@[reducible] def predict_Small_s4 (a : (Option Addr)) (k_1 : Int) (k : (Int → K)) : K :=
  c_class_Right k_1 fun x6 =>
  predict_Small_s3 a k_1 k (!x6)
@[reducible] def predict_Small (a : (Option Addr)) (k_1 : Int) : M Int := fun k =>
  predict_Small_s4 a k_1 k
theorem predict_Small_ok (a : (Option Addr)) (k_1 : Int) (k : Int → K) (w : World) (hyp_ : predict_Small a k_1 k w) : c_predict_Small a k_1 k w :=
  cl_of (P := Tryz.prog) Tryz.func42 rfl (by kernel_rfl)
  (RefK.seq [] [0, 1] (fun z_ => [(0, .pointer a), (1, .int .i64 k_1)]) (fun z_ => predict_Small_s4 a k_1 k) (by kernel_rfl) (fun _ => by kernel_rfl)
  (RefK.plain [] (by kernel_rfl))
  (fun _ => RefK.seq [] [0, 1] (fun z_ => [(0, .pointer a), (1, .int .i64 k_1)]) (fun z_ => predict_Small_s1 a k_1 k) (by kernel_rfl) (fun _ => by kernel_rfl)
  (RefK.seq [(7, .bool)] [0, 1] (fun z_ => [(7, .bool z_.1), (0, .pointer a), (1, .int .i64 k_1)]) (fun z_ => predict_Small_s3 a k_1 k z_.1) (by kernel_rfl) (fun _ => by kernel_rfl)
  (RefK.plain [] (by kernel_rfl))
  (fun ⟨x7, _⟩ => RefK.cond (b := x7) (t1 := predict_Small_s2 k 0) (t2 := predict_Small_s1 a k_1 k) (by kernel_rfl) (by kernel_rfl) (fun w h => brK_spec w h) (RefK.seq [(4, .int .i64)] [] (fun z_ => [(4, .int .i64 z_.1)]) (fun z_ => predict_Small_s2 k z_.1) (by kernel_rfl) (fun _ => by kernel_rfl)
  (RefK.plain [] (by kernel_rfl))
  (fun ⟨x4_1, _⟩ => RefK.ret (by kernel_rfl))) (RefK.skip (by kernel_rfl))))
  (fun _ => RefK.seq [(4, .int .i64)] [] (fun z_ => [(4, .int .i64 z_.1)]) (fun z_ => predict_Small_s0 k z_.1) (by kernel_rfl) (fun _ => by kernel_rfl)
  (RefK.draw [] [0, 0, 3, 7, 0, 16, 48, 112, 247, 0, 1015, 2039, 4095, 8191] [0, 1, 4, 5, 6, 7, 9, 2, 3, 8, 10, 11, 12, 13] [0, 1, 2, 3, 4, 5, 6, 7, 8, 9, 10, 11, 12, 13] (by kernel_rfl) (by kernel_rfl))
  (fun ⟨x4, _⟩ => RefK.ret (by kernel_rfl))))) hyp_
@[reducible] def predict_Large_s0 (k : (Int → K)) (x4 : Int) : K :=
  k x4
@[reducible] def predict_Large_s1 (k : (Int → K)) (n_1 : Int) : K :=
  predict_Large_s0 k n_1
@[reducible] def predict_Large_s2 (x16_1 : Int) (c : ((Int × Int × Unit) → K)) (n_3 : Int) : K :=
  c (n_3, (IntKind.wrap .i64 (x16_1 + 1)), ())
@[reducible] def predict_Large_s3 (blocks : Int) (n_2 : Int) (x16_1 : Int) (c : ((Int × Int × Unit) → K)) (s : Addr) : K :=
  ldI .i64 (Addr.add s 1) fun x22 =>
  nz blocks <|
  predict_Large_s2 x16_1 c (IntKind.wrap .i64 (n_2 + (IntKind.wrap .i64 (Int.tdiv x22 blocks))))
@[reducible] def predict_Large_s4 (blocks : Int) (x14 : Sl) (n_2 : Int) (x16_1 : Int) (c : ((Int × Int × Unit) → K)) : K :=
  ixS x14.p x14.n x16_1 2 fun x18 =>
  ldI .i64 (Addr.add x18 0) fun x19_0 =>
  ldI .i64 (Addr.add x18 1) fun x19_1 =>
  alK (.cells #[.int .i64 0, .int .i64 0] 152) fun b =>
  stK (Addr.add ⟨b, 0, none⟩ 0) (.int .i64 x19_0) <|
  stK (Addr.add ⟨b, 0, none⟩ 1) (.int .i64 x19_1) <|
  predict_Large_s3 blocks n_2 x16_1 c ⟨b, 0, none⟩
@[reducible] def predict_Large_s5 (blocks : Int) (k : (Int → K)) (x14 : Sl) (n_2 : Int) (x16_1 : Int) (c : ((Int × Int × Unit) → K)) (x17 : Bool) : K :=
  brK x17
  (predict_Large_s4 blocks x14 n_2 x16_1 c)
  (predict_Large_s1 k n_2)
@[reducible] def predict_Large_l6 (blocks : Int) (k : (Int → K)) (x14 : Sl) (x15 : Int) (n_2 : Int) (x16_1 : Int) (c : ((Int × Int × Unit) → K)) : K :=
  predict_Large_s5 blocks k x14 n_2 x16_1 c (decide (x16_1 < x15))
@[reducible] def predict_Large_s7 (blocks : Int) (k : (Int → K)) (n : Int) (x14 : Sl) (x15 : Int) (x16 : Int) : K :=
  lp (fun (z_ : (Int × Int × Unit)) c_ => predict_Large_l6 blocks k x14 x15 z_.1 z_.2.1 c_) (n, x16, ())
@[reducible] def predict_Large_s8 (a : (Option Addr)) (blocks : Int) (k : (Int → K)) (n : Int) : K :=
  nn a fun x11 =>
  ldP (Addr.add x11 0) fun x13 =>
  c_bman_Manager_Runs x13 fun x14_1 =>
  predict_Large_s7 blocks k n x14_1 ((x14_1.n : Nat) : Int) 0
@[reducible] def predict_Large_s9 (k : (Int → K)) (x4_1 : Int) : K :=
  k x4_1
@[reducible] def predict_Large_s10 (a : (Option Addr)) (blocks : Int) (k : (Int → K)) (x9 : Bool) : K :=
  brK x9
  (predict_Large_s9 k 0)
  (predict_Large_s8 a blocks k 0)
@[reducible] def predict_Large (a : (Option Addr)) (blocks : Int) : M Int := fun k =>
  predict_Large_s10 a blocks k (decide (blocks < 1))
theorem predict_Large_ok (a : (Option Addr)) (blocks : Int) (k : Int → K) (w : World) (hyp_ : predict_Large a blocks k w) : c_predict_Large a blocks k w :=
  cl_of (P := Tryz.prog) Tryz.func43 rfl (by kernel_rfl)
  (RefK.seq [] [0, 1] (fun z_ => [(0, .pointer a), (1, .int .i64 blocks)]) (fun z_ => predict_Large_s10 a blocks k (decide (blocks < 1))) (by kernel_rfl) (fun _ => by kernel_rfl)
  (RefK.plain [] (by kernel_rfl))
  (fun _ => RefK.seq [] [0, 1] (fun z_ => [(0, .pointer a), (1, .int .i64 blocks)]) (fun z_ => predict_Large_s8 a blocks k 0) (by kernel_rfl) (fun _ => by kernel_rfl)
  (RefK.seq [(9, .bool)] [0, 1] (fun z_ => [(9, .bool z_.1), (0, .pointer a), (1, .int .i64 blocks)]) (fun z_ => predict_Large_s10 a blocks k z_.1) (by kernel_rfl) (fun _ => by kernel_rfl)
  (RefK.plain [] (by kernel_rfl))
  (fun ⟨x9, _⟩ => RefK.cond (b := x9) (t1 := predict_Large_s9 k 0) (t2 := predict_Large_s8 a blocks k 0) (by kernel_rfl) (by kernel_rfl) (fun w h => brK_spec w h) (RefK.seq [(4, .int .i64)] [] (fun z_ => [(4, .int .i64 z_.1)]) (fun z_ => predict_Large_s9 k z_.1) (by kernel_rfl) (fun _ => by kernel_rfl)
  (RefK.plain [] (by kernel_rfl))
  (fun ⟨x4_1, _⟩ => RefK.ret (by kernel_rfl))) (RefK.skip (by kernel_rfl))))
  (fun _ => RefK.seq [(5, .int .i64)] [0, 1] (fun z_ => [(5, .int .i64 z_.1), (0, .pointer a), (1, .int .i64 blocks)]) (fun z_ => predict_Large_s8 a blocks k z_.1) (by kernel_rfl) (fun _ => by kernel_rfl)
  (RefK.plain [] (by kernel_rfl))
  (fun ⟨n, _⟩ => RefK.seq [(5, .int .i64)] [] (fun z_ => [(5, .int .i64 z_.1)]) (fun z_ => predict_Large_s1 k z_.1) (by kernel_rfl) (fun _ => by kernel_rfl)
  (RefK.seq [(14, .slice), (15, .int .i64), (16, .int .i64)] [1, 5] (fun z_ => [(14, z_.1.v), (15, .int .i64 z_.2.1), (16, .int .i64 z_.2.2.1), (1, .int .i64 blocks), (5, .int .i64 n)]) (fun z_ => predict_Large_s7 blocks k n z_.1 z_.2.1 z_.2.2.1) (by kernel_rfl) (fun _ => by kernel_rfl)
  (RefK.plain [] (by kernel_rfl))
  (fun ⟨x14, x15, x16, _⟩ => RefK.block (RefK.loop [(5, .int .i64), (16, .int .i64)] [1, 14, 15] (fun z_ => [(5, .int .i64 z_.1), (16, .int .i64 z_.2.1), (1, .int .i64 blocks), (14, x14.v), (15, .int .i64 x15)]) (fun (z_ : (Int × Int × Unit)) c_ => predict_Large_l6 blocks k x14 x15 z_.1 z_.2.1 c_) (n, x16, ()) (by kernel_rfl) (fun _ => by kernel_rfl) (by kernel_rfl) (by kernel_rfl)
  (fun ⟨n_2, x16_1, _⟩ c => RefK.seq [(17, .bool)] [1, 5, 14, 15, 16] (fun z_ => [(17, .bool z_.1), (1, .int .i64 blocks), (5, .int .i64 n_2), (14, x14.v), (15, .int .i64 x15), (16, .int .i64 x16_1)]) (fun z_ => predict_Large_s5 blocks k x14 n_2 x16_1 c z_.1) (by kernel_rfl) (fun _ => by kernel_rfl)
  (RefK.plain [] (by kernel_rfl))
  (fun ⟨x17, _⟩ => RefK.seq [] [1, 5, 14, 15, 16] (fun z_ => [(1, .int .i64 blocks), (5, .int .i64 n_2), (14, x14.v), (15, .int .i64 x15), (16, .int .i64 x16_1)]) (fun z_ => predict_Large_s4 blocks x14 n_2 x16_1 c) (by kernel_rfl) (fun _ => by kernel_rfl)
  (RefK.cond (b := x17) (t1 := predict_Large_s4 blocks x14 n_2 x16_1 c) (t2 := predict_Large_s1 k n_2) (by kernel_rfl) (by kernel_rfl) (fun w h => brK_spec w h) (RefK.skip (by kernel_rfl)) (RefK.exit (by kernel_rfl)))
  (fun _ => RefK.seq [(5, .int .i64)] [1, 14, 15, 16] (fun z_ => [(5, .int .i64 z_.1), (1, .int .i64 blocks), (14, x14.v), (15, .int .i64 x15), (16, .int .i64 x16_1)]) (fun z_ => predict_Large_s2 x16_1 c z_.1) (by kernel_rfl) (fun _ => by kernel_rfl)
  (RefK.block (RefK.seq [(7, .addr)] [1, 5, 14, 15, 16] (fun z_ => [(7, .pointer (some z_.1)), (1, .int .i64 blocks), (5, .int .i64 n_2), (14, x14.v), (15, .int .i64 x15), (16, .int .i64 x16_1)]) (fun z_ => predict_Large_s3 blocks n_2 x16_1 c z_.1) (by kernel_rfl) (fun _ => by kernel_rfl)
  (RefK.plain [] (by kernel_rfl))
  (fun ⟨s, _⟩ => RefK.plain [] (by kernel_rfl))))
  (fun ⟨n_3, _⟩ => RefK.plain [] (by kernel_rfl))))))))
  (fun ⟨n_1, _⟩ => RefK.seq [(4, .int .i64)] [] (fun z_ => [(4, .int .i64 z_.1)]) (fun z_ => predict_Large_s0 k z_.1) (by kernel_rfl) (fun _ => by kernel_rfl)
  (RefK.plain [] (by kernel_rfl))
  (fun ⟨x4, _⟩ => RefK.ret (by kernel_rfl))))))) hyp_
end Go.Proofs.YtdgcbapclnnkkaaGreat.X
end
section
/- Printed by a program of this session (gen.py): the functions of the dump over typed primitives, and that they serve for the model's code. No condition. -/
set_option maxRecDepth 100000
set_option linter.unusedVariables false
namespace Go.Proofs.YtdgcbapclnnkkaaGreat.X
open Go
@[reducible] def law29_PredictKeeps_s0 (k : (Bool → K)) (x6 : Bool) : K :=
  k x6
@[reducible] def law29_PredictKeeps_s1 (k : (Bool → K)) (x5 : Addr) (x7 : (Option Addr)) (x14 : Int) : K :=
  brK (x14 == 4)
  (ldI .i64 (Addr.add x5 0) fun x94_0 =>
  ldI .i64 (Addr.add x5 1) fun x94_1 =>
  c_predict_Object x7 (x94_0, x94_1) fun x95 =>
  law29_PredictKeeps_s0 k (x95 == 0))
  (law29_PredictKeeps_s0 k false)
@[reducible] def law29_PredictKeeps_s2 (k : (Bool → K)) (x6_1 : Bool) : K :=
  k x6_1
@[reducible] def law29_PredictKeeps_s3 (k : (Bool → K)) (x9 : Int) (x14 : Int) : K :=
  brK (x9 == 0)
  (law29_PredictKeeps_s2 k (x14 == 5))
  (law29_PredictKeeps_s2 k false)
@[reducible] def law29_PredictKeeps_s4 (k : (Bool → K)) (x5 : Addr) (x7 : (Option Addr)) (x9 : Int) (x14 : Int) (x83 : Bool) : K :=
  brK x83
  (law29_PredictKeeps_s3 k x9 x14)
  (law29_PredictKeeps_s1 k x5 x7 x14)
@[reducible] def law29_PredictKeeps_s5 (k : (Bool → K)) (x5 : Addr) (x7 : (Option Addr)) (x9 : Int) (x14 : Int) (x15 : Addr) : K :=
  tick fun _ =>
  ldI .i64 (Addr.add x15 0) fun x66_0 =>
  ldI .i64 (Addr.add x15 1) fun x66_1 =>
  c_ref08_Size (x66_0, x66_1) fun x67 =>
  brK (x67 == 0)
  (law29_PredictKeeps_s4 k x5 x7 x9 x14 true)
  (ldI .i64 (Addr.add x15 0) fun x70_0 =>
  ldI .i64 (Addr.add x15 1) fun x70_1 =>
  nn x7 fun x73 =>
  ldP (Addr.add x73 0) fun x75 =>
  nn x75 fun x76 =>
  ldP (Addr.add x76 0) fun x78 =>
  c_ref08_Size (x70_0, x70_1) fun x71 =>
  chk [.cell (Addr.add x76 0) (.pointer x78), .cell (Addr.add x73 0) (.pointer x75)] fun _ =>
  c_blocks_Table_Len x78 fun x79 =>
  law29_PredictKeeps_s4 k x5 x7 x9 x14 (decide (x71 > (IntKind.wrap .i64 (512 * (IntKind.wrap .i64 (x79 - 1)))))))
@[reducible] def law29_PredictKeeps_s6 (k : (Bool → K)) (x5 : Addr) (x7 : (Option Addr)) (x9 : Int) (x14 : Int) : K :=
  ldI .i64 (Addr.add x5 0) fun x64_0 =>
  ldI .i64 (Addr.add x5 1) fun x64_1 =>
  c_law08_Ref (x64_0, x64_1) fun x65 =>
  alK (.cells #[.int .i64 0, .int .i64 0] 74) fun b =>
  stK (Addr.add ⟨b, 0, none⟩ 0) (.int .i64 x65.1) <|
  stK (Addr.add ⟨b, 0, none⟩ 1) (.int .i64 x65.2) <|
  law29_PredictKeeps_s5 k x5 x7 x9 x14 ⟨b, 0, none⟩
@[reducible] def law29_PredictKeeps_s7 (k : (Bool → K)) (x5 : Addr) (x7 : (Option Addr)) (x9 : Int) : K :=
  ldI .i64 (Addr.add x5 0) fun x58 =>
  ldI .i64 (Addr.add x5 1) fun x60 =>
  c_alloc_Allocator_Alloc x7 (Int.tmod x9 4) x58 x60 fun x61 =>
  law29_PredictKeeps_s6 k x5 x7 x9 x61.2
@[reducible] def law29_PredictKeeps_s8 (k : (Bool → K)) (x6_2 : Bool) : K :=
  k x6_2
@[reducible] def law29_PredictKeeps_s9 (k : (Bool → K)) (x10_1 : Int) (c : ((Int × Unit) → K)) (x52 : Bool) : K :=
  brK x52
  (law29_PredictKeeps_s8 k false)
  (c ((IntKind.wrap .i64 (x10_1 + 1)), ()))
@[reducible] def law29_PredictKeeps_s10 (k : (Bool → K)) (x10_1 : Int) (c : ((Int × Unit) → K)) (x12 : Int) : K :=
  law29_PredictKeeps_s9 k x10_1 c (x12 != 0)
@[reducible] def law29_PredictKeeps_s11 (k : (Bool → K)) (x5 : Addr) (x7 : (Option Addr)) (x10_1 : Int) (c : ((Int × Unit) → K)) : K :=
  ldI .i64 (Addr.add x5 0) fun x45 =>
  ldI .i64 (Addr.add x5 1) fun x47 =>
  c_alloc_Allocator_Alloc x7 (Int.tmod x10_1 4) x45 x47 fun x48 =>
  law29_PredictKeeps_s10 k x10_1 c x48.2
@[reducible] def law29_PredictKeeps_s12 (k : (Bool → K)) (x5 : Addr) (x7 : (Option Addr)) (x9 : Int) (x10_1 : Int) (c : ((Int × Unit) → K)) (x37 : Bool) : K :=
  brK x37
  (law29_PredictKeeps_s11 k x5 x7 x10_1 c)
  (law29_PredictKeeps_s7 k x5 x7 x9)
@[reducible] def law29_PredictKeeps_l13 (k : (Bool → K)) (x5 : Addr) (x7 : (Option Addr)) (x9 : Int) (x10_1 : Int) (c : ((Int × Unit) → K)) : K :=
  law29_PredictKeeps_s12 k x5 x7 x9 x10_1 c (decide (x10_1 < x9))
@[reducible] def law29_PredictKeeps_s14 (k : (Bool → K)) (x5 : Addr) (x7 : (Option Addr)) (x9 : Int) (x10 : Int) : K :=
  lp (fun (z_ : (Int × Unit)) c_ => law29_PredictKeeps_l13 k x5 x7 x9 z_.1 c_) (x10, ())
@[reducible] def law29_PredictKeeps_s15 (k : (Bool → K)) (x6_3 : Bool) : K :=
  k x6_3
@[reducible] def law29_PredictKeeps_s16 (k : (Bool → K)) (x5 : Addr) (x7 : (Option Addr)) (x9 : Int) (x34 : Bool) : K :=
  brK x34
  (law29_PredictKeeps_s15 k false)
  (law29_PredictKeeps_s14 k x5 x7 x9 0)
@[reducible] def law29_PredictKeeps_s17 (k : (Bool → K)) (x5 : Addr) (x7 : (Option Addr)) (x9 : Int) : K :=
  brK (decide (x9 < 0))
  (law29_PredictKeeps_s16 k x5 x7 x9 true)
  (law29_PredictKeeps_s16 k x5 x7 x9 (decide (x9 > 3000)))
@[reducible] def law29_PredictKeeps_s18 (k : (Bool → K)) (x5 : Addr) (x7 : (Option Addr)) : K :=
  ldI .i64 (Addr.add x5 0) fun x27_0 =>
  ldI .i64 (Addr.add x5 1) fun x27_1 =>
  c_predict_Object x7 (x27_0, x27_1) fun x28 =>
  law29_PredictKeeps_s17 k x5 x7 x28
@[reducible] def law29_PredictKeeps_s19 (k : (Bool → K)) (x6_4 : Bool) : K :=
  k x6_4
@[reducible] def law29_PredictKeeps_s20 (k : (Bool → K)) (x5 : Addr) (x7 : (Option Addr)) (x25 : Bool) : K :=
  brK x25
  (law29_PredictKeeps_s19 k false)
  (law29_PredictKeeps_s18 k x5 x7)
@[reducible] def law29_PredictKeeps_s21 (k : (Bool → K)) (x5 : Addr) (x7 : (Option Addr)) (x8 : Bool) : K :=
  law29_PredictKeeps_s20 k x5 x7 (!x8)
@[reducible] def law29_PredictKeeps_s22 (x0 : Int) (x1 : Sl) (k : (Bool → K)) (x5 : Addr) : K :=
  c_law29_made x0 x1 fun x21 =>
  law29_PredictKeeps_s21 k x5 x21.1 x21.2
@[reducible] def law29_PredictKeeps_s23 (k : (Bool → K)) (x6_5 : Bool) : K :=
  k x6_5
@[reducible] def law29_PredictKeeps_s24 (x0 : Int) (x1 : Sl) (k : (Bool → K)) (x5 : Addr) (x17 : Bool) : K :=
  brK x17
  (law29_PredictKeeps_s23 k false)
  (law29_PredictKeeps_s22 x0 x1 k x5)
@[reducible] def law29_PredictKeeps_s25 (x0 : Int) (x1 : Sl) (k : (Bool → K)) (x5 : Addr) : K :=
  c_law29_awake fun x16 =>
  law29_PredictKeeps_s24 x0 x1 k x5 (!x16)
@[reducible] def law29_PredictKeeps (x0 : Int) (x1 : Sl) (x2 : (Int × Int)) : M Bool := fun k =>
  alK (.cells #[.int .i64 x2.1, .int .i64 x2.2] 68) fun b_1 =>
  law29_PredictKeeps_s25 x0 x1 k ⟨b_1, 0, none⟩
theorem law29_PredictKeeps_ok (x0 : Int) (x1 : Sl) (x2 : (Int × Int)) (k : Bool → K) (w : World) (hyp_ : law29_PredictKeeps x0 x1 x2 k w) : c_law29_PredictKeeps x0 x1 x2 k w :=
  cl_of (P := Tryz.prog) Tryz.func5 rfl (by kernel_rfl)
  (RefK.seq [(5, .addr)] [0, 1] (fun z_ => [(5, .pointer (some z_.1)), (0, .int .u8 x0), (1, x1.v)]) (fun z_ => law29_PredictKeeps_s25 x0 x1 k z_.1) (by kernel_rfl) (fun _ => by kernel_rfl)
  (RefK.plain [] (by kernel_rfl))
  (fun ⟨x5, _⟩ => RefK.seq [] [0, 1, 5] (fun z_ => [(0, .int .u8 x0), (1, x1.v), (5, .pointer (some x5))]) (fun z_ => law29_PredictKeeps_s22 x0 x1 k x5) (by kernel_rfl) (fun _ => by kernel_rfl)
  (RefK.seq [(17, .bool)] [0, 1, 5] (fun z_ => [(17, .bool z_.1), (0, .int .u8 x0), (1, x1.v), (5, .pointer (some x5))]) (fun z_ => law29_PredictKeeps_s24 x0 x1 k x5 z_.1) (by kernel_rfl) (fun _ => by kernel_rfl)
  (RefK.plain [] (by kernel_rfl))
  (fun ⟨x17, _⟩ => RefK.cond (b := x17) (t1 := law29_PredictKeeps_s23 k false) (t2 := law29_PredictKeeps_s22 x0 x1 k x5) (by kernel_rfl) (by kernel_rfl) (fun w h => brK_spec w h) (RefK.seq [(6, .bool)] [] (fun z_ => [(6, .bool z_.1)]) (fun z_ => law29_PredictKeeps_s23 k z_.1) (by kernel_rfl) (fun _ => by kernel_rfl)
  (RefK.plain [] (by kernel_rfl))
  (fun ⟨x6_5, _⟩ => RefK.ret (by kernel_rfl))) (RefK.skip (by kernel_rfl))))
  (fun _ => RefK.seq [(7, .ptr), (8, .bool)] [5] (fun z_ => [(7, .pointer z_.1), (8, .bool z_.2.1), (5, .pointer (some x5))]) (fun z_ => law29_PredictKeeps_s21 k x5 z_.1 z_.2.1) (by kernel_rfl) (fun _ => by kernel_rfl)
  (RefK.plain [] (by kernel_rfl))
  (fun ⟨x7, x8, _⟩ => RefK.seq [] [5, 7] (fun z_ => [(5, .pointer (some x5)), (7, .pointer x7)]) (fun z_ => law29_PredictKeeps_s18 k x5 x7) (by kernel_rfl) (fun _ => by kernel_rfl)
  (RefK.seq [(25, .bool)] [5, 7] (fun z_ => [(25, .bool z_.1), (5, .pointer (some x5)), (7, .pointer x7)]) (fun z_ => law29_PredictKeeps_s20 k x5 x7 z_.1) (by kernel_rfl) (fun _ => by kernel_rfl)
  (RefK.plain [] (by kernel_rfl))
  (fun ⟨x25, _⟩ => RefK.cond (b := x25) (t1 := law29_PredictKeeps_s19 k false) (t2 := law29_PredictKeeps_s18 k x5 x7) (by kernel_rfl) (by kernel_rfl) (fun w h => brK_spec w h) (RefK.seq [(6, .bool)] [] (fun z_ => [(6, .bool z_.1)]) (fun z_ => law29_PredictKeeps_s19 k z_.1) (by kernel_rfl) (fun _ => by kernel_rfl)
  (RefK.plain [] (by kernel_rfl))
  (fun ⟨x6_4, _⟩ => RefK.ret (by kernel_rfl))) (RefK.skip (by kernel_rfl))))
  (fun _ => RefK.seq [(9, .int .i64)] [5, 7] (fun z_ => [(9, .int .i64 z_.1), (5, .pointer (some x5)), (7, .pointer x7)]) (fun z_ => law29_PredictKeeps_s17 k x5 x7 z_.1) (by kernel_rfl) (fun _ => by kernel_rfl)
  (RefK.plain [] (by kernel_rfl))
  (fun ⟨x9, _⟩ => RefK.seq [] [5, 7, 9] (fun z_ => [(5, .pointer (some x5)), (7, .pointer x7), (9, .int .i64 x9)]) (fun z_ => law29_PredictKeeps_s14 k x5 x7 x9 0) (by kernel_rfl) (fun _ => by kernel_rfl)
  (RefK.seq [(34, .bool)] [5, 7, 9] (fun z_ => [(34, .bool z_.1), (5, .pointer (some x5)), (7, .pointer x7), (9, .int .i64 x9)]) (fun z_ => law29_PredictKeeps_s16 k x5 x7 x9 z_.1) (by kernel_rfl) (fun _ => by kernel_rfl)
  (RefK.plain [2] (by kernel_rfl))
  (fun ⟨x34, _⟩ => RefK.cond (b := x34) (t1 := law29_PredictKeeps_s15 k false) (t2 := law29_PredictKeeps_s14 k x5 x7 x9 0) (by kernel_rfl) (by kernel_rfl) (fun w h => brK_spec w h) (RefK.seq [(6, .bool)] [] (fun z_ => [(6, .bool z_.1)]) (fun z_ => law29_PredictKeeps_s15 k z_.1) (by kernel_rfl) (fun _ => by kernel_rfl)
  (RefK.plain [] (by kernel_rfl))
  (fun ⟨x6_3, _⟩ => RefK.ret (by kernel_rfl))) (RefK.skip (by kernel_rfl))))
  (fun _ => RefK.seq [] [5, 7, 9] (fun z_ => [(5, .pointer (some x5)), (7, .pointer x7), (9, .int .i64 x9)]) (fun z_ => law29_PredictKeeps_s7 k x5 x7 x9) (by kernel_rfl) (fun _ => by kernel_rfl)
  (RefK.seq [(10, .int .i64)] [5, 7, 9] (fun z_ => [(10, .int .i64 z_.1), (5, .pointer (some x5)), (7, .pointer x7), (9, .int .i64 x9)]) (fun z_ => law29_PredictKeeps_s14 k x5 x7 x9 z_.1) (by kernel_rfl) (fun _ => by kernel_rfl)
  (RefK.plain [] (by kernel_rfl))
  (fun ⟨x10, _⟩ => RefK.block (RefK.loop [(10, .int .i64)] [5, 7, 9] (fun z_ => [(10, .int .i64 z_.1), (5, .pointer (some x5)), (7, .pointer x7), (9, .int .i64 x9)]) (fun (z_ : (Int × Unit)) c_ => law29_PredictKeeps_l13 k x5 x7 x9 z_.1 c_) (x10, ()) (by kernel_rfl) (fun _ => by kernel_rfl) (by kernel_rfl) (by kernel_rfl)
  (fun ⟨x10_1, _⟩ c => RefK.seq [] [5, 7, 9, 10] (fun z_ => [(5, .pointer (some x5)), (7, .pointer x7), (9, .int .i64 x9), (10, .int .i64 x10_1)]) (fun z_ => law29_PredictKeeps_s11 k x5 x7 x10_1 c) (by kernel_rfl) (fun _ => by kernel_rfl)
  (RefK.seq [(37, .bool)] [5, 7, 9, 10] (fun z_ => [(37, .bool z_.1), (5, .pointer (some x5)), (7, .pointer x7), (9, .int .i64 x9), (10, .int .i64 x10_1)]) (fun z_ => law29_PredictKeeps_s12 k x5 x7 x9 x10_1 c z_.1) (by kernel_rfl) (fun _ => by kernel_rfl)
  (RefK.plain [] (by kernel_rfl))
  (fun ⟨x37, _⟩ => RefK.cond (b := x37) (t1 := law29_PredictKeeps_s11 k x5 x7 x10_1 c) (t2 := law29_PredictKeeps_s7 k x5 x7 x9) (by kernel_rfl) (by kernel_rfl) (fun w h => brK_spec w h) (RefK.skip (by kernel_rfl)) (RefK.exit (by kernel_rfl))))
  (fun _ => RefK.seq [] [5, 7, 9, 10] (fun z_ => [(5, .pointer (some x5)), (7, .pointer x7), (9, .int .i64 x9), (10, .int .i64 x10_1)]) (fun z_ => c ((IntKind.wrap .i64 (x10_1 + 1)), ())) (by kernel_rfl) (fun _ => by kernel_rfl)
  (RefK.block (RefK.seq [(12, .int .i64)] [5, 7, 9, 10] (fun z_ => [(12, .int .i64 z_.1), (5, .pointer (some x5)), (7, .pointer x7), (9, .int .i64 x9), (10, .int .i64 x10_1)]) (fun z_ => law29_PredictKeeps_s10 k x10_1 c z_.1) (by kernel_rfl) (fun _ => by kernel_rfl)
  (RefK.plain [] (by kernel_rfl))
  (fun ⟨x12, _⟩ => RefK.seq [(52, .bool)] [5, 7, 9, 10] (fun z_ => [(52, .bool z_.1), (5, .pointer (some x5)), (7, .pointer x7), (9, .int .i64 x9), (10, .int .i64 x10_1)]) (fun z_ => law29_PredictKeeps_s9 k x10_1 c z_.1) (by kernel_rfl) (fun _ => by kernel_rfl)
  (RefK.plain [] (by kernel_rfl))
  (fun ⟨x52, _⟩ => RefK.cond (b := x52) (t1 := law29_PredictKeeps_s8 k false) (t2 := c ((IntKind.wrap .i64 (x10_1 + 1)), ())) (by kernel_rfl) (by kernel_rfl) (fun w h => brK_spec w h) (RefK.seq [(6, .bool)] [] (fun z_ => [(6, .bool z_.1)]) (fun z_ => law29_PredictKeeps_s8 k z_.1) (by kernel_rfl) (fun _ => by kernel_rfl)
  (RefK.plain [] (by kernel_rfl))
  (fun ⟨x6_2, _⟩ => RefK.ret (by kernel_rfl))) (RefK.skip (by kernel_rfl))))))
  (fun _ => RefK.plain [] (by kernel_rfl)))))))
  (fun _ => RefK.seq [(14, .int .i64)] [5, 7, 9] (fun z_ => [(14, .int .i64 z_.1), (5, .pointer (some x5)), (7, .pointer x7), (9, .int .i64 x9)]) (fun z_ => law29_PredictKeeps_s6 k x5 x7 x9 z_.1) (by kernel_rfl) (fun _ => by kernel_rfl)
  (RefK.plain [] (by kernel_rfl))
  (fun ⟨x14, _⟩ => RefK.seq [(15, .addr)] [5, 7, 9, 14] (fun z_ => [(15, .pointer (some z_.1)), (5, .pointer (some x5)), (7, .pointer x7), (9, .int .i64 x9), (14, .int .i64 x14)]) (fun z_ => law29_PredictKeeps_s5 k x5 x7 x9 x14 z_.1) (by kernel_rfl) (fun _ => by kernel_rfl)
  (RefK.plain [] (by kernel_rfl))
  (fun ⟨x15, _⟩ => RefK.seq [] [5, 7, 14] (fun z_ => [(5, .pointer (some x5)), (7, .pointer x7), (14, .int .i64 x14)]) (fun z_ => law29_PredictKeeps_s1 k x5 x7 x14) (by kernel_rfl) (fun _ => by kernel_rfl)
  (RefK.seq [(83, .bool)] [5, 7, 9, 14] (fun z_ => [(83, .bool z_.1), (5, .pointer (some x5)), (7, .pointer x7), (9, .int .i64 x9), (14, .int .i64 x14)]) (fun z_ => law29_PredictKeeps_s4 k x5 x7 x9 x14 z_.1) (by kernel_rfl) (fun _ => by kernel_rfl)
  (RefK.draw [3] [0, 1, 3, 7, 15, 31, 15, 79, 207, 463, 975, 1999, 4047, 8191, 16383, 32767, 65535, 131071] [0, 1, 2, 3, 4, 6, 7, 8, 9, 10, 11, 12, 5, 13, 14, 15, 16, 17] [0, 1, 2, 3, 4, 5, 6, 7, 8, 9, 10, 11, 12, 13, 14, 15, 16, 17] (by kernel_rfl) (by kernel_rfl))
  (fun ⟨x83, _⟩ => RefK.cond (b := x83) (t1 := law29_PredictKeeps_s3 k x9 x14) (t2 := law29_PredictKeeps_s1 k x5 x7 x14) (by kernel_rfl) (by kernel_rfl) (fun w h => brK_spec w h) (RefK.seq [(6, .bool)] [] (fun z_ => [(6, .bool z_.1)]) (fun z_ => law29_PredictKeeps_s2 k z_.1) (by kernel_rfl) (fun _ => by kernel_rfl)
  (RefK.plain [2] (by kernel_rfl))
  (fun ⟨x6_1, _⟩ => RefK.ret (by kernel_rfl))) (RefK.skip (by kernel_rfl))))
  (fun _ => RefK.seq [(6, .bool)] [] (fun z_ => [(6, .bool z_.1)]) (fun z_ => law29_PredictKeeps_s0 k z_.1) (by kernel_rfl) (fun _ => by kernel_rfl)
  (RefK.plain [2] (by kernel_rfl))
  (fun ⟨x6, _⟩ => RefK.ret (by kernel_rfl))))))))))))) hyp_
@[reducible] def law29_awake_s0 (k : (Bool → K)) (x0 : Bool) : K :=
  k x0
@[reducible] def law29_awake_s1 (k : (Bool → K)) (w_1 : Addr) (ok : Bool) : K :=
  brK ok
  (ldP (Addr.add w_1 0) fun x10 =>
  c_predict_Small x10 31 fun x11 =>
  law29_awake_s0 k (x11 == 2))
  (law29_awake_s0 k false)
@[reducible] def law29_awake_s2 (k : (Bool → K)) : K :=
  c_law20_Begun 2 fun x4 =>
  alK (.cells #[.pointer none, .pointer none, .slice none 0 0] 29) fun b =>
  stK (Addr.add ⟨b, 0, none⟩ 0) (.pointer x4.1.1) <|
  stK (Addr.add ⟨b, 0, none⟩ 1) (.pointer x4.1.2.1) <|
  stK (Addr.add ⟨b, 0, none⟩ 2) (x4.1.2.2.v) <|
  law29_awake_s1 k ⟨b, 0, none⟩ x4.2
@[reducible] def law29_awake : M Bool := fun k =>
  law29_awake_s2 k
theorem law29_awake_ok (k : Bool → K) (w : World) (hyp_ : law29_awake k w) : c_law29_awake k w :=
  cl_of (P := Tryz.prog) Tryz.func29 rfl (by kernel_rfl)
  (RefK.seq [] [] (fun z_ => []) (fun z_ => law29_awake_s2 k) (by kernel_rfl) (fun _ => by kernel_rfl)
  (RefK.plain [] (by kernel_rfl))
  (fun _ => RefK.seq [(1, .addr), (2, .bool)] [] (fun z_ => [(1, .pointer (some z_.1)), (2, .bool z_.2.1)]) (fun z_ => law29_awake_s1 k z_.1 z_.2.1) (by kernel_rfl) (fun _ => by kernel_rfl)
  (RefK.plain [] (by kernel_rfl))
  (fun ⟨w_1, ok, _⟩ => RefK.seq [(0, .bool)] [] (fun z_ => [(0, .bool z_.1)]) (fun z_ => law29_awake_s0 k z_.1) (by kernel_rfl) (fun _ => by kernel_rfl)
  (RefK.plain [1] (by kernel_rfl))
  (fun ⟨x0, _⟩ => RefK.ret (by kernel_rfl))))) hyp_
@[reducible] def law29_made_s0 (k : (((Option Addr) × Bool) → K)) (x4 : (Option Addr)) (x5 : Bool) : K :=
  k (x4, x5)
@[reducible] def law29_made_s1 (k : (((Option Addr) × Bool) → K)) (x6 : Addr) (x7 : Bool) : K :=
  ldP (Addr.add x6 0) fun x80 =>
  law29_made_s0 k x80 x7
@[reducible] def law29_made_s2 (x6 : Addr) (x8_1 : Int) (c : ((Int × Unit) → K)) (x9 : Addr) (x10 : Sl) : K :=
  tick fun _ =>
  ldP (Addr.add x6 0) fun x67 =>
  ldI .i64 (Addr.add x9 1) fun x69 =>
  ldI .i64 (Addr.add x9 2) fun x72 =>
  nz ((x10.n : Nat) : Int) <|
  ixS x10.p x10.n (Int.tmod x72 ((x10.n : Nat) : Int)) 1 fun x76 =>
  ldI .i64 x76 fun x77 =>
  c_alloc_Allocator_Free x67 x69 x77 fun x78 =>
  c ((IntKind.wrap .i64 (x8_1 + 1)), ())
@[reducible] def law29_made_s3 (x6 : Addr) (x8_1 : Int) (c : ((Int × Unit) → K)) (x9 : Addr) (x10 : Sl) (x65 : Bool) : K :=
  brK x65
  (law29_made_s2 x6 x8_1 c x9 x10)
  (c ((IntKind.wrap .i64 (x8_1 + 1)), ()))
@[reducible] def law29_made_s4 (x6 : Addr) (x8_1 : Int) (c : ((Int × Unit) → K)) (x9 : Addr) (x10 : Sl) : K :=
  brK (decide (((x10.n : Nat) : Int) > 0))
  (ldI .i64 (Addr.add x9 2) fun x63 =>
  law29_made_s3 x6 x8_1 c x9 x10 (decide (x63 ≥ 0)))
  (law29_made_s3 x6 x8_1 c x9 x10 false)
@[reducible] def law29_made_s5 (x6 : Addr) (x8_1 : Int) (c : ((Int × Unit) → K)) (x9 : Addr) (x10 : Sl) (x56 : Bool) : K :=
  brK x56
  (law29_made_s4 x6 x8_1 c x9 x10)
  (c ((IntKind.wrap .i64 (x8_1 + 1)), ()))
@[reducible] def law29_made_s6 (x6 : Addr) (x8_1 : Int) (c : ((Int × Unit) → K)) (x9 : Addr) : K :=
  ldP (Addr.add x6 0) fun x44 =>
  ldI .i64 (Addr.add x9 1) fun x46 =>
  ldI .i64 (Addr.add x9 2) fun x48 =>
  ldI .i64 (Addr.add x9 3) fun x52 =>
  c_alloc_Allocator_Alloc x44 x46 (min2I (max2I x48 0) 63) (min2I (max2I x52 0) 1500) fun x55 =>
  c ((IntKind.wrap .i64 (x8_1 + 1)), ())
@[reducible] def law29_made_s7 (x6 : Addr) (x8_1 : Int) (c : ((Int × Unit) → K)) (x9 : Addr) (x10 : Sl) (x40 : Int) (x41 : Bool) : K :=
  brK x41
  (law29_made_s6 x6 x8_1 c x9)
  (law29_made_s5 x6 x8_1 c x9 x10 (x40 == 1))
@[reducible] def law29_made_s8 (x6 : Addr) (x8_1 : Int) (c : ((Int × Unit) → K)) (x9 : Addr) (x10 : Sl) (x40 : Int) : K :=
  law29_made_s7 x6 x8_1 c x9 x10 x40 (x40 == 0)
@[reducible] def law29_made_s9 (x6 : Addr) (x8_1 : Int) (c : ((Int × Unit) → K)) (x9 : Addr) (x10 : Sl) : K :=
  ldI .i64 (Addr.add x9 0) fun x40_1 =>
  law29_made_s8 x6 x8_1 c x9 x10 x40_1
@[reducible] def law29_made_s10 (x6 : Addr) (x8_1 : Int) (c : ((Int × Unit) → K)) (x9 : Addr) : K :=
  ldP (Addr.add x6 0) fun x37 =>
  c_alloc_Allocator_Objects x37 fun x38 =>
  law29_made_s9 x6 x8_1 c x9 x38
@[reducible] def law29_made_s11 (x1 : Sl) (x6 : Addr) (x8_1 : Int) (c : ((Int × Unit) → K)) : K :=
  ixS x1.p x1.n x8_1 4 fun x34 =>
  ldI .i64 (Addr.add x34 0) fun x35_0 =>
  ldI .i64 (Addr.add x34 1) fun x35_1 =>
  ldI .i64 (Addr.add x34 2) fun x35_2 =>
  ldI .i64 (Addr.add x34 3) fun x35_3 =>
  alK (.cells #[.int .i64 0, .int .i64 0, .int .i64 0, .int .i64 0] 137) fun b =>
  stK (Addr.add ⟨b, 0, none⟩ 0) (.int .i64 x35_0) <|
  stK (Addr.add ⟨b, 0, none⟩ 1) (.int .i64 x35_1) <|
  stK (Addr.add ⟨b, 0, none⟩ 2) (.int .i64 x35_2) <|
  stK (Addr.add ⟨b, 0, none⟩ 3) (.int .i64 x35_3) <|
  law29_made_s10 x6 x8_1 c ⟨b, 0, none⟩
@[reducible] def law29_made_s12 (x1 : Sl) (k : (((Option Addr) × Bool) → K)) (x6 : Addr) (x7 : Bool) (x8_1 : Int) (c : ((Int × Unit) → K)) (x29 : Bool) : K :=
  brK x29
  (law29_made_s11 x1 x6 x8_1 c)
  (law29_made_s1 k x6 x7)
@[reducible] def law29_made_l13 (x1 : Sl) (k : (((Option Addr) × Bool) → K)) (x6 : Addr) (x7 : Bool) (x8_1 : Int) (c : ((Int × Unit) → K)) : K :=
  brK x7
  (brK (decide (x8_1 < ((x1.n : Nat) : Int)))
  (law29_made_s12 x1 k x6 x7 x8_1 c (decide (x8_1 < 40)))
  (law29_made_s12 x1 k x6 x7 x8_1 c false))
  (law29_made_s12 x1 k x6 x7 x8_1 c false)
@[reducible] def law29_made_s14 (x1 : Sl) (k : (((Option Addr) × Bool) → K)) (x6 : Addr) (x7 : Bool) (x8 : Int) : K :=
  lp (fun (z_ : (Int × Unit)) c_ => law29_made_l13 x1 k x6 x7 z_.1 c_) (x8, ())
@[reducible] def law29_made_s15 (x1 : Sl) (k : (((Option Addr) × Bool) → K)) (x6 : Addr) (x7 : Bool) : K :=
  law29_made_s14 x1 k x6 x7 0
@[reducible] def law29_made_s16 (x0 : Int) (x1 : Sl) (k : (((Option Addr) × Bool) → K)) : K :=
  c_law20_Begun (IntKind.wrap .i64 (2 + (IntKind.wrap .i64 (Int.tmod x0 7)))) fun x16 =>
  alK (.cells #[.pointer none, .pointer none, .slice none 0 0] 29) fun b_1 =>
  stK (Addr.add ⟨b_1, 0, none⟩ 0) (.pointer x16.1.1) <|
  stK (Addr.add ⟨b_1, 0, none⟩ 1) (.pointer x16.1.2.1) <|
  stK (Addr.add ⟨b_1, 0, none⟩ 2) (x16.1.2.2.v) <|
  law29_made_s15 x1 k ⟨b_1, 0, none⟩ x16.2
@[reducible] def law29_made (x0 : Int) (x1 : Sl) : M ((Option Addr) × Bool) := fun k =>
  law29_made_s16 x0 x1 k
theorem law29_made_ok (x0 : Int) (x1 : Sl) (k : ((Option Addr) × Bool) → K) (w : World) (hyp_ : law29_made x0 x1 k w) : c_law29_made x0 x1 k w :=
  cl_of (P := Tryz.prog) Tryz.func30 rfl (by kernel_rfl)
  (RefK.seq [] [0, 1] (fun z_ => [(0, .int .u8 x0), (1, x1.v)]) (fun z_ => law29_made_s16 x0 x1 k) (by kernel_rfl) (fun _ => by kernel_rfl)
  (RefK.plain [] (by kernel_rfl))
  (fun _ => RefK.seq [(6, .addr), (7, .bool)] [1] (fun z_ => [(6, .pointer (some z_.1)), (7, .bool z_.2.1), (1, x1.v)]) (fun z_ => law29_made_s15 x1 k z_.1 z_.2.1) (by kernel_rfl) (fun _ => by kernel_rfl)
  (RefK.plain [] (by kernel_rfl))
  (fun ⟨x6, x7, _⟩ => RefK.seq [] [6, 7] (fun z_ => [(6, .pointer (some x6)), (7, .bool x7)]) (fun z_ => law29_made_s1 k x6 x7) (by kernel_rfl) (fun _ => by kernel_rfl)
  (RefK.seq [(8, .int .i64)] [1, 6, 7] (fun z_ => [(8, .int .i64 z_.1), (1, x1.v), (6, .pointer (some x6)), (7, .bool x7)]) (fun z_ => law29_made_s14 x1 k x6 x7 z_.1) (by kernel_rfl) (fun _ => by kernel_rfl)
  (RefK.plain [] (by kernel_rfl))
  (fun ⟨x8, _⟩ => RefK.block (RefK.loop [(8, .int .i64)] [1, 6, 7] (fun z_ => [(8, .int .i64 z_.1), (1, x1.v), (6, .pointer (some x6)), (7, .bool x7)]) (fun (z_ : (Int × Unit)) c_ => law29_made_l13 x1 k x6 x7 z_.1 c_) (x8, ()) (by kernel_rfl) (fun _ => by kernel_rfl) (by kernel_rfl) (by kernel_rfl)
  (fun ⟨x8_1, _⟩ c => RefK.seq [] [1, 6, 7, 8] (fun z_ => [(1, x1.v), (6, .pointer (some x6)), (7, .bool x7), (8, .int .i64 x8_1)]) (fun z_ => law29_made_s11 x1 x6 x8_1 c) (by kernel_rfl) (fun _ => by kernel_rfl)
  (RefK.seq [(29, .bool)] [1, 6, 7, 8] (fun z_ => [(29, .bool z_.1), (1, x1.v), (6, .pointer (some x6)), (7, .bool x7), (8, .int .i64 x8_1)]) (fun z_ => law29_made_s12 x1 k x6 x7 x8_1 c z_.1) (by kernel_rfl) (fun _ => by kernel_rfl)
  (RefK.plain [1, 7] (by kernel_rfl))
  (fun ⟨x29, _⟩ => RefK.cond (b := x29) (t1 := law29_made_s11 x1 x6 x8_1 c) (t2 := law29_made_s1 k x6 x7) (by kernel_rfl) (by kernel_rfl) (fun w h => brK_spec w h) (RefK.skip (by kernel_rfl)) (RefK.exit (by kernel_rfl))))
  (fun _ => RefK.seq [] [1, 6, 7, 8] (fun z_ => [(1, x1.v), (6, .pointer (some x6)), (7, .bool x7), (8, .int .i64 x8_1)]) (fun z_ => c ((IntKind.wrap .i64 (x8_1 + 1)), ())) (by kernel_rfl) (fun _ => by kernel_rfl)
  (RefK.block (RefK.seq [(9, .addr)] [1, 6, 7, 8] (fun z_ => [(9, .pointer (some z_.1)), (1, x1.v), (6, .pointer (some x6)), (7, .bool x7), (8, .int .i64 x8_1)]) (fun z_ => law29_made_s10 x6 x8_1 c z_.1) (by kernel_rfl) (fun _ => by kernel_rfl)
  (RefK.plain [] (by kernel_rfl))
  (fun ⟨x9, _⟩ => RefK.seq [(10, .slice)] [1, 6, 7, 8, 9] (fun z_ => [(10, z_.1.v), (1, x1.v), (6, .pointer (some x6)), (7, .bool x7), (8, .int .i64 x8_1), (9, .pointer (some x9))]) (fun z_ => law29_made_s9 x6 x8_1 c x9 z_.1) (by kernel_rfl) (fun _ => by kernel_rfl)
  (RefK.plain [] (by kernel_rfl))
  (fun ⟨x10, _⟩ => RefK.seq [(40, .int .i64)] [1, 6, 7, 8, 9, 10] (fun z_ => [(40, .int .i64 z_.1), (1, x1.v), (6, .pointer (some x6)), (7, .bool x7), (8, .int .i64 x8_1), (9, .pointer (some x9)), (10, x10.v)]) (fun z_ => law29_made_s8 x6 x8_1 c x9 x10 z_.1) (by kernel_rfl) (fun _ => by kernel_rfl)
  (RefK.plain [] (by kernel_rfl))
  (fun ⟨x40, _⟩ => RefK.block (RefK.seq [(41, .bool)] [1, 6, 7, 8, 9, 10, 40] (fun z_ => [(41, .bool z_.1), (1, x1.v), (6, .pointer (some x6)), (7, .bool x7), (8, .int .i64 x8_1), (9, .pointer (some x9)), (10, x10.v), (40, .int .i64 x40)]) (fun z_ => law29_made_s7 x6 x8_1 c x9 x10 x40 z_.1) (by kernel_rfl) (fun _ => by kernel_rfl)
  (RefK.plain [] (by kernel_rfl))
  (fun ⟨x41, _⟩ => RefK.cond (b := x41) (t1 := law29_made_s6 x6 x8_1 c x9) (t2 := law29_made_s5 x6 x8_1 c x9 x10 (x40 == 1)) (by kernel_rfl) (by kernel_rfl) (fun w h => brK_spec w h) (RefK.plain [] (by kernel_rfl)) (RefK.seq [(56, .bool)] [1, 6, 7, 8, 9, 10] (fun z_ => [(56, .bool z_.1), (1, x1.v), (6, .pointer (some x6)), (7, .bool x7), (8, .int .i64 x8_1), (9, .pointer (some x9)), (10, x10.v)]) (fun z_ => law29_made_s5 x6 x8_1 c x9 x10 z_.1) (by kernel_rfl) (fun _ => by kernel_rfl)
  (RefK.plain [] (by kernel_rfl))
  (fun ⟨x56, _⟩ => RefK.cond (b := x56) (t1 := law29_made_s4 x6 x8_1 c x9 x10) (t2 := c ((IntKind.wrap .i64 (x8_1 + 1)), ())) (by kernel_rfl) (by kernel_rfl) (fun w h => brK_spec w h) (RefK.seq [(65, .bool)] [1, 6, 7, 8, 9, 10] (fun z_ => [(65, .bool z_.1), (1, x1.v), (6, .pointer (some x6)), (7, .bool x7), (8, .int .i64 x8_1), (9, .pointer (some x9)), (10, x10.v)]) (fun z_ => law29_made_s3 x6 x8_1 c x9 x10 z_.1) (by kernel_rfl) (fun _ => by kernel_rfl)
  (RefK.plain [3] (by kernel_rfl))
  (fun ⟨x65, _⟩ => RefK.cond (b := x65) (t1 := law29_made_s2 x6 x8_1 c x9 x10) (t2 := c ((IntKind.wrap .i64 (x8_1 + 1)), ())) (by kernel_rfl) (by kernel_rfl) (fun w h => brK_spec w h) (RefK.draw [] [0, 1, 0, 4, 0, 0, 32, 0, 128, 480, 1008, 2032, 4095] [0, 1, 2, 3, 4, 5, 6, 7, 8, 9, 10, 11, 12] [0, 1, 2, 3, 4, 5, 6, 7, 8, 9, 10, 11, 12] (by kernel_rfl) (by kernel_rfl)) (RefK.skip (by kernel_rfl)))) (RefK.skip (by kernel_rfl)))))))))))
  (fun _ => RefK.plain [] (by kernel_rfl)))))))
  (fun _ => RefK.seq [(4, .ptr), (5, .bool)] [] (fun z_ => [(4, .pointer z_.1), (5, .bool z_.2.1)]) (fun z_ => law29_made_s0 k z_.1 z_.2.1) (by kernel_rfl) (fun _ => by kernel_rfl)
  (RefK.plain [] (by kernel_rfl))
  (fun ⟨x4, x5, _⟩ => RefK.ret (by kernel_rfl)))))) hyp_
@[reducible] def law08_Ref_s0 (k : ((Int × Int) → K)) (x2 : Addr) : K :=
  ldI .i64 (Addr.add x2 0) fun x2_0 =>
  ldI .i64 (Addr.add x2 1) fun x2_1 =>
  k (x2_0, x2_1)
@[reducible] def law08_Ref_s1 (k : ((Int × Int) → K)) (o_1 : Addr) (x2 : Addr) : K :=
  ldI .i64 (Addr.add o_1 0) fun x4 =>
  ldI .i64 (Addr.add o_1 1) fun x6 =>
  stK (Addr.add x2 0) (.int .i64 x4) <|
  stK (Addr.add x2 1) (.int .i64 x6) <|
  law08_Ref_s0 k x2
@[reducible] def law08_Ref (o : (Int × Int)) : M (Int × Int) := fun k =>
  alK (.cells #[.int .i64 o.1, .int .i64 o.2] 68) fun b =>
  alK (.cells #[.int .i64 0, .int .i64 0] 74) fun b_1 =>
  law08_Ref_s1 k ⟨b, 0, none⟩ ⟨b_1, 0, none⟩
theorem law08_Ref_ok (o : (Int × Int)) (k : (Int × Int) → K) (w : World) (hyp_ : law08_Ref o k w) : c_law08_Ref o k w :=
  cl_of (P := Tryz.prog) Tryz.func33 rfl (by kernel_rfl)
  (RefK.seq [(1, .addr), (2, .addr)] [] (fun z_ => [(1, .pointer (some z_.1)), (2, .pointer (some z_.2.1))]) (fun z_ => law08_Ref_s1 k z_.1 z_.2.1) (by kernel_rfl) (fun _ => by kernel_rfl)
  (RefK.plain [] (by kernel_rfl))
  (fun ⟨o_1, x2, _⟩ => RefK.seq [] [2] (fun z_ => [(2, .pointer (some x2))]) (fun z_ => law08_Ref_s0 k x2) (by kernel_rfl) (fun _ => by kernel_rfl)
  (RefK.plain [] (by kernel_rfl))
  (fun _ => RefK.ret (by kernel_rfl)))) hyp_
@[reducible] def law20_Begun_s0 (k : ((((Option Addr) × ((Option Addr) × Sl)) × Bool) → K)) (x2 : Addr) (x3 : Bool) : K :=
  ldP (Addr.add x2 0) fun x2_0 =>
  ldP (Addr.add x2 1) fun x2_1 =>
  ldS (Addr.add x2 2) fun x2_2 =>
  k ((x2_0, (x2_1, x2_2)), x3)
@[reducible] def law20_Begun_s1 (k : ((((Option Addr) × ((Option Addr) × Sl)) × Bool) → K)) (x2 : Addr) (d : (Option Addr)) (e_1 : Int) (a : (Option Addr)) : K :=
  tick fun _ =>
  brK (e_1 == 0)
  (brK (!(Option.isNone a))
  (nn a fun x53 =>
  ldP (Addr.add x53 0) fun x55 =>
  stK (Addr.add x2 0) (.pointer a) <|
  stK (Addr.add x2 1) (.pointer d) <|
  stK (Addr.add x2 2) (.slice none 0 0) <|
  chk [.cell (Addr.add x53 0) (.pointer x55)] fun _ =>
  law20_Begun_s0 k x2 (!(Option.isNone x55)))
  (stK (Addr.add x2 0) (.pointer a) <|
  stK (Addr.add x2 1) (.pointer d) <|
  stK (Addr.add x2 2) (.slice none 0 0) <|
  law20_Begun_s0 k x2 false))
  (stK (Addr.add x2 0) (.pointer a) <|
  stK (Addr.add x2 1) (.pointer d) <|
  stK (Addr.add x2 2) (.slice none 0 0) <|
  law20_Begun_s0 k x2 false)
@[reducible] def law20_Begun_s2 (k : ((((Option Addr) × ((Option Addr) × Sl)) × Bool) → K)) (x2 : Addr) (d : (Option Addr)) (m : (Option Addr)) : K :=
  c_alloc_New d m ⟨none, 0, 0⟩ fun x39 =>
  law20_Begun_s1 k x2 d x39.2 x39.1
@[reducible] def law20_Begun_s3 (k : ((((Option Addr) × ((Option Addr) × Sl)) × Bool) → K)) (x2 : Addr) (x3_1 : Bool) : K :=
  ldP (Addr.add x2 0) fun x2_0_1 =>
  ldP (Addr.add x2 1) fun x2_1_1 =>
  ldS (Addr.add x2 2) fun x2_2_1 =>
  k ((x2_0_1, (x2_1_1, x2_2_1)), x3_1)
@[reducible] def law20_Begun_s4 (k : ((((Option Addr) × ((Option Addr) × Sl)) × Bool) → K)) (x2 : Addr) : K :=
  stK (Addr.add x2 0) (.pointer none) <|
  stK (Addr.add x2 1) (.pointer none) <|
  stK (Addr.add x2 2) (.slice none 0 0) <|
  law20_Begun_s3 k x2 false
@[reducible] def law20_Begun_s5 (k : ((((Option Addr) × ((Option Addr) × Sl)) × Bool) → K)) (x2 : Addr) (d : (Option Addr)) (m : (Option Addr)) (x34 : Bool) : K :=
  brK x34
  (law20_Begun_s4 k x2)
  (law20_Begun_s2 k x2 d m)
@[reducible] def law20_Begun_s6 (k : ((((Option Addr) × ((Option Addr) × Sl)) × Bool) → K)) (x2 : Addr) (d : (Option Addr)) (m : (Option Addr)) (e : Int) : K :=
  brK (e != 0)
  (law20_Begun_s5 k x2 d m true)
  (law20_Begun_s5 k x2 d m (Option.isNone m))
@[reducible] def law20_Begun_s7 (k : ((((Option Addr) × ((Option Addr) × Sl)) × Bool) → K)) (x2 : Addr) (g : Addr) (d : (Option Addr)) : K :=
  ldI .i64 (Addr.add g 0) fun x25_0 =>
  c_bman_Open d x25_0 fun x26 =>
  law20_Begun_s6 k x2 d x26.1 x26.2
@[reducible] def law20_Begun_s8 (k : ((((Option Addr) × ((Option Addr) × Sl)) × Bool) → K)) (x2 : Addr) (x3_2 : Bool) : K :=
  ldP (Addr.add x2 0) fun x2_0_2 =>
  ldP (Addr.add x2 1) fun x2_1_2 =>
  ldS (Addr.add x2 2) fun x2_2_2 =>
  k ((x2_0_2, (x2_1_2, x2_2_2)), x3_2)
@[reducible] def law20_Begun_s9 (k : ((((Option Addr) × ((Option Addr) × Sl)) × Bool) → K)) (x2 : Addr) : K :=
  stK (Addr.add x2 0) (.pointer none) <|
  stK (Addr.add x2 1) (.pointer none) <|
  stK (Addr.add x2 2) (.slice none 0 0) <|
  law20_Begun_s8 k x2 false
@[reducible] def law20_Begun_s10 (k : ((((Option Addr) × ((Option Addr) × Sl)) × Bool) → K)) (x2 : Addr) (g : Addr) (d : (Option Addr)) (x21 : Bool) : K :=
  brK x21
  (law20_Begun_s9 k x2)
  (law20_Begun_s7 k x2 g d)
@[reducible] def law20_Begun_s11 (k : ((((Option Addr) × ((Option Addr) × Sl)) × Bool) → K)) (x2 : Addr) (g : Addr) (d : (Option Addr)) : K :=
  brK (Option.isNone d)
  (law20_Begun_s10 k x2 g d true)
  (ldI .i64 (Addr.add g 0) fun x18_0 =>
  c_blocks_Format d x18_0 fun x19 =>
  law20_Begun_s10 k x2 g d (x19 != 0))
@[reducible] def law20_Begun_s12 (k : ((((Option Addr) × ((Option Addr) × Sl)) × Bool) → K)) (x2 : Addr) (g : Addr) : K :=
  ldI .i64 (Addr.add g 0) fun x11_0 =>
  c_geom_Geometry_Words x11_0 fun x12 =>
  c_nvm_New x12 fun x13 =>
  law20_Begun_s11 k x2 g x13
@[reducible] def law20_Begun_s13 (n : Int) (k : ((((Option Addr) × ((Option Addr) × Sl)) × Bool) → K)) (x2 : Addr) : K :=
  alK (.cells #[.int .i64 0] 43) fun b =>
  stK (Addr.add ⟨b, 0, none⟩ 0) (.int .i64 n) <|
  law20_Begun_s12 k x2 ⟨b, 0, none⟩
@[reducible] def law20_Begun (n : Int) : M (((Option Addr) × ((Option Addr) × Sl)) × Bool) := fun k =>
  alK (.cells #[.pointer none, .pointer none, .slice none 0 0] 29) fun b_1 =>
  law20_Begun_s13 n k ⟨b_1, 0, none⟩
theorem law20_Begun_ok (n : Int) (k : (((Option Addr) × ((Option Addr) × Sl)) × Bool) → K) (w : World) (hyp_ : law20_Begun n k w) : c_law20_Begun n k w :=
  cl_of (P := Tryz.prog) Tryz.func59 rfl (by kernel_rfl)
  (RefK.seq [(2, .addr)] [0] (fun z_ => [(2, .pointer (some z_.1)), (0, .int .i64 n)]) (fun z_ => law20_Begun_s13 n k z_.1) (by kernel_rfl) (fun _ => by kernel_rfl)
  (RefK.plain [] (by kernel_rfl))
  (fun ⟨x2, _⟩ => RefK.seq [(4, .addr)] [2] (fun z_ => [(4, .pointer (some z_.1)), (2, .pointer (some x2))]) (fun z_ => law20_Begun_s12 k x2 z_.1) (by kernel_rfl) (fun _ => by kernel_rfl)
  (RefK.plain [] (by kernel_rfl))
  (fun ⟨g, _⟩ => RefK.seq [(5, .ptr)] [2, 4] (fun z_ => [(5, .pointer z_.1), (2, .pointer (some x2)), (4, .pointer (some g))]) (fun z_ => law20_Begun_s11 k x2 g z_.1) (by kernel_rfl) (fun _ => by kernel_rfl)
  (RefK.plain [] (by kernel_rfl))
  (fun ⟨d, _⟩ => RefK.seq [] [2, 4, 5] (fun z_ => [(2, .pointer (some x2)), (4, .pointer (some g)), (5, .pointer d)]) (fun z_ => law20_Begun_s7 k x2 g d) (by kernel_rfl) (fun _ => by kernel_rfl)
  (RefK.seq [(21, .bool)] [2, 4, 5] (fun z_ => [(21, .bool z_.1), (2, .pointer (some x2)), (4, .pointer (some g)), (5, .pointer d)]) (fun z_ => law20_Begun_s10 k x2 g d z_.1) (by kernel_rfl) (fun _ => by kernel_rfl)
  (RefK.plain [2] (by kernel_rfl))
  (fun ⟨x21, _⟩ => RefK.cond (b := x21) (t1 := law20_Begun_s9 k x2) (t2 := law20_Begun_s7 k x2 g d) (by kernel_rfl) (by kernel_rfl) (fun w h => brK_spec w h) (RefK.seq [(3, .bool)] [2] (fun z_ => [(3, .bool z_.1), (2, .pointer (some x2))]) (fun z_ => law20_Begun_s8 k x2 z_.1) (by kernel_rfl) (fun _ => by kernel_rfl)
  (RefK.plain [] (by kernel_rfl))
  (fun ⟨x3_2, _⟩ => RefK.ret (by kernel_rfl))) (RefK.skip (by kernel_rfl))))
  (fun _ => RefK.seq [(6, .ptr), (7, .int .i64)] [2, 5] (fun z_ => [(6, .pointer z_.1), (7, .int .i64 z_.2.1), (2, .pointer (some x2)), (5, .pointer d)]) (fun z_ => law20_Begun_s6 k x2 d z_.1 z_.2.1) (by kernel_rfl) (fun _ => by kernel_rfl)
  (RefK.plain [] (by kernel_rfl))
  (fun ⟨m, e, _⟩ => RefK.seq [] [2, 5, 6] (fun z_ => [(2, .pointer (some x2)), (5, .pointer d), (6, .pointer m)]) (fun z_ => law20_Begun_s2 k x2 d m) (by kernel_rfl) (fun _ => by kernel_rfl)
  (RefK.seq [(34, .bool)] [2, 5, 6] (fun z_ => [(34, .bool z_.1), (2, .pointer (some x2)), (5, .pointer d), (6, .pointer m)]) (fun z_ => law20_Begun_s5 k x2 d m z_.1) (by kernel_rfl) (fun _ => by kernel_rfl)
  (RefK.plain [2] (by kernel_rfl))
  (fun ⟨x34, _⟩ => RefK.cond (b := x34) (t1 := law20_Begun_s4 k x2) (t2 := law20_Begun_s2 k x2 d m) (by kernel_rfl) (by kernel_rfl) (fun w h => brK_spec w h) (RefK.seq [(3, .bool)] [2] (fun z_ => [(3, .bool z_.1), (2, .pointer (some x2))]) (fun z_ => law20_Begun_s3 k x2 z_.1) (by kernel_rfl) (fun _ => by kernel_rfl)
  (RefK.plain [] (by kernel_rfl))
  (fun ⟨x3_1, _⟩ => RefK.ret (by kernel_rfl))) (RefK.skip (by kernel_rfl))))
  (fun _ => RefK.seq [(7, .int .i64), (8, .ptr)] [2, 5] (fun z_ => [(7, .int .i64 z_.1), (8, .pointer z_.2.1), (2, .pointer (some x2)), (5, .pointer d)]) (fun z_ => law20_Begun_s1 k x2 d z_.1 z_.2.1) (by kernel_rfl) (fun _ => by kernel_rfl)
  (RefK.plain [] (by kernel_rfl))
  (fun ⟨e_1, a, _⟩ => RefK.seq [(3, .bool)] [2] (fun z_ => [(3, .bool z_.1), (2, .pointer (some x2))]) (fun z_ => law20_Begun_s0 k x2 z_.1) (by kernel_rfl) (fun _ => by kernel_rfl)
  (RefK.draw [5, 9] [0, 0, 3, 0, 8, 24, 56, 120, 248, 504, 1016, 2040, 4088, 8184, 16376, 32760, 1023, 131071] [0, 1, 2, 3, 4, 5, 6, 7, 8, 9, 10, 11, 12, 13, 14, 15, 16, 17] [0, 1, 2, 3, 4, 5, 6, 7, 8, 9, 16, 10, 11, 12, 13, 14, 15, 17] (by kernel_rfl) (by kernel_rfl))
  (fun ⟨x3, _⟩ => RefK.ret (by kernel_rfl)))))))))) hyp_
end Go.Proofs.YtdgcbapclnnkkaaGreat.X
end
section
/- Printed by a program of this session (gen.py): the functions of the dump over typed primitives, and that they serve for the model's code. No condition. -/
set_option maxRecDepth 100000
set_option linter.unusedVariables false
namespace Go.Proofs.YtdgcbapclnnkkaaGreat.X
open Go
@[reducible] def ref08_Size_s0 (k : (Int → K)) (x2 : Int) : K :=
  k x2
@[reducible] def ref08_Size_s1 (k : (Int → K)) (o_1 : Addr) : K :=
  ldI .i64 (Addr.add o_1 0) fun x22 =>
  ldI .i64 (Addr.add o_1 1) fun x25 =>
  ref08_Size_s0 k (IntKind.wrap .i64 ((IntKind.wrap .i64 (1 + x22)) + x25))
@[reducible] def ref08_Size_s2 (k : (Int → K)) (x2_1 : Int) : K :=
  k x2_1
@[reducible] def ref08_Size_s3 (k : (Int → K)) (o_1 : Addr) (x20 : Bool) : K :=
  brK x20
  (ref08_Size_s2 k 0)
  (ref08_Size_s1 k o_1)
@[reducible] def ref08_Size_s4 (k : (Int → K)) (o_1 : Addr) : K :=
  ldI .i64 (Addr.add o_1 0) fun x4 =>
  brK (decide (x4 < 0))
  (ref08_Size_s3 k o_1 true)
  (ldI .i64 (Addr.add o_1 0) fun x8 =>
  brK (decide (x8 > 63))
  (ref08_Size_s3 k o_1 true)
  (ldI .i64 (Addr.add o_1 1) fun x13 =>
  brK (decide (x13 < 0))
  (ref08_Size_s3 k o_1 true)
  (ldI .i64 (Addr.add o_1 1) fun x18 =>
  ref08_Size_s3 k o_1 (decide (x18 > 16384)))))
@[reducible] def ref08_Size (o : (Int × Int)) : M Int := fun k =>
  alK (.cells #[.int .i64 o.1, .int .i64 o.2] 74) fun b =>
  ref08_Size_s4 k ⟨b, 0, none⟩
theorem ref08_Size_ok (o : (Int × Int)) (k : Int → K) (w : World) (hyp_ : ref08_Size o k w) : c_ref08_Size o k w :=
  cl_of (P := Tryz.prog) Tryz.func34 rfl (by kernel_rfl)
  (RefK.seq [(1, .addr)] [] (fun z_ => [(1, .pointer (some z_.1))]) (fun z_ => ref08_Size_s4 k z_.1) (by kernel_rfl) (fun _ => by kernel_rfl)
  (RefK.plain [] (by kernel_rfl))
  (fun ⟨o_1, _⟩ => RefK.seq [] [1] (fun z_ => [(1, .pointer (some o_1))]) (fun z_ => ref08_Size_s1 k o_1) (by kernel_rfl) (fun _ => by kernel_rfl)
  (RefK.seq [(20, .bool)] [1] (fun z_ => [(20, .bool z_.1), (1, .pointer (some o_1))]) (fun z_ => ref08_Size_s3 k o_1 z_.1) (by kernel_rfl) (fun _ => by kernel_rfl)
  (RefK.plain [3, 8, 13] (by kernel_rfl))
  (fun ⟨x20, _⟩ => RefK.cond (b := x20) (t1 := ref08_Size_s2 k 0) (t2 := ref08_Size_s1 k o_1) (by kernel_rfl) (by kernel_rfl) (fun w h => brK_spec w h) (RefK.seq [(2, .int .i64)] [] (fun z_ => [(2, .int .i64 z_.1)]) (fun z_ => ref08_Size_s2 k z_.1) (by kernel_rfl) (fun _ => by kernel_rfl)
  (RefK.plain [] (by kernel_rfl))
  (fun ⟨x2_1, _⟩ => RefK.ret (by kernel_rfl))) (RefK.skip (by kernel_rfl))))
  (fun _ => RefK.seq [(2, .int .i64)] [] (fun z_ => [(2, .int .i64 z_.1)]) (fun z_ => ref08_Size_s0 k z_.1) (by kernel_rfl) (fun _ => by kernel_rfl)
  (RefK.plain [] (by kernel_rfl))
  (fun ⟨x2, _⟩ => RefK.ret (by kernel_rfl))))) hyp_
end Go.Proofs.YtdgcbapclnnkkaaGreat.X
end
section
/- Contracts: how often there will be room. Conditions: at most 2^20 blocks; the device goes on. -/
set_option linter.unusedVariables false
set_option maxRecDepth 4000
set_option maxHeartbeats 1000000
namespace Go.Proofs.YtdgcbapclnnkkaaGreat.X
open Go
def fits (g : Nat) (o : Ob) : Prop := oSize o ≠ 0 ∧ oSize o ≤ ((g : Int) - 1) * 512
instance (g : Nat) (o : Ob) : Decidable (fits g o) := by unfold fits; infer_instance
def kN (o : Ob) : Nat := (kOf (oSize o)).1.toNat
def valS (L : Nat → List Int) (k : Nat) (sn : List (Int × Int)) : Int := (accL L k 4).length + sumI sn * cn k
def val (g : Nat) (L : Nat → List Int) (o : Ob) (sn : List (Int × Int)) : Int := if fits g o then (if (kOf (oSize o)).2 = true then valS L (kN o) sn else sumD (oBlocks o) sn) else 0
theorem kOf_cases (o : Ob) (h : oSize o ≠ 0) : (∃ k : Nat, k < 32 ∧ kOf (oSize o) = ((k : Int), true) ∧ oSize o ≤ cw k ∧ kN o = k) ∨ (kOf (oSize o) = (0, false) ∧ 257 ≤ oSize o ∧ 1 ≤ oBlocks o ∧ oBlocks o = (oSize o + 511) / 512) := by
  have hr := oSize_rng o
  by_cases h2 : oSize o ≤ 256
  · obtain ⟨k, k1, k2, k3⟩ := kOf_small (w := oSize o) (by omega) h2
    left
    exact ⟨k, k1, k2, k3, by unfold kN; rw [k2]; simp⟩
  · right
    have hb : oBlocks o = (oSize o + 511) / 512 := by unfold oBlocks; rw [if_neg (by omega)]
    exact ⟨kOf_large (by omega), by omega, by omega, hb⟩
theorem Cov.rng {lim : Int} {F : RF} (ok : RunsOk lim F) {sn : List (Int × Int)} (h : Cov F sn) : ∀ p ∈ sn, 1 ≤ p.2 := fun p hp => (ok.rng _ _ ((h.2 p.1 p.2).2 hp)).2.1
theorem Cov.take_ex {lim : Int} {F : RF} (ok : RunsOk lim F) {l : List (Int × Int)} {b n q : Int} (h : Cov F l) (hb : F b = some q) (hn : 1 ≤ n) (hq : n ≤ q) : ∃ l', Cov (takeF F b n q) l' := by
  obtain ⟨r, hp, hr⟩ := h.pick hb
  by_cases hlt : n < q
  · refine ⟨(b + n, q - n) :: r, ?_, fun key v => ?_⟩
    · rw [List.map_cons, List.nodup_cons]
      refine ⟨fun hm => ?_, hr.1⟩
      obtain ⟨p, hp2, he⟩ := List.mem_map.1 hm
      have h2 := (hr.2 p.1 p.2).2 hp2
      obtain ⟨_, h3⟩ := delF_some h2
      simp only at he
      rw [he] at h3
      have := ok.sep _ _ _ _ hb h3 (by omega)
      omega
    · unfold takeF
      rw [if_pos hlt]
      unfold updF
      rw [List.mem_cons]
      by_cases e : key = b + n
      · rw [if_pos e]
        constructor
        · intro h; left; simp only [Option.some.injEq] at h; rw [e, h]
        · rintro (h | h)
          · simp only [Prod.mk.injEq] at h; rw [h.2]
          · exfalso
            have h2 := (hr.2 key v).2 h
            obtain ⟨_, h3⟩ := delF_some h2
            rw [e] at h3
            have := ok.sep _ _ _ _ hb h3 (by omega)
            omega
      · rw [if_neg e, hr.2]
        constructor
        · exact .inr
        · rintro (h | h)
          · simp only [Prod.mk.injEq] at h; exact absurd h.1 e
          · exact h
  · exact ⟨r, by unfold takeF; rw [if_neg hlt]; exact hr⟩
theorem val_perm {g : Nat} {L : Nat → List Int} {o : Ob} {F : RF} {sn sn' : List (Int × Int)} (h : Cov F sn) (h' : Cov F sn') : val g L o sn = val g L o sn' := by
  have hp := h.perm h'
  unfold val valS
  rw [sumI_perm hp, sumD_perm hp]
theorem val_nonneg {g : Nat} {L : Nat → List Int} {o : Ob} {F : RF} {lim : Int} (ok : RunsOk lim F) {sn : List (Int × Int)} (h : Cov F sn) : 0 ≤ val g L o sn := by
  have h1 := h.rng ok
  have hs := h.sub.sum ok
  unfold val valS
  split
  · rename_i hf
    split
    · have := Int.mul_nonneg hs.1 (show (0 : Int) ≤ cn (kN o) by omega)
      omega
    · rename_i hk
      rcases kOf_cases o hf.1 with ⟨k, _, k2, _⟩ | ⟨_, _, h3, _⟩
      · rw [k2] at hk; simp at hk
      · exact (sumD_le h3 fun p hp => by have := h1 p hp; omega).1
  · omega
theorem val_none {g : Nat} {s : St} {o : Ob} (ok : RunsOk g s.F) {sn : List (Int × Int)} (h : Cov s.F sn) (hn : NoRoom s o) : val g s.L o sn = 0 := by
  have h1 := h.rng ok
  unfold val
  split
  · rcases hn with ⟨k, k1, k2, k3, k4⟩ | ⟨n, k2, k3, k4, _, k5⟩
    · have hk : kN o = k := by unfold kN; rw [k2]; simp
      rw [k2]
      simp only [if_true]
      unfold valS
      have : sn = [] := by
        cases sn with
        | nil => rfl
        | cons p sn =>
          have h2 := k4 p.1 p.2 ((h.2 p.1 p.2).2 (by simp))
          have := h1 p (by simp)
          omega
      rw [hk, k3, this]; simp [sumI]
    · rw [k2]
      simp only [Bool.false_eq_true, if_false]
      rw [k3]
      refine sumD_none (by omega) fun p hp => ⟨by have := h1 p hp; omega, ?_⟩
      exact k5 p.1 p.2 ((h.2 p.1 p.2).2 hp)
  · rfl
theorem val_step {g : Nat} {s s1 : St} {o : Ob} {x : Nat} (ok : RunsOk g s.F) {sn : List (Int × Int)} (h : Cov s.F sn) (hf : fits g o) (hr : RoomR g s o s1 x) : ∃ sn1, Cov s1.F sn1 ∧ val g s1.L o sn1 = val g s.L o sn - 1 := by
  unfold val
  rw [if_pos hf]
  rcases hr with ⟨k, k1, k2, k3, hr⟩ | ⟨n, k2, k3, k4, k5, hr⟩
  · have hk : kN o = k := by unfold kN; rw [k2]; simp
    rw [k2, hk]
    simp only [if_true]
    unfold valS
    rcases hr.from_ with ⟨_, h2, _, h4⟩ | ⟨b, q, _, _, hb, hq, _, _, h2, _, h4⟩
    · exact ⟨sn, by rw [h2]; exact h, by rw [if_pos hf]; omega⟩
    · obtain ⟨sn1, hc⟩ := h.take_ex ok hb (by omega) hq
      obtain ⟨e1, _⟩ := h.take ok hb (by omega) hq hc
      refine ⟨sn1, by rw [h2]; exact hc, ?_⟩
      rw [if_pos hf, e1, Int.sub_mul]
      omega
  · rw [k2]
    simp only [Bool.false_eq_true, if_false]
    obtain ⟨b, q, _, _, _, _, hb, hq, _, _, h2, _⟩ := hr.from_
    obtain ⟨sn1, hc⟩ := h.take_ex ok hb (by omega) hq
    obtain ⟨_, e1⟩ := h.take ok hb (by omega) hq hc
    refine ⟨sn1, by rw [h2]; exact hc, ?_⟩
    rw [if_pos hf, k3, e1]
theorem val_le {g : Nat} {s : St} {o : Ob} (inv : Inv g s.hs s.U s.L) (tie : Tie g s.hs s.F) (hg : g ≤ 8) {sn : List (Int × Int)} (h : Cov s.F sn) : val g s.L o sn ≤ 3000 := by
  have h1 := h.rng tie.ok
  have hs := sumI_free tie h
  have hn : nFree s.hs g ≤ g := by unfold nFree; exact Nat.le_trans List.countP_le_length (by simp)
  unfold val
  split
  · rename_i hf
    rcases kOf_cases o hf.1 with ⟨k, k1, k2, _, k4⟩ | ⟨k2, _, k3, _⟩
    · rw [k2, k4]
      simp only [if_true]
      unfold valS
      have hb := cells_bound inv k1
      obtain ⟨_, _, _, _, _, _, t7, _⟩ := cls_tab k k1
      have h7 : (g - 1) * cn k ≤ 7 * 256 := Nat.mul_le_mul (by omega) t7
      rw [hs]
      have : (((accL s.L k 4).length : Int) + (nFree s.hs g : Int) * (cn k : Int)) = (((accL s.L k 4).length + nFree s.hs g * cn k : Nat) : Int) := by simp
      rw [this]; omega
    · rw [k2]
      simp only [Bool.false_eq_true, if_false]
      have := (sumD_le k3 (l := sn) fun p hp => by have := h1 p hp; omega).2
      omega
  · omega
section
variable {B : World} {P R : SL} {t : K}
theorem FreeCells_o {a f k : Nat} {v0 v1 v2 v3 : Value} {L : Nat → List Int} (hL : ∀ i, i < 160 → (L i).length ≤ 2 ^ 30) (hk2 : k < 32) {kk : Sl → K}
    (hk : ∀ sl, T B (R * pt a (.cells [v0, v1, v2, v3, .pointer (da f)].toArray 47) * Fl f L * vec 3 1 sl (ints (sortI (accL L k 4)))) (kk sl)) :
    T B (R * pt a (.cells [v0, v1, v2, v3, .pointer (da f)].toArray 47) * Fl f L) (c_alloc_Allocator_FreeCells (da a) k kk) := by
  refine T_of (alloc_Allocator_FreeCells_ok _ k kk) ?_
  unfold da
  (repeat (first | with_reducible refine T_nn ?_ | ((with_reducible apply T_ldP); (focus rfl); (focus (repeat (first | with_reducible exact Has.last | with_reducible exact Has.one | refine Has.init ?_))); (focus rfl))))
  exact free_List_c hL hk2 fun sl => hk sl
theorem predict_Small_c {a d g k : Nat} {s : St} (inv : Inv g s.hs s.U s.L) (hk2 : k < 32) {kk : Int → K} (hk : ∀ sn, Cov s.F sn → T B (R * Al a d g s) (kk (valS s.L k sn))) : T B (R * Al a d g s) (c_predict_Small (da a) k kk) := by
  refine T_of (predict_Small_ok _ k kk) ?_
  refine class_Right_c ?_
  rw [decide_eq_true (by omega)]
  (dsimp only [predict_Small, predict_Small_s0, predict_Small_s1, predict_Small_s2, predict_Small_s3, predict_Small_s4])
  simp only [Bool.not_true]
  have hlen := inv.free.len inv.big hk2
  obtain ⟨_, t2, _, _, _, _, t7, _⟩ := cls_tab k hk2
  refine Al_open fun m u f => ?_
  unfold da
  (repeat (first | with_reducible refine T_nn ?_ | with_reducible refine T_tick ?_ | with_reducible refine T_brF ?_ | ((with_reducible apply T_ldP); (focus rfl); (focus (repeat (first | with_reducible exact Has.last | with_reducible exact Has.one | refine Has.init ?_))); (focus rfl))))
  refine T.perm (Q := R * LDx d (64 * g) s.c * Mg m d g s.hs s.F * Bm u (512 * g) s.U * pt a (.cells [.pointer (da m), .pointer (da d), .int .i64 g, .pointer (da u), .pointer (da f)].toArray 47) * Fl f s.L) (by unfold da; ac_rfl) ?_
  refine FreeCells_o (fun i hi => by have := inv.free.lens inv.big i hi; omega) hk2 fun sl => ?_
  have hsl : (sortI (accL s.L k 4)).length = (accL s.L k 4).length := List.length_mergeSort _
  refine T_vlen .last fun hn => ?_
  rw [ints_len, Nat.mul_one, hsl] at hn
  (repeat (first | with_reducible refine T_chk0 ?_ | ((with_reducible apply T_chk); (focus rfl); (focus (repeat (first | with_reducible exact Has.last | with_reducible exact Has.one | refine Has.init ?_))); (focus rfl))))
  refine T_bring (X := Mg m d g s.hs s.F) (by (repeat (first | with_reducible exact Frm.last | with_reducible exact Frm.one | with_reducible apply Frm.init))) ?_
  refine Mg_tie fun tie => ?_
  refine bman_FreeBlocks_c fun sn hc => ?_
  have hs := sumI_free tie hc
  have hb := cells_bound inv hk2
  have hfn : nFree s.hs g ≤ g := by unfold nFree; exact Nat.le_trans List.countP_le_length (by simp)
  have hg := inv.big
  refine class_Cells_c ?_
  rw [t2]
  have e1 : sumI sn * (cn k : Int) = ((nFree s.hs g * cn k : Nat) : Int) := by rw [hs]; simp
  have hm : nFree s.hs g * cn k ≤ 2 ^ 20 * 256 := Nat.mul_le_mul (by omega) t7
  have e2 : IntKind.wrap .i64 (((sl.n : Nat) : Int) + IntKind.wrap .i64 (sumI sn * (cn k : Int))) = valS s.L k sn := by
    unfold valS
    rw [e1, w64 (n := ((nFree s.hs g * cn k : Nat) : Int)) (by omega) (by omega), w64 (by omega) (by omega), hn]
  rw [e2]
  refine T_drop1 (.init .last) ?_
  have h2 := Al_close (m := m) (u := u) (f := f) (hk sn hc)
  exact T.perm (by ac_rfl) h2
theorem predict_Large_c {a d g n : Nat} {s : St} (tie : Tie g s.hs s.F) (hn : 1 ≤ n) (hn2 : n < 2 ^ 40) {kk : Int → K} (hk : ∀ sn, Cov s.F sn → T B (R * Al a d g s) (kk (sumD n sn))) : T B (R * Al a d g s) (c_predict_Large (da a) n kk) := by
  refine T_of (predict_Large_ok _ n kk) ?_
  (repeat' (with_reducible refine T_brD (fun _ => ?_) (fun _ => ?_)))
  · exfalso; omega
  refine Al_open fun m u f => ?_
  unfold da
  (repeat (first | with_reducible refine T_nn ?_ | ((with_reducible apply T_ldP); (focus rfl); (focus (repeat (first | with_reducible exact Has.last | with_reducible exact Has.one | refine Has.init ?_))); (focus rfl))))
  refine T_bring (X := Mg m d g s.hs s.F) (by (repeat (first | with_reducible exact Frm.last | with_reducible exact Frm.one | with_reducible apply Frm.init))) ?_
  refine bman_Runs_c fun sl l hc hso => ?_
  have hlen := hc.sub.len tie.ok
  have hpos := hc.rng tie.ok
  have hsum := hc.sub.sum tie.ok
  have hB := tie.big
  (dsimp only [predict_Large, predict_Large_s0, predict_Large_s1, predict_Large_s2, predict_Large_s3, predict_Large_s4, predict_Large_s5, predict_Large_l6, predict_Large_s7, predict_Large_s8, predict_Large_s9, predict_Large_s10])
  have hk := hk l hc
  have h2 := Al_close (m := m) (u := u) (f := f) hk
  refine T_vlen .last fun hn3 => ?_
  rw [prs_len] at hn3
  have hsn : sl.n = l.length := by omega
  generalize hX : R * LDx d (64 * g) s.c * Bm u (512 * g) s.U * Fl f s.L * pt a (.cells [.pointer (some ⟨m, 0, none⟩), .pointer (some ⟨d, 0, none⟩), .int .i64 g, .pointer (some ⟨u, 0, none⟩), .pointer (some ⟨f, 0, none⟩)].toArray 47) * Mg m d g s.hs s.F = X
  have h3 : T B X (kk (sumD n l)) := by subst hX; exact T.perm (by unfold da; ac_rfl) h2
  clear hX h2 hk
  -- partial sums
  have hps : ∀ i, i ≤ l.length → 0 ≤ sumD n (l.take i) ∧ sumD n (l.take i) ≤ 2 ^ 40 := by
    intro i hi
    have h1 := sumD_le (n := n) (l := l.take i) (by omega) fun p hp => by have := hpos p (List.mem_of_mem_take hp); omega
    have h2 : Sub s.F (l.take i) := ⟨(hc.1).sublist ((List.take_sublist i l).map _), fun p hp => hc.sub.mem p (List.mem_of_mem_take hp)⟩
    have h3 := h2.sum tie.ok
    have h4 := h2.len tie.ok
    omega
  have hsn2 : ∀ (l : List (Int × Int)) (p : Int × Int), sumD n (l ++ [p]) = sumD n l + p.2 / n := by
    intro l p
    induction l with
    | nil => simp [sumD]
    | cons q l ih => rw [List.cons_append]; simp only [sumD, ih]; omega
  refine T_lpX (fun _ _ => X * vec 152 2 sl (prs l)) (fun mm (z : Int × Int × Unit) => ∃ i : Nat, z.2.1 = i ∧ i ≤ l.length ∧ mm = l.length - i ∧ z.1 = sumD n (l.take i)) l.length rfl ⟨0, rfl, by omega, rfl, rfl⟩ ?_
  rintro mm ⟨z, i', uu⟩ c ⟨i, e1, e2, e3, e4⟩ hcc
  simp only at e1 e4
  subst e1 e3 e4
  dsimp only
  (repeat' (with_reducible refine T_brD (fun _ => ?_) (fun _ => ?_)))
  · have hlt : i < l.length := by omega
    refine T_ixP (l := l) (Rd.vec .last) (by omega) (by rw [Int.toNat_natCast]; exact hlt) fun y hy => ?_
    simp only [Int.toNat_natCast] at hy
    refine T_ldAt hy rfl ?_
    refine T_ldAt hy rfl ?_
    (repeat (first | ((with_reducible apply T_ldI); (focus rfl); (focus (repeat (first | with_reducible exact Has.last | with_reducible exact Has.one | refine Has.init ?_))); (focus rfl)) | (with_reducible refine T_al ?_; intro _) | ((with_reducible apply T_st); (focus rfl); (focus (repeat (first | with_reducible exact Upd.last | with_reducible exact Upd.one | with_reducible apply Upd.init))); (focus simp); simp only [List.set, Nat.zero_add, Nat.reduceAdd])))
    refine T_nz (by omega) ?_
    have hp := hpos l[i] (List.getElem_mem hlt)
    have h1 := hps (i + 1) (by omega)
    have h0 := hps i e2
    rw [List.take_succ_eq_append_getElem hlt, hsn2] at h1
    have hq := Int.ediv_nonneg (show 0 ≤ l[i].2 by omega) (show (0 : Int) ≤ n by omega)
    have e5 : IntKind.wrap .i64 (sumD n (l.take i) + IntKind.wrap .i64 (Int.tdiv l[i].2 n)) = sumD n (l.take (i + 1)) := by
      rw [Int.tdiv_eq_ediv_of_nonneg (by omega), w64 (n := l[i].2 / n) (by omega) (by omega), w64 (by omega) (by omega), List.take_succ_eq_append_getElem hlt, hsn2]
    refine T_drop1 .last ?_
    rw [e5]
    exact hcc (l.length - (i + 1)) (sumD n (l.take (i + 1)), IntKind.wrap .i64 ((i : Int) + 1), ()) (by omega) ⟨i + 1, w64 (by omega) (by omega), by omega, rfl, rfl⟩
  · have : i = l.length := by omega
    subst this
    rw [List.take_length]
    exact T.weak h3
theorem predict_Object_c {a d g : Nat} {s : St} {o : Ob} (inv : Inv g s.hs s.U s.L) {kk : Int → K} (hk : ∀ sn, Cov s.F sn → T B (R * Al a d g s) (kk (val g s.L o sn))) (hk0 : ¬ fits g o → T B (R * Al a d g s) (kk 0)) : T B (R * Al a d g s) (c_predict_Object (da a) o kk) := by
  refine T_of (predict_Object_ok _ o kk) ?_
  have hg := inv.big
  have hg2 := inv.two
  have hr := oSize_rng o
  (repeat (first | with_reducible refine T_tick ?_ | ((with_reducible apply T_ldI); (focus rfl); (focus (repeat (first | with_reducible exact Has.last | with_reducible exact Has.one | refine Has.init ?_))); (focus rfl)) | (with_reducible refine T_al ?_; intro _)))
  rename_i b
  refine ohead_Size_c ?_
  rw [show ((o.1, o.2) : Ob) = o from rfl]
  refine T_bring (X := Al a d g s) (.init .last) ?_
  (repeat' (first | with_reducible refine T_brT ?_ | ((with_reducible apply T_ldI); (focus rfl); (focus (repeat (first | with_reducible exact Has.last | with_reducible exact Has.one | refine Has.init ?_))); (focus rfl)) | with_reducible refine T_brE (fun _ => ?_) (fun _ => ?_)))
  · rename_i hz
    refine T_drop1 (.init .last) ?_
    exact hk0 (fun h => h.1 hz)
  rename_i hz
  -- behind the tests
  have rest : T B (R * pt b (.cells [.int .i64 o.1, .int .i64 o.2].toArray 68) * Al a d g s) (predict_Object_s8 (da a) kk ⟨b, 0, none⟩ (decide (oSize o > max 0 ((g : Int) - 1) * 512))) := by
    (repeat' (first | ((with_reducible apply T_ldI); (focus rfl); (focus (repeat (first | with_reducible exact Has.last | with_reducible exact Has.one | refine Has.init ?_))); (focus rfl)) | with_reducible refine T_brD (fun _ => ?_) (fun _ => ?_)))
    · refine T_drop1 (.init .last) ?_
      exact hk0 (fun h => by have := h.2; omega)
    have hf : fits g o := ⟨hz, by omega⟩
    unfold val at hk
    simp only [if_pos hf] at hk
    refine ohead_Small_c ?_
    rw [show ((o.1, o.2) : Ob) = o from rfl]
    rcases kOf_cases o hz with ⟨k, k1, k2, k3, k4⟩ | ⟨k2, k3, k4, k5⟩
    · rw [k2]
      rw [k2, k4] at hk
      simp only [if_true] at hk
      (repeat (with_reducible refine T_brT ?_))
      refine predict_Small_c inv k1 fun sn hc => ?_
      refine T_drop1 (.init .last) ?_
      exact hk sn hc
    · rw [k2]
      rw [k2] at hk
      simp only [Bool.false_eq_true, if_false] at hk
      (repeat (first | with_reducible refine T_brF ?_ | ((with_reducible apply T_ldI); (focus rfl); (focus (repeat (first | with_reducible exact Has.last | with_reducible exact Has.one | refine Has.init ?_))); (focus rfl))))
      refine ohead_Blocks_c ?_
      rw [show ((o.1, o.2) : Ob) = o from rfl]
      obtain ⟨n, hn⟩ := Int.eq_ofNat_of_zero_le (show 0 ≤ oBlocks o by omega)
      rw [hn] at hk ⊢
      skip
      refine Al_tie fun tie => ?_
      refine predict_Large_c tie (by omega) (by omega) fun sn hc => ?_
      refine T_drop1 (.init .last) ?_
      exact hk sn hc
  refine Al_open fun mm u f => ?_
  unfold da
  (repeat (first | with_reducible refine T_nn ?_ | ((with_reducible apply T_ldP); (focus rfl); (focus (repeat (first | with_reducible exact Has.last | with_reducible exact Has.one | refine Has.init ?_))); (focus rfl))))
  refine ohead_Size_c ?_
  (repeat (first | with_reducible refine T_chk0 ?_ | ((with_reducible apply T_chk); (focus rfl); (focus (repeat (first | with_reducible exact Has.last | with_reducible exact Has.one | refine Has.init ?_))); (focus rfl))))
  rw [show ((o.1, o.2) : Ob) = o from rfl]
  refine T_bring (X := Mg mm d g s.hs s.F) (by (repeat (first | with_reducible exact Frm.last | with_reducible exact Frm.one | with_reducible apply Frm.init))) ?_
  refine bman_Geometry_c ?_
  refine geom_Most_c (by omega) (by omega) ?_
  have h2 := Al_close (m := mm) (u := u) (f := f) rest
  exact T.perm (by unfold da; ac_rfl) h2
end
end Go.Proofs.YtdgcbapclnnkkaaGreat.X
end
