/- Part 7 of the proof that the law holds for every input: the theorems of this part. Conditions: each theorem bears its own; the last has none. -/
import Derived.Test.YtdgcbapclnnkkaaGreatKf
import Derived.Test.YtdgcbapclnnkkaaGreatRows
import Derived.WalkKit
import Derived.ProofKit
import Derived.OpenShut
import Derived.JoinedCond
import Derived.ReadAgain
import Derived.Carry
set_option linter.all false
set_option maxRecDepth 4000
namespace Go.Proofs.YtdgcbapclnnkkaaGreat.X
open Go
section
open Go Go.ChangeShapes Go.WideShapes Go.ChangeAt Go.RowKit
theorem own : ownKnob Tryz.prog.godebug = none := by kernel_rfl
theorem kids : Kids Tryz.prog (· < Tryz.prog.types.size) := kids_rows (by kernel_rfl) (by kernel_rfl)
theorem full : ∀ t e, t < Tryz.prog.types.size → Tryz.prog.underlying t = some (.slice e) → 0 < Tryz.prog.cellsOf e := slices_full_of Tryz.prog (by kernel_rfl)
theorem cells3 : Tryz.prog.cellsOf 3 = 1 := by kernel_rfl
section
variable {H : Type} {enc : TypeId × Value → H} {P : Program} {W W' : World} {b : Nat} {sp : Nat → Bool} {hd : Bool}
theorem carryAll : ∀ {ts : List TypeId} {vs : List Value} {ds : List (DataW H)} {ps : List MemPlace}, DataW.TrodAll enc P W b sp hd ts vs ds ps → (∀ p ∈ ps, W.sameAt W' p) → DataW.TrodAll enc P W' b sp hd ts vs ds ps
 |[], [], [], _, h, _ => h
 |_ :: _, _ :: _, _ :: _, _, ⟨_, _, ⟨n, hn⟩, h2, e⟩, hs =>
  ⟨_, _, ⟨n, DataW.trod_carry n _ _ _ hn (fun x hx => hs x (by rw [e]; exact List.mem_append_left _ hx))⟩, carryAll h2 (fun x hx => hs x (by rw [e]; exact List.mem_append_right _ hx)), e⟩
theorem Yyi {fs : Array Field} {t : TypeId} {m : Nat} {cs : List Value} {x : DataW H × List MemPlace} (ht : Tryz.prog.underlying t = some (.struct fs)) (h : DataW.trod enc Tryz.prog W b sp hd m t cs = some x) (j : Nat) {f : Field}
  (hf : fs[j]? = some f) (h3 : f.type = 3) : ∃ n : Int, cs[f.offset]? = some (.int .i64 n) ∧ (Lit.int .i64 n).wf = true := by
 obtain ⟨xs, n, _, _, _, hxl, hfld⟩ := DataW.trod_struct ht h
 have hj : j < fs.size := (Array.getElem?_eq_some_iff.1 hf).1
 have h1 := hfld j f hf
 rw [List.getElem?_eq_getElem (by omega), h3] at h1
 obtain ⟨n, hn, _, hw⟩ := DataW.trod_int Tryz.underlying3 h1
 rw [cells3] at hn
 refine ⟨n, ?_, hw⟩
 have : ((cs.drop f.offset).take 1)[0]? = some (.int .i64 n) := by rw [hn]; rfl
 simpa using this
theorem Vds {f : Func} {s : ChangeSpec} {fresh handsOn again : Bool} {args : Array Value} {ds : List (DataW H)} {before : List MemPlace}
  (hW : DataW.Whole enc Tryz.prog f.params.toList s.vars false W args.toList ds [] before) (hA : DataW.TrodAll enc Tryz.prog W 0 (fun _ => true) true f.params.toList args.toList ds before)
  (hb : Below W.heap.size W W') (hv : s.vars = []) (hp : ∀ t ∈ f.params.toList, t < Tryz.prog.types.size) (hr : f.resultTypes = #[4]) (hfn : s.fn H ds = { results := [.lit (.bool true)], args := ds }) :
  s.post enc Tryz.prog f false fresh handsOn again W args (.bool true) W' := by
 have hold : ∀ p ∈ before, (fun b => decide (b < W.heap.size)) p.block = true := fun p hp => by simpa using hW.lt p hp
 have hT : ∀ sp : Nat → Bool, (∀ p ∈ before, sp p.block = true) → DataW.TrodAll enc Tryz.prog W' 0 sp true f.params.toList args.toList ds before :=
  fun sp hsp => carryAll (DataW.TrodAll.respare kids full hp hA hsp) (fun p hp => hb.same (hW.lt p hp))
 have hRes : ∀ (b : Nat) (sp : Nat → Bool) (hd : Bool), DataW.TrodAll enc Tryz.prog W' b sp hd f.resultTypes.toList ((Value.bool true).resultList f.resultTypes.size) [DataW.lit (.bool true)] [] := by
  intro b sp hd
  rw [hr]
  exact trodAll_cons_mk (shut_bool Tryz.underlying4 _) trodAll_mk0
 have hVar : ∀ sp, DataW.TrodVars enc Tryz.prog W' sp s.vars ([] : List (DataW H)) [] := fun sp => by rw [hv]; rfl
 have hlt := hW.lt
 have hfn' : s.fn H (ds ++ []) = { results := [.lit (.bool true)], args := ds } := by rw [List.append_nil]; exact hfn
 have hR : ∀ (b : Nat) (sp : Nat → Bool) (hd : Bool), DataW.TrodAll enc Tryz.prog W' b sp hd f.resultTypes.toList ((Value.bool true).resultList f.resultTypes.size) (s.fn H (ds ++ [])).results [] := by
  rw [hfn']; exact hRes
 have hAr : ∀ sp : Nat → Bool, (∀ p ∈ before, sp p.block = true) → DataW.TrodAll enc Tryz.prog W' 0 sp true f.params.toList args.toList (s.fn H (ds ++ [])).args before := by
  rw [hfn']; exact hT
 have hVr : ∀ sp, DataW.TrodVars enc Tryz.prog W' sp s.vars (s.fn H (ds ++ [])).vars [] := by
  rw [hfn']; exact hVar
 refine ⟨ds, [], before, [], before, [], hW, hR _ _ _, hAr _ hold, hVr _, World.keptBut_mono (fun p hp => ⟨hp, ?_⟩) (hb.frame (· ∈ before)), fun _ => ?_⟩
 ·exact Or.inr (Or.inl hp)
 ·obtain ⟨_, _, _, _, hq, hz, hn⟩ := hW
  refine ⟨ok_one (by rw [hr]) rfl (okWide_bool_mk Tryz.underlying4 _), _, _, ([] ++ before) ++ [], ⟨[] ++ before, [], trodAll_append (hAr _ (fun _ _ => rfl)) (hR _ _ _), hVr _, rfl, ?_, ?_⟩, ?_⟩
  ·intro b off hp
   have hp : MemPlace.cell b off ∈ before := by simpa using hp
   rw [hb.frozen (p := ⟨b, off, none⟩) (hlt _ hp)]
   exact hz b off hp
  ·intro ha
   simpa using hn ha
  ·intro p hp _
   simpa using hp
end
end
section
open Go Go.ChangeShapes Go.WideShapes Go.ChangeAt Go.RowKit
section
variable {H : Type} {enc : TypeId × Value → H} {W : World} {b : Nat} {sp : Nat → Bool} {hd : Bool}
theorem Vfn : Sat W emp W := ⟨⟨fun _ => none, rfl, fun _ _ h => by cases h⟩, Below.refl _ _⟩
end
end
section
open Go Go.ChangeShapes Go.WideShapes Go.ChangeAt Go.RowKit
theorem cells38 : Tryz.prog.cellsOf 38 = 5 := by kernel_rfl
theorem bounds_i8' {n : Int} (h : (Lit.int .i8 n).wf = true) : -128 ≤ n ∧ n ≤ 127 := by
 simp [Lit.wf, IntKind.min, IntKind.max, IntKind.signed, IntKind.bits] at h
 omega
section
variable {H : Type} {enc : TypeId × Value → H} {W : World} {b : Nat} {sp : Nat → Bool} {hd : Bool}
theorem Vhe {a : Option Addr} {len cap : Nat} {d : DataW H} {ps : List MemPlace} (h : DataW.Trod enc Tryz.prog W b sp hd 23 (.slice a len cap) d ps) : Scr5 W ⟨a, len, cap⟩ := by
 obtain ⟨fuel, hf⟩ := h
 rcases DataW.trod_slice (show Tryz.prog.underlying 23 = some (.slice 38) by kernel_rfl) hf with ⟨hcs, _⟩ | ⟨a', len', cap', elems, rest, n, _, hcs, _, _, _, _, hlen, hel, _, _⟩
 ·simp [Value.cells] at hcs
  obtain ⟨rfl, rfl, rfl⟩ := hcs
  intro i hi
  exact absurd hi (Nat.not_lt_zero i)
 ·simp [Value.cells] at hcs
  obtain ⟨rfl, rfl, rfl⟩ := hcs
  intro i hi
  refine ⟨a', rfl, ?_⟩
  have hi' : i < len := hi
  have h := hel i hi'
  rw [List.getElem?_eq_getElem (by omega), cells38] at h
  obtain ⟨cs, hc, hd⟩ := Option.bind_eq_some_iff.1 h
  obtain ⟨_, hl, hcell⟩ := World.cells?_some hc
  obtain ⟨n0, e0, _⟩ := Yyi Tryz.underlying38 hd 0 rfl rfl
  obtain ⟨n1, e1, _⟩ := Yyi Tryz.underlying38 hd 1 rfl rfl
  obtain ⟨n2, e2, _⟩ := Yyi Tryz.underlying38 hd 2 rfl rfl
  obtain ⟨n3, e3, _⟩ := Yyi Tryz.underlying38 hd 3 rfl rfl
  obtain ⟨n4, e4, _⟩ := Yyi Tryz.underlying38 hd 4 rfl rfl
  exact ⟨n0, n1, n2, n3, n4, (hcell 0 (by omega)).trans e0, (hcell 1 (by omega)).trans e1, (hcell 2 (by omega)).trans e2, (hcell 3 (by omega)).trans e3, (hcell 4 (by omega)).trans e4⟩
end
end
section
open Go Go.ChangeShapes Go.WideShapes Go.ChangeAt Go.RowKit
section
variable {H : Type} {enc : TypeId × Value → H} {W : World} {b : Nat} {sp : Nat → Bool} {hd : Bool}
theorem Vh0 {a : Option Addr} {len cap : Nat} {d : DataW H} {ps : List MemPlace} (h : DataW.Trod enc Tryz.prog W b sp hd 60 (.slice a len cap) d ps) : U8s W ⟨a, len, cap⟩ := by
 have he : Tryz.prog.underlying 5 = some (.int .u8) := by kernel_rfl
 have hce : Tryz.prog.cellsOf 5 = 1 := by kernel_rfl
 obtain ⟨fuel, hf⟩ := h
 rcases DataW.trod_slice (show Tryz.prog.underlying 60 = some (.slice 5) by kernel_rfl) hf with ⟨hcs, _⟩ | ⟨a', len', cap', elems, rest, n, _, hcs, _, _, _, _, hlen, hel, _, _⟩
 ·simp [Value.cells] at hcs
  obtain ⟨rfl, rfl, rfl⟩ := hcs
  intro i hi
  exact absurd hi (Nat.not_lt_zero i)
 ·simp [Value.cells] at hcs
  obtain ⟨rfl, rfl, rfl⟩ := hcs
  intro i hi
  refine ⟨a', rfl, ?_⟩
  have hi' : i < len := hi
  have h := hel i hi'
  rw [List.getElem?_eq_getElem (by omega), hce] at h
  obtain ⟨cs, hc, hd⟩ := Option.bind_eq_some_iff.1 h
  obtain ⟨_, hl, hcell⟩ := World.cells?_some hc
  obtain ⟨n0, hn0, _, w0⟩ := DataW.trod_int he hd
  refine ⟨n0, bounds_u8 w0, ?_⟩
  have h5 := hcell 0 (by omega)
  rw [hn0] at h5
  exact (show (a'.add (i * 1)).add 0 = a'.add (i * 1) by unfold Addr.add; split <;> simp_all) ▸ h5
theorem frees {x0 : Int} {x1 x2 : Sl} (h0 : -128 ≤ x0) (h1 : x0 ≤ 127) (hx1 : Scr5 W x1) (hx2 : U8s W x2) :
  Calls Tryz.prog 4 #[.int .i8 x0, x1.v, x2.v] W fun e w' => e = .returned (.bool true) ∧ Below W.heap.size W w' := by
 have h : Yez x0 x1 x2 (fun b w' => b = true ∧ Below W.heap.size W w') W :=
  Yyh (B := W) (R := emp) h0 h1 hx1 hx2 (k := fun b w' => b = true ∧ Below W.heap.size W w') (fun w hw => ⟨rfl, hw.2⟩) W Vfn
 refine Calls.mono h fun e w' ⟨x, he, hx, hb⟩ => ⟨?_, hb⟩
 rw [he, hx]
end
theorem Ytx (H : Type) (enc : TypeId × Value → H) (W : World) (base : Nat) (args : Array Value) (ds gs : List (DataW H)) (before : List MemPlace)
  (hval : ∀ (j : Nat) t v, Tryz.f4.params[j]? = some t → args[j]? = some v → Value.okWide Tryz.prog W .any base t v)
  (hW : DataW.Whole enc Tryz.prog Tryz.f4.params.toList Rows.cycleFreesSpec.vars false W args.toList ds gs before) :
  Calls Tryz.prog 4 args W fun e W' => ∃ v, e = .returned v ∧ Rows.cycleFreesSpec.post enc Tryz.prog Tryz.f4 false true false false W args v W' := by
 have hW' := hW
 obtain ⟨p, q, hA0, hV, rfl, hfz, hnd⟩ := hW
 have hA : DataW.TrodAll enc Tryz.prog W 0 (fun _ => true) true Tryz.f4.params.toList args.toList ds p := hA0
 have hAk := hA
 rw [Tryz.params4] at hA hval
 obtain ⟨v0, v1, v2, d0, d1, d2, p0, p1, p2, rfl, rfl, rfl, h0, h1, h2⟩ := trodAll_three hA
 obtain ⟨rfl, rfl⟩ := trodVars_none hV
 obtain ⟨a0, rfl, rfl, rfl, w0⟩ := open_int (show Tryz.prog.underlying 22 = some (.int .i8) by kernel_rfl) (hval 0 22 v0 (by simp) (by simp)) h0
 obtain ⟨a, len, cap, rfl⟩ := okWide_slice (show Tryz.prog.underlying 23 = some (.slice 38) by kernel_rfl) (hval 1 23 v1 (by simp) (by simp))
 obtain ⟨a', len', cap', rfl⟩ := okWide_slice (show Tryz.prog.underlying 60 = some (.slice 5) by kernel_rfl) (hval 2 60 v2 (by simp) (by simp))
 have hb := bounds_i8' w0
 simp only [List.append_nil] at hW'
 refine (frees (x1 := ⟨a, len, cap⟩) (x2 := ⟨a', len', cap'⟩) hb.1 hb.2 (Vhe h1) (Vh0 h2)).mono fun e W' ⟨he, hg⟩ => ?_
 subst he
 exact ⟨_, rfl, Vds hW' hAk hg rfl (by rw [Tryz.params4]; decide) (by kernel_rfl) rfl⟩
set_option maxRecDepth 100000 in
theorem Yyj (os : Os) (started : os.Started) (H : Type) (enc : TypeId × Value → H) :
  ReturnsInHanded {} Tryz.checked os 4 .any (Rows.cycleFreesSpec.pre6 enc Tryz.prog Tryz.f4 Rows.cycleFreesRow.domain false) (Rows.cycleFreesSpec.post enc Tryz.prog Tryz.f4 false true false false) := by
 refine returnsInHanded_of_change (C := Tryz.checked) own started (by kernel_rfl) Tryz.func4
  (ChangeSpec.witness6 (enc := enc) (C := Tryz.checked) false ⟨#[], #[.int .i8 0, .slice none 0 0, .slice none 0 0], []⟩ 8 (by kernel_rfl) (by kernel_rfl) (by kernel_rfl) (by kernel_rfl)) ?_
 intro W base args ds gs before hval hW _ _
 exact Ytx H enc W base args ds gs before hval hW
theorem freesSaid : Rows.CycleFreesSaid :=
 OpenClaim.holds_of_wide 4 Tryz.f4 rfl rfl rfl rfl rfl rfl rfl ⟨rfl, rfl, rfl, rfl, rfl⟩ rfl rfl rfl rfl rfl (by kernel_rfl) Tryz.func4 (by kernel_rfl)
  (of_decide_eq_true (by kernel_rfl)) (by unfold Func.isWrapper; first | (rw [if_pos (by decide +kernel)]; kernel_rfl) | (rw [if_neg (by decide +kernel)]; exact ⟨rfl, rfl⟩))
  (fun os started H enc _ => Yyj os started H enc)
#print axioms freesSaid
end
end Go.Proofs.YtdgcbapclnnkkaaGreat.X
