/- Part 4 of the proof that the law holds for every input: the theorems of this part. Conditions: each theorem bears its own; the last has none. -/
import Derived.Test.YtdgcbapclnnkkaaGreatKc
import Derived.Shelf.Sort.Plain
import Derived.Shelf.SlSortCmp.WholeK
import Derived.Shelf.SlSortCmp.NoneTotal
import Derived.Shelf.Slices.In.SortNone
import Derived.Ground.SlsfProg
import Derived.Test.YtdgcbapclnnkkaaGreatProg
set_option linter.all false
set_option maxRecDepth 4000
namespace Go.Proofs.YtdgcbapclnnkkaaGreat.X
open Go
section
variable {α β : Type} [DecidableEq α]
theorem Yon {γ δ : Type} (g : γ → δ) : ∀ (l : List γ) (i : Nat), (l.eraseIdx i).map g = (l.map g).eraseIdx i := by
 intro l
 induction l with
 |nil => intro i; rfl
 |cons x l ih =>
  intro i
  cases i with
  |zero => rfl
  |succ i => simp only [List.eraseIdx_cons_succ, List.map_cons, ih]
theorem Veo (x : α) : lkup ([] : List (α × β)) x = none := rfl
theorem Ydi (p : α × β) (l : List (α × β)) (x : α) : lkup (p :: l) x = if x = p.1 then some p.2 else lkup l x := by
 unfold lkup
 rw [List.find?_cons]
 by_cases h : x = p.1
 ·rw [decide_eq_true h, if_pos h]; rfl
 ·rw [decide_eq_false h, if_neg h]
theorem Yrz {l : List (α × β)} {x : α} (h : x ∉ l.map (·.1)) : lkup l x = none := by
 induction l with
 |nil => rfl
 |cons p l ih =>
  simp only [List.map_cons, List.mem_cons, not_or] at h
  rw [Ydi, if_neg h.1]; exact ih h.2
theorem Vaf {l : List (α × β)} (hn : (l.map (·.1)).Nodup) {x : α} {v : β} : lkup l x = some v ↔ (x, v) ∈ l := by
 induction l with
 |nil => simp [Veo]
 |cons p l ih =>
  simp only [List.map_cons, List.nodup_cons] at hn
  rw [Ydi, List.mem_cons]
  by_cases h : x = p.1
  ·rw [if_pos h]
   constructor
   ·intro e
    simp only [Option.some.injEq] at e
    left; rw [h, ← e]
   ·rintro (e | e)
    ·rw [← e]
    ·exact absurd (List.mem_map.2 ⟨_, e, h⟩) hn.1
  ·rw [if_neg h, ih hn.2]
   constructor
   ·exact .inr
   ·rintro (e | e)
    ·rw [← e] at h; exact absurd rfl h
    ·exact e
/-- a list with a pair put -/
def putL (l : List (α × β)) (k : α) (v : β) : List (α × β) := match l.findIdx? (fun p => decide (k = p.1)) with | some i => l.set i (k, v) | none => l ++ [(k, v)]
def updF (f : α → Option β) (k : α) (v : β) : α → Option β := fun x => if x = k then some v else f x
def delF (f : α → Option β) (k : α) : α → Option β := fun x => if x = k then none else f x
theorem Vag {k x : α} {v : β} : ∀ {l : List (α × β)} {i : Nat}, l.findIdx? (fun p => decide (k = p.1)) = some i → lkup (l.set i (k, v)) x = if x = k then some v else lkup l x := by
 intro l
 induction l with
 |nil => intro i h; simp at h
 |cons p l ih =>
  intro i h
  rw [List.findIdx?_cons] at h
  by_cases hk : k = p.1
  ·rw [decide_eq_true hk] at h
   simp only [if_true, Option.some.injEq] at h
   subst h
   rw [List.set_cons_zero, Ydi, Ydi]
   by_cases hx : x = k
   ·simp [hx]
   ·rw [if_neg hx, if_neg hx, if_neg (hk ▸ hx)]
  ·rw [decide_eq_false hk] at h
   simp only [Bool.false_eq_true, if_false, Option.map_eq_some_iff] at h
   obtain ⟨j, hj, rfl⟩ := h
   rw [List.set_cons_succ, Ydi, Ydi, ih hj]
   by_cases hx : x = p.1
   ·rw [if_pos hx, if_pos hx, if_neg (fun (e : x = k) => hk (e ▸ hx))]
   ·rw [if_neg hx, if_neg hx]
theorem Vbm {k x : α} : ∀ {l : List (α × β)} {i : Nat}, (l.map (·.1)).Nodup → l.findIdx? (fun p => decide (k = p.1)) = some i → lkup (l.eraseIdx i) x = if x = k then none else lkup l x := by
 intro l
 induction l with
 |nil => intro i _ h; simp at h
 |cons p l ih =>
  intro i hn h
  simp only [List.map_cons, List.nodup_cons] at hn
  rw [List.findIdx?_cons] at h
  by_cases hk : k = p.1
  ·rw [decide_eq_true hk] at h
   simp only [if_true, Option.some.injEq] at h
   subst h
   rw [List.eraseIdx_cons_zero, Ydi]
   by_cases hx : x = k
   ·rw [if_pos hx]; exact Yrz (by rw [hx, hk]; exact hn.1)
   ·rw [if_neg hx, if_neg (hk ▸ hx)]
  ·rw [decide_eq_false hk] at h
   simp only [Bool.false_eq_true, if_false, Option.map_eq_some_iff] at h
   obtain ⟨j, hj, rfl⟩ := h
   rw [List.eraseIdx_cons_succ, Ydi, Ydi, ih hn.2 hj]
   by_cases hx : x = p.1
   ·rw [if_pos hx, if_pos hx, if_neg (fun (e : x = k) => hk (e ▸ hx))]
   ·rw [if_neg hx, if_neg hx]
theorem Yhg {k : α} {l : List (α × β)} (h : l.findIdx? (fun p => decide (k = p.1)) = none) : k ∉ l.map (·.1) := by
 intro hm
 obtain ⟨p, hp, e⟩ := List.mem_map.1 hm
 have := List.findIdx?_eq_none_iff.1 h p hp
 simp [e] at this
theorem Vcz {k x : α} {v : β} {l : List (α × β)} (h : k ∉ l.map (·.1)) : lkup (l ++ [(k, v)]) x = if x = k then some v else lkup l x := by
 induction l with
 |nil => show lkup [(k, v)] x = _; rw [Ydi]
 |cons p l ih =>
  simp only [List.map_cons, List.mem_cons, not_or] at h
  rw [List.cons_append, Ydi, Ydi, ih h.2]
  by_cases hx : x = p.1
  ·rw [if_pos hx, if_pos hx, if_neg (fun (e : x = k) => h.1 (e ▸ hx))]
  ·rw [if_neg hx, if_neg hx]
theorem Yvn (l : List (α × β)) (k : α) (v : β) (x : α) : lkup (putL l k v) x = if x = k then some v else lkup l x := by
 unfold putL
 cases h : l.findIdx? (fun p => decide (k = p.1)) with
 |some i => exact Vag h
 |none => exact Vcz (Yhg h)
theorem Yvo (l : List (α × β)) (k : α) (z v : β) : (entL l k z)[entI l k]? = some (k, (lkup l k).getD z) ∧ (entL l k z).set (entI l k) (k, v) = putL l k v := by
 unfold entL entI putL
 cases h : l.findIdx? (fun p => decide (k = p.1)) with
 |none =>
  rw [Yrz (Yhg h)]
  simp
 |some i =>
  refine ⟨?_, rfl⟩
  obtain ⟨hlt, hpk, _⟩ := List.findIdx?_eq_some_iff_getElem.1 h
  have hpk' : k = l[i].1 := by simpa using hpk
  have := Vag (x := k) (v := l[i].2) h
  rw [if_pos rfl] at this
  have e : l.set i (k, l[i].2) = l := by
   apply List.ext_getElem?
   intro j
   rw [List.getElem?_set]
   by_cases hj : i = j
   ·subst hj; simp [hlt, hpk']
   ·simp [hj]
  rw [e] at this
  rw [this, List.getElem?_eq_getElem hlt, hpk']; rfl
end
section
variable {B : World} {P Q R : SL} {t : K} {Pg : Program} {α β : Type} [DecidableEq α] {mt kt et : TypeId} {ek : α → Value} {ev : β → Value}
def FOk (ek : α → Value) (ev : β → Value) (es : Array MapEntry) (c : Nat) (f : α → Option β) : Prop := ∃ l, MpOk ek ev es c l ∧ ∀ k, lkup l k = f k
def MpF (ek : α → Value) (ev : β → Value) (r : Nat) (f : α → Option β) : SL := ex fun x : Array MapEntry × Nat => pt r (.map x.1 x.2) * pu (FOk ek ev x.1 x.2 f)
theorem Ylx {r : Nat} {f : α → Option β} (h : ∀ es c, FOk ek ev es c f → T B (R * pt r (.map es c)) t) : T B (R * MpF ek ev r f) t := by
 refine Ywt fun x => ?_
 rw [← Yad]
 exact Yz5 fun ok => h x.1 x.2 ok
theorem Ydy {r : Nat} {f : α → Option β} {es : Array MapEntry} {c : Nat} (ok : FOk ek ev es c f) (h : T B (R * MpF ek ev r f) t) : T B (R * pt r (.map es c)) t := by
 refine Ysu ok ?_
 rw [Yad]
 exact Yjt (X := fun x : Array MapEntry × Nat => pt r (.map x.1 x.2) * pu (FOk ek ev x.1 x.2 f)) (es, c) h
/-- wherever the assertion holds, there is such a map -/
def MHas (ek : α → Value) (ev : β → Value) (P : SL) (r : Nat) (f : α → Option β) : Prop := ∀ B w, Sat B P w → ∃ es c, FOk ek ev es c f ∧ w.heap[r]? = some (.map es c)
theorem MHas.init {r : Nat} {f : α → Option β} (h : MHas ek ev P r f) : MHas ek ev (P * Q) r f := fun B w s => h B w s.left
theorem MHas.tail {r : Nat} {f : α → Option β} (h : MHas ek ev Q r f) : MHas ek ev (P * Q) r f := fun B w s => h B w s.right
theorem MHas.of {r : Nat} {f : α → Option β} (h : Frm P (MpF ek ev r f) R) : MHas ek ev P r f := by
 intro B w s
 unfold Frm at h; subst h
 have : T B (R * MpF ek ev r f) (fun w => ∃ es c, FOk ek ev es c f ∧ w.heap[r]? = some (.map es c)) := Ylx fun es c ok w s => ⟨es, c, ok, (s.has Has.last).1⟩
 exact this w s
theorem MHas.pt {r : Nat} {f : α → Option β} {es : Array MapEntry} {c : Nat} (ok : FOk ek ev es c f) (h : Has P r (.map es c)) : MHas ek ev P r f := fun B w s => ⟨es, c, ok, (s.has h).1⟩
theorem Yr0 (hD : KeyD Pg mt kt et ek) {r : Nat} {f : α → Option β} (h : MHas ek ev P r f) {key : α} {z : Value} {e : ESh} {k : Nat → Obj → e.T → Bool → K} (x : e.T)
  (hx : ((f key).map ev).getD z = e.enc x) (ht : ∀ ob, T B P (k r ob x (f key).isSome)) : T B P (lkE Pg kt z e (some r) (ek key) k) := by
 intro w s
 obtain ⟨es, c, ⟨l, ok, hl⟩, hh⟩ := h B w s
 obtain ⟨g, h1, h2, _, _⟩ := Yq3 (ev := ev) hD (key := key) es.toList l 0 ok.kv
 rw [hl] at h2
 refine ⟨r, es, c, g, rfl, hh, h1, x, ?_, ?_⟩
 ·rw [← hx, ← h2]
  cases g with
  |none => rfl
  |some q => rfl
 ·have : g.isSome = (f key).isSome := by
   have := congrArg Option.isSome h2
   simpa using this
  rw [this]; exact ht _ w s
theorem Vfs (hD : KeyD Pg mt kt et ek) {z : β} (hz : zeroP Pg et = some (ev z)) {r : Nat} {f : α → Option β} {key : α} {v : β} {sh : Sh} {vv : Value} (x : sh.T)
  (hx : ev ((f key).getD z) = sh.enc x) (hv : vv = ev v) (ht : T B (R * MpF ek ev r (updF f key v)) t) :
  T B (R * MpF ek ev r f) (semT Pg (Instr.mapEntry mt (.map (some r)) (ek key)) (.tup [.sc sh, .sc (.int .i64)]) fun e => semU Pg (Instr.entryStore mt (.map (some r)) (.int .i64 e.2) vv) t) := by
 refine Ylx fun es c ok => ?_
 obtain ⟨l, ok, hl⟩ := ok
 refine Yuc hD hD.same hz ok x (by rw [hl]; exact hx) fun stamp es' c' e ok' he hb => ?_
 obtain ⟨p1, p2⟩ := Yvo l key z v
 subst hb
 refine Yqa (mt := mt) ok' he p1 hv ?_
 rw [p2]
 refine Ywt fun y => ?_
 rw [← Yad]
 refine Yz5 fun ok2 => ?_
 refine Ydy ⟨_, ok2, fun k => ?_⟩ ht
 rw [Yvn, hl]; rfl
theorem Vah (hD : KeyD Pg mt kt et ek) {r : Nat} {f : α → Option β} {key : α} {v : β} {vv kk : Value} (hv : vv = ev v) (hkk : kk = ek key) (ht : T B (R * MpF ek ev r (updF f key v)) t) :
  T B (R * MpF ek ev r f) (semU Pg (Instr.mapUpdate mt (.map (some r)) kk vv) t) := by
 subst hv hkk
 refine Ylx fun es c ok => ?_
 obtain ⟨l, ok, hl⟩ := ok
 intro w s
 have hg := Yie (Pg := Pg) s Has.last
 obtain ⟨g, h1, h2, h3, h4⟩ := Yq3 hD (key := key) es.toList l 0 ok.kv
 obtain ⟨dk, hdk⟩ : ∃ d, Pg.underlying kt = some d := by
  cases hu : Pg.underlying kt with
  |none => have := hD.fine key; unfold keyFine at this; rw [hu] at this; simp at this
  |some d => exact ⟨d, rfl⟩
 have hll := Yxh ok.kv
 have fin : ∀ k, lkup (putL l key v) k = updF f key v k := fun k => by rw [Yvn, hl]; rfl
 unfold semU
 cases g with
 |none =>
  obtain ⟨w', r1, r2⟩ := Yfl (Pg := Pg) (.map (es.push { key := ek key, val := ev v, born := c }) (c + 1)) s
  have hrun : (Instr.mapUpdate mt (.map (some r)) (ek key) (ev v)).run Pg w = .ok () w' := by
   simp only [Instr.mapUpdate, Sem.run_bind, Ycl hD.und, Result.andThen_ok, hg, Yet (hD.fine key), Ygw hdk h1, r1]
  rw [hrun]
  have hn := h3 rfl
  have hnk := Yhg hn
  refine Ydy ⟨putL l key v, ?_, fin⟩ ht w' r2
  unfold putL; rw [hn]
  refine ⟨?_, ?_, fun e he => ?_, ?_⟩
  ·have := ok.kv
   simp only [kv, encs, Array.toList_push, List.map_append, List.map_cons, List.map_nil] at this ⊢
   rw [this]
  ·simp only [Array.toList_push, List.map_append, List.map_cons, List.map_nil]
   rw [List.nodup_append]
   refine ⟨ok.nod, by simp, fun a ha b hb => ?_⟩
   simp only [List.mem_singleton] at hb
   obtain ⟨e, he, rfl⟩ := List.mem_map.1 ha
   have := ok.old e he
   omega
  ·simp only [Array.toList_push, List.mem_append, List.mem_singleton] at he
   rcases he with he | rfl
   ·have := ok.old e he; omega
   ·simp
  ·simp only [List.map_append, List.map_cons, List.map_nil]
   rw [List.nodup_append]
   refine ⟨ok.keys, by simp, fun a ha b hb => ?_⟩
   simp only [List.mem_singleton] at hb
   rw [hb]; intro e; exact hnk (e ▸ ha)
 |some q =>
  obtain ⟨j, v0⟩ := q
  obtain ⟨n, hj, hn⟩ := h4 j v0 rfl
  have hjn : j = n := by omega
  subst hjn
  obtain ⟨hlt, hpk, _⟩ := List.findIdx?_eq_some_iff_getElem.1 hn
  have hpk' : key = l[j].1 := by simpa using hpk
  have hlt' : j < es.size := by
   have : es.size = l.length := by simpa using hll
   omega
  obtain ⟨hk1, hv1⟩ := Vem ok.kv (i := j) (e := es[j]) (p := l[j]) (by simp [hlt']) (by simp [hlt])
  have hke : es[j].key = ek key := by rw [hk1, hpk']
  obtain ⟨w', r1, r2⟩ := Yfl (Pg := Pg) (.map (es.modify j fun e => { e with key := ek key, val := ev v }) c) s
  have hstay : ∀ w, (Instr.keyThatStays (ek key) (ek key)).run Pg w = .ok (ek key) w := by
   intro w; unfold Instr.keyThatStays; rw [if_pos (hD.same key)]; rfl
  have hrun : (Instr.mapUpdate mt (.map (some r)) (ek key) (ev v)).run Pg w = .ok () w' := by
   simp only [Instr.mapUpdate, Sem.run_bind, Ycl hD.und, Result.andThen_ok, hg, Yet (hD.fine key), Ygw hdk h1, Array.getElem?_eq_getElem hlt', Option.map_some, Option.getD_some, hke, hstay, r1]
  rw [hrun]
  refine Ydy ⟨putL l key v, ?_, fin⟩ ht w' r2
  unfold putL; rw [hn]
  have htl : (es.modify j fun e => { e with key := ek key, val := ev v }).toList = es.toList.set j { es[j] with key := ek key, val := ev v } := by
   apply List.ext_getElem?
   intro i
   rw [Array.getElem?_toList, Array.getElem?_modify, List.getElem?_set, Array.getElem?_toList]
   by_cases hi : j = i
   ·subst hi; simp [hlt']
   ·simp [hi]
  refine ⟨?_, ?_, fun x hx => ?_, ?_⟩
  ·simp only [htl]
   have := ok.kv
   unfold kv encs at this ⊢
   rw [List.map_set, List.map_set, this]
  ·rw [htl, List.map_set]
   have : (es.toList.map (·.born)).set j es[j].born = es.toList.map (·.born) := by
    apply List.ext_getElem?
    intro i
    rw [List.getElem?_set]
    by_cases hi : j = i
    ·subst hi; simp [hlt']
    ·simp [hi]
   simp only [this]; exact ok.nod
  ·rw [htl] at hx
   rcases List.mem_or_eq_of_mem_set hx with h | h
   ·exact ok.old x h
   ·subst h; exact ok.old es[j] (by simp)
  ·rw [List.map_set]
   have : (l.map (·.1)).set j key = l.map (·.1) := by
    apply List.ext_getElem?
    intro i
    rw [List.getElem?_set]
    by_cases hi : j = i
    ·subst hi; simp [hlt, hpk']
    ·simp [hi]
   rw [this]; exact ok.keys
theorem Vc0 (hD : KeyD Pg mt kt et ek) {r : Nat} {f : α → Option β} {key : α} {kk : Value} {kt' : TypeId} {k : Unit → K} (hkk : kk = ek key) (ht : T B (R * MpF ek ev r (delF f key)) (k ())) :
  T B (R * MpF ek ev r f) (semT Pg (Builtin.delete_ #[mt, kt'] 0 #[.map (some r), kk]) (.tup []) k) := by
 subst hkk
 refine Ylx fun es c ok => ?_
 obtain ⟨l, ok, hl⟩ := ok
 intro w s
 have hg := Yie (Pg := Pg) s Has.last
 obtain ⟨g, h1, h2, h3, h4⟩ := Yq3 hD (key := key) es.toList l 0 ok.kv
 obtain ⟨dk, hdk⟩ : ∃ d, Pg.underlying kt = some d := by
  cases hu : Pg.underlying kt with
  |none => have := hD.fine key; unfold keyFine at this; rw [hu] at this; simp at this
  |some d => exact ⟨d, rfl⟩
 have hll := Yxh ok.kv
 unfold semT
 cases g with
 |none =>
  obtain ⟨w', r1, r2⟩ := Yfl (Pg := Pg) (.map es c) s
  have hrun : (Builtin.delete_ #[mt, kt'] 0 #[.map (some r), ek key]).run Pg w = .ok (.tuple #[]) w' := by
   simp [Builtin.delete_, Sem.run_bind, Ycl hD.und, Result.andThen_ok, hg, Yet (hD.fine key), Ygw hdk h1, r1]
  rw [hrun]
  refine ⟨(), rfl, ?_⟩
  have hn := Yhg (h3 rfl)
  refine Ydy ⟨l, ok, fun x => ?_⟩ ht w' r2
  unfold delF
  by_cases hx : x = key
  ·rw [if_pos hx, hx]; exact Yrz hn
  ·rw [if_neg hx]; exact hl x
 |some q =>
  obtain ⟨j, v0⟩ := q
  obtain ⟨n, hj, hn⟩ := h4 j v0 rfl
  have hjn : j = n := by omega
  subst hjn
  obtain ⟨hlt, hpk, _⟩ := List.findIdx?_eq_some_iff_getElem.1 hn
  have hlt' : j < es.size := by
   have : es.size = l.length := by simpa using hll
   omega
  obtain ⟨w', r1, r2⟩ := Yfl (Pg := Pg) (.map (es.eraseIdxIfInBounds j) c) s
  have hrun : (Builtin.delete_ #[mt, kt'] 0 #[.map (some r), ek key]).run Pg w = .ok (.tuple #[]) w' := by
   simp [Builtin.delete_, Sem.run_bind, Ycl hD.und, Result.andThen_ok, hg, Yet (hD.fine key), Ygw hdk h1, r1]
  rw [hrun]
  refine ⟨(), rfl, ?_⟩
  have htl : (es.eraseIdxIfInBounds j).toList = es.toList.eraseIdx j := by
   unfold Array.eraseIdxIfInBounds
   rw [dif_pos hlt']; simp
  refine Ydy ⟨l.eraseIdx j, ⟨?_, ?_, fun x hx => ?_, ?_⟩, fun x => ?_⟩ ht w' r2
  ·rw [htl]
   have := ok.kv
   unfold kv encs at this ⊢
   rw [Yon, Yon, this]
  ·rw [htl, Yon]; exact ok.nod.sublist (List.eraseIdx_sublist ..)
  ·rw [htl] at hx; exact ok.old x (List.mem_of_mem_eraseIdx hx)
  ·rw [Yon]; exact ok.keys.sublist (List.eraseIdx_sublist ..)
  ·rw [Vbm ok.keys hn, hl]; rfl
end
theorem Yf3 : ∀ (n : Nat) (l : List Nat), l.Nodup → (∀ x ∈ l, x < n) → l.length ≤ n
 |0, l, _, h => by
  cases l with
  |nil => simp
  |cons a _ => exact absurd (h a (by simp)) (by omega)
 |n + 1, l, hn, h => by
  by_cases hm : n ∈ l
  ·have h1 := Yf3 n (l.erase n) (hn.erase n) (fun x hx => by
    have := (List.Nodup.mem_erase_iff hn).1 hx
    have := h x this.2
    omega)
   rw [List.length_erase_of_mem hm] at h1
   omega
  ·have := Yf3 n l hn (fun x hx => by
    have h1 := h x hx
    have h2 : x ≠ n := fun e => hm (e ▸ hx)
    omega)
   omega
section
variable {B : World} {P Q R : SL} {t : K} {Pg : Program} {α β : Type} [DecidableEq α] {mt kt et : TypeId} {ek : α → Value} {ev : β → Value}
/-- an iterator, behind so many visited entries -/
def iter (es : Array MapEntry) (r c : Nat) (sn : List Nat) : Obj := .mapIter (some r) c (sn.reverse.map fun i => ((es[i]?).map (·.born)).getD 0).toArray c
structure Seen (l : List (α × β)) (sn : List Nat) : Prop where
 nd : sn.Nodup
 lt : ∀ i ∈ sn, i < l.length
def prsOf (l : List (α × β)) (sn : List Nat) : List (α × β) := sn.filterMap fun i => l[i]?
theorem Yud {l : List (α × β)} {i : Nat} {p : α × β} (h : l[i]? = some p) (sn : List Nat) : prsOf l (i :: sn) = p :: prsOf l sn := by
 unfold prsOf; rw [List.filterMap_cons, h]
theorem Yr1 {l : List (α × β)} {sn : List Nat} {p : α × β} : p ∈ prsOf l sn ↔ ∃ i ∈ sn, l[i]? = some p := by
 unfold prsOf; rw [List.mem_filterMap]
theorem Yxi {l : List α} (hn : l.Nodup) {i j : Nat} {a : α} (h1 : l[i]? = some a) (h2 : l[j]? = some a) : i = j := by
 obtain ⟨a1, b1⟩ := List.getElem?_eq_some_iff.1 h1
 obtain ⟨a2, b2⟩ := List.getElem?_eq_some_iff.1 h2
 rcases Nat.lt_trichotomy i j with h | h | h
 ·exact absurd (b1.trans b2.symm) ((List.pairwise_iff_getElem.1 hn) i j a1 a2 h)
 ·exact h
 ·exact absurd (b2.trans b1.symm) ((List.pairwise_iff_getElem.1 hn) j i a2 a1 h)
theorem Vai {l : List (α × β)} (hn : (l.map (·.1)).Nodup) {i j : Nat} {p q : α × β} (h1 : l[i]? = some p) (h2 : l[j]? = some q) (e : p.1 = q.1) : i = j :=
 Yxi hn (a := p.1) (by rw [List.getElem?_map, h1]; rfl) (by rw [List.getElem?_map, h2, e]; rfl)
theorem Yzj {l : List (α × β)} (hn : (l.map (·.1)).Nodup) {sn : List Nat} (h : Seen l sn) : ((prsOf l sn).map (·.1)).Nodup := by
 induction sn with
 |nil => simp [prsOf]
 |cons i sn ih =>
  have hnd := h.nd
  rw [List.nodup_cons] at hnd
  have hi := h.lt i (by simp)
  have hg : l[i]? = some l[i] := List.getElem?_eq_getElem hi
  rw [Yud hg, List.map_cons, List.nodup_cons]
  refine ⟨fun hm => ?_, ih ⟨hnd.2, fun j hj => h.lt j (by simp [hj])⟩⟩
  obtain ⟨q, hq, e⟩ := List.mem_map.1 hm
  obtain ⟨j, hj, hjq⟩ := Yr1.1 hq
  have := Vai hn hg hjq e.symm
  subst this
  exact hnd.1 hj
theorem Yxj {es : Array MapEntry} {c : Nat} {l : List (α × β)} (ok : MpOk ek ev es c l) {sn : List Nat} (h : Seen l sn) {i : Nat} {e : MapEntry} (he : es[i]? = some e) :
  (sn.reverse.map fun i => ((es[i]?).map (·.born)).getD 0).toArray.contains e.born = decide (i ∈ sn) := by
 have hl := Yxh ok.kv
 rw [Bool.eq_iff_iff]
 simp only [List.contains_toArray, List.contains_iff_mem, List.mem_map, List.mem_reverse, decide_eq_true_eq]
 constructor
 ·rintro ⟨j, hj, e1⟩
  have hjl : j < es.size := by have := h.lt j hj; simp at hl; omega
  have hjs : es[j]? = some es[j] := Array.getElem?_eq_getElem hjl
  rw [hjs] at e1
  simp only [Option.map_some, Option.getD_some] at e1
  have : i = j := Yxi ok.nod (a := e.born) (by rw [List.getElem?_map, Array.getElem?_toList, he]; rfl) (by rw [List.getElem?_map, Array.getElem?_toList, hjs, ← e1]; rfl)
  subst this; exact hj
 ·intro hi
  exact ⟨i, hi, by rw [he]; rfl⟩
theorem Yxk {w : World} {r : Nat} {o o' : Obj} (s : Sat B (R * pt r o) w) : Sat B (R * pt r o') (ChangeMaps.setBlock w r o') := by
 have hr := (s.has (b := r) (o := o) Has.last).1
 have hlt : r < w.heap.size := (Array.getElem?_eq_some_iff.1 hr).1
 refine s.upd Upd.last ?_ ?_ rfl rfl rfl (by simp [ChangeMaps.setBlock])
 ·simp [ChangeMaps.setBlock, hlt]
 ·intro x hx; simp [ChangeMaps.setBlock, Ne.symm hx]
theorem Vaj {σ : Type} (hD : KeyD Pg mt kt et ek) {r : Nat} {f : α → Option β} {s0 : σ} {body : σ → (σ → K) → Value × Value → K} {ex : σ → K} {ty : TypeId} (R' : σ → List (α × β) → SL) (φ : σ → List (α × β) → Prop)
  (hP : ∀ t, T B (R' s0 [] * MpF ek ev r f) t → T B P t) (h0 : φ s0 [])
  (hstep : ∀ s sn key v (It : SL) (c : σ → K), φ s sn → f key = some v → key ∉ sn.map (·.1) → MHas ek ev It r f → (∀ X t, T B (X * MpF ek ev r f) t → T B (X * It) t) → (∀ s', φ s' ((key, v) :: sn) → T B (R' s' ((key, v) :: sn) * It) (c s')) → T B (R' s sn * It) (body s c (ek key, ev v)))
  (hend : ∀ s sn, φ s sn → (sn.map (·.1)).Nodup → (∀ key v, f key = some v ↔ (key, v) ∈ sn) → T B (R' s sn * MpF ek ev r f) (ex s)) :
  T B P (semT Pg (Instr.range mt (.map (some r))) (.one (.sc .ptr)) fun it => lp (fun z cc => nextM Pg (Instr.next (.pointer it) false ty) fun go rest => brK go (semT Pg (Instr.entry (.pointer it)) (.tup [.sc .any, .sc .any]) fun e => body z cc e) (ex z)) s0) := by
 refine hP _ ?_
 refine Ylx fun es c ok => ?_
 obtain ⟨l, ok, hl⟩ := ok
 have hll := Yxh ok.kv
 intro w s
 have hrun : (Instr.range mt (.map (some r))).run Pg w = .ok (.pointer (some ⟨w.heap.size, 0, none⟩)) { w with heap := w.heap.push (.mapIter (some r) c #[] c) } := by
  have hg := Yie (Pg := Pg) s Has.last
  simp only [Instr.range, Sem.run_bind, Ycl hD.und, Result.andThen_ok, hg]
  rfl
 unfold semT
 rw [hrun]
 refine ⟨some ⟨w.heap.size, 0, none⟩, rfl, ?_⟩
 have s2 := s.alloc (o := .mapIter (some r) c #[] c)
 generalize hit : w.heap.size = it at *
 generalize ({ w with heap := w.heap.push (.mapIter (some r) c #[] c) } : World) = w2 at s2 ⊢
 clear hrun s
 -- the rounds
 refine Yl2 (B := B) (P := R' s0 [] * pt r (.map es c) * pt it (.mapIter (some r) c #[] c)) (fun n s => _root_.Go.Proofs.YtdgcbapclnnkkaaGreat.X.ex fun sn => R' s (prsOf l sn) * pt r (.map es c) * pt it (iter es r c sn) * pu (Seen l sn ∧ n = l.length - sn.length ∧ φ s (prsOf l sn))) (fun _ _ => True) l.length (fun t ht => ?_) trivial ?_ w2 s2
 ·intro w3 s3
  obtain ⟨⟨g, hg, hgb⟩, hk⟩ := Sat.puI (φ := Seen l [] ∧ l.length = l.length - ([] : List Nat).length ∧ φ s0 (prsOf l [])) ⟨⟨List.nodup_nil, by simp⟩, by simp, h0⟩ s3
  exact ht w3 ⟨⟨g, ⟨[], hg⟩, hgb⟩, hk⟩
 ·intro n s cc _ hc
  intro w3 s3
  obtain ⟨⟨g, ⟨sn, hg⟩, hgb⟩, hk⟩ := s3
  have s3 : Sat B (R' s (prsOf l sn) * pt r (.map es c) * pt it (iter es r c sn) * pu (Seen l sn ∧ n = l.length - sn.length ∧ φ s (prsOf l sn))) w3 := ⟨⟨g, hg, hgb⟩, hk⟩
  clear hg hgb hk
  have key : Seen l sn → n = l.length - sn.length → φ s (prsOf l sn) → T B (R' s (prsOf l sn) * pt r (.map es c) * pt it (iter es r c sn)) (nextM Pg (Instr.next (.pointer (some ⟨it, 0, none⟩)) false ty) fun go rest => brK go (semT Pg (Instr.entry (.pointer (some ⟨it, 0, none⟩))) (.tup [.sc .any, .sc .any]) fun e => body s cc e) (ex s)) := by
   intro hs hn hφ w4 s4
   have hb : w4.heap[r]? = some (.map es c) := (s4.has (Has.init Has.last)).1
   have hi : w4.heap[it]? = some (iter es r c sn) := (s4.has Has.last).1
   unfold nextM
   rcases run_next_at (P := Pg) w4 ty it r c c _ es c hi hb ok.old (Nat.le_refl _) with ⟨z1, z2⟩ | ⟨e, he, w5, hw5, hr5⟩
   ·rw [z2]
    refine ⟨false, [], rfl, ?_⟩
    have all : ∀ i, i < l.length → i ∈ sn := by
     intro i hil
     have hie : i < es.size := by simp at hll; omega
     have hz : leftOf es (sn.reverse.map fun i => ((es[i]?).map (·.born)).getD 0).toArray = #[] := Array.eq_empty_of_size_eq_zero z1
     unfold leftOf at hz
     rw [Array.filter_eq_empty_iff] at hz
     have := hz es[i] (by simp)
     rw [Yxj ok hs (i := i) (Array.getElem?_eq_getElem hie)] at this
     simpa using this
    have hfin : T B (R' s (prsOf l sn) * pt r (.map es c) * pt it (iter es r c sn)) (ex s) := by
     refine T.weak ?_
     refine Ydy ⟨l, ok, hl⟩ ?_
     refine hend s _ hφ (Yzj ok.keys hs) fun k v => ?_
     rw [← hl, Vaf ok.keys, Yr1]
     constructor
     ·intro hm
      obtain ⟨i, hi, he⟩ := List.mem_iff_getElem.1 hm
      exact ⟨i, all i hi, by rw [List.getElem?_eq_getElem hi, he]⟩
     ·rintro ⟨i, _, he⟩; exact List.mem_of_getElem? he
    exact hfin w4 s4
   ·rw [hr5]
    refine ⟨true, [e.key, e.val], rfl, ?_⟩
    obtain ⟨hem, hen⟩ := Array.mem_filter.1 (Array.mem_def.2 he)
    obtain ⟨i, hie, hei⟩ := Array.mem_iff_getElem.1 hem
    have hei' : es[i]? = some e := by rw [Array.getElem?_eq_getElem hie, hei]
    rw [Yxj ok hs hei'] at hen
    have hni : i ∉ sn := by simpa using hen
    have hil : i < l.length := by simp at hll; omega
    obtain ⟨ke, ve⟩ := Vem ok.kv (i := i) (e := e) (p := l[i]) (by simpa using hei') (List.getElem?_eq_getElem hil)
    have s5 : Sat B (R' s (prsOf l sn) * pt r (.map es c) * pt it (iter es r c sn)) w5 := by
     rcases hw5 with rfl | rfl
     ·exact s4
     ·exact s4.drew _
    have s6 := Yxk (o' := iter es r c (i :: sn)) s5
    have hit' : iter es r c (i :: sn) = .mapIter (some r) c ((sn.reverse.map fun i => ((es[i]?).map (·.born)).getD 0).toArray.push e.born) c := by
     unfold iter
     rw [List.reverse_cons, List.map_append, List.map_singleton, hei']
     simp
    rw [← hit']
    generalize ChangeMaps.setBlock w5 it (iter es r c (i :: sn)) = w6 at s6
    have hb6 : w6.heap[r]? = some (.map es c) := (s6.has (Has.init Has.last)).1
    have hi6 : w6.heap[it]? = some (iter es r c (i :: sn)) := (s6.has Has.last).1
    rw [hit'] at hi6
    have hent := run_entry_at (P := Pg) w6 it r c _ es c e hi6 hb6 (by simpa using hem) ok.nod
    show semT Pg (Instr.entry (.pointer (some ⟨it, 0, none⟩))) (.tup [.sc .any, .sc .any]) (fun e => body s cc e) w6
    unfold semT
    rw [hent]
    refine ⟨(e.key, e.val), rfl, ?_⟩
    rw [ke, ve]
    have hs' : Seen l (i :: sn) := ⟨List.nodup_cons.2 ⟨hni, hs.nd⟩, fun j hj => by
     rcases List.mem_cons.1 hj with rfl | hj
     ·exact hil
     ·exact hs.lt j hj⟩
    have hpc : prsOf l (i :: sn) = (l[i].1, l[i].2) :: prsOf l sn := Yud (List.getElem?_eq_getElem hil) sn
    have hlen : sn.length < l.length := by
     have := Yf3 l.length (i :: sn) hs'.nd hs'.lt
     simp only [List.length_cons] at this
     omega
    have hb := hstep s (prsOf l sn) l[i].1 l[i].2 (pt r (.map es c) * pt it (iter es r c (i :: sn))) cc hφ (by rw [← hl, Vaf ok.keys]; exact List.getElem_mem hil) (fun hm => by
     obtain ⟨q, hq, e⟩ := List.mem_map.1 hm
     obtain ⟨j, hj, hjq⟩ := Yr1.1 hq
     have := Vai ok.keys (List.getElem?_eq_getElem hil) hjq e.symm
     subst this; exact hni hj) (MHas.init (MHas.pt ⟨l, ok, hl⟩ Has.one)) (fun X t ht => by
      rw [← Yad]
      exact T.weak (Ydy ⟨l, ok, hl⟩ ht)) (fun s' hφ' => by
      have hcc := hc (l.length - (i :: sn).length) s' (by rw [hn]; simp; omega) trivial
      intro w7 s7
      refine hcc w7 ?_
      rw [← hpc] at hφ' s7
      rw [← Yad] at s7
      obtain ⟨⟨g, hg, hgb⟩, hk⟩ := Sat.puI (φ := Seen l (i :: sn) ∧ l.length - (i :: sn).length = l.length - (i :: sn).length ∧ φ s' (prsOf l (i :: sn))) ⟨hs', rfl, hφ'⟩ s7
      exact ⟨⟨g, ⟨i :: sn, hg⟩, hgb⟩, hk⟩)
    rw [← Yad] at hb
    exact hb w6 s6
  have k2 : T B (R' s (prsOf l sn) * pt r (.map es c) * pt it (iter es r c sn) * pu (Seen l sn ∧ n = l.length - sn.length ∧ φ s (prsOf l sn))) _ := Yz5 fun h => key h.1 h.2.1 h.2.2
  exact k2 w3 s3
end
def bigS : Nat → (Nat → SL) → SL
 |0, _ => emp
 |n + 1, f => bigS n f * f n
theorem Yue {n : Nat} {f f' : Nat → SL} (h : ∀ i, i < n → f i = f' i) : bigS n f = bigS n f' := by
 induction n with
 |zero => rfl
 |succ n ih => unfold bigS; rw [ih fun i hi => h i (by omega), h n (by omega)]
/-- all but one -/
def bigX (n : Nat) (f : Nat → SL) (i : Nat) : SL := bigS n fun j => if j = i then emp else f j
theorem Yhh {n : Nat} {f : Nat → SL} {i : Nat} (h : i < n) : bigS n f = bigX n f i * f i := by
 unfold bigX
 induction n with
 |zero => omega
 |succ n ih =>
  unfold bigS
  by_cases e : i = n
  ·subst e
   simp only [if_true]
   rw [Yuv]
   congr 1
   exact Yue fun j hj => by rw [if_neg (by omega)]
  ·have e2 : ¬ n = i := Ne.symm e
   simp only [if_neg e2]
   rw [ih (by omega), Yad, Yc8 (f i), ← Yad]
theorem Vbn {n : Nat} {f f' : Nat → SL} {i : Nat} (h : ∀ j, j < n → j ≠ i → f j = f' j) : bigX n f i = bigX n f' i := by
 unfold bigX
 refine Yue fun j hj => ?_
 by_cases e : j = i
 ·rw [if_pos e, if_pos e]
 ·rw [if_neg e, if_neg e, h j hj e]
theorem Vgj {n : Nat} {f f' : Nat → SL} {i : Nat} (h : i < n) (hc : ∀ j, j < n → j ≠ i → f j = f' j) : bigX n f i * f' i = bigS n f' := by
 rw [Vbn hc, ← Yhh h]
/-- all but two -/
theorem Vep {n : Nat} {f : Nat → SL} {i j : Nat} (h : j < n) (hij : j ≠ i) : bigX n f i = bigX n (fun x => if x = i then emp else f x) j * f j := by
 show bigS n (fun x => if x = i then emp else f x) = _
 rw [Yhh h, if_neg hij]
def ei (n : Int) : Value := .int .i64 n
abbrev RF := Int → Option Int
theorem Ynd : KeyD (α := Int) Tryz.prog 240 3 3 ei := by
 refine ⟨by kernel_rfl, fun a b => ?_, fun a => by kernel_rfl, fun a b h => ?_, fun a => ?_⟩
 ·show keyEq Tryz.prog 3 (.int .i64 a) (.int .i64 b) = _
  unfold keyEq
  rw [show Program.underlying Tryz.prog 3 = some (.int .i64) by kernel_rfl]
  simp only [if_true]
  rw [Bool.beq_eq_decide_eq]
 ·unfold ei at h; injection h
 ·show ((IntKind.i64 == IntKind.i64) && a == a) = true
  simp
structure RunsOk (lim : Int) (F : RF) : Prop where
 big : lim ≤ 2 ^ 20
 rng : ∀ s n, F s = some n → 1 ≤ s ∧ 1 ≤ n ∧ s + n ≤ lim
 sep : ∀ s n s' n', F s = some n → F s' = some n' → s < s' → s + n < s'
def Ends (F E : RF) : Prop := ∀ e s, E e = some s ↔ ∃ n, F s = some n ∧ e = s + n
/-- a block in a run -/
def InR (F : RF) (b : Int) : Prop := ∃ s n, F s = some n ∧ s ≤ b ∧ b < s + n
def Idx (x : Nat) (lim : Int) (F : RF) : SL := ex fun q : Nat × Nat × RF => MpF ei ei q.1 F * MpF ei ei q.2.1 q.2.2 * pt x (.cells [.map (some q.1), .map (some q.2.1), .int .i64 lim].toArray 242) * pu (Ends F q.2.2)
section
variable {B : World} {P R : SL} {t : K}
theorem Yzk {α β : Type} [DecidableEq α] {ek : α → Value} {ev : β → Value} : FOk ek ev #[] 0 (fun _ => none) := ⟨[], ⟨rfl, by simp, by simp, by simp⟩, fun _ => rfl⟩
theorem Yjd {x : Nat} {lim : Int} {F : RF} (h : ∀ r1 r2 E, Ends F E → T B (R * MpF ei ei r1 F * MpF ei ei r2 E * pt x (.cells [.map (some r1), .map (some r2), .int .i64 lim].toArray 242)) t) : T B (R * Idx x lim F) t := by
 refine Ywt fun q => ?_
 rw [← Yad]
 refine Yz5 fun ok => T.perm ?_ (h q.1 q.2.1 q.2.2 ok)
 simp only [Yad]
theorem Ydj {x : Nat} {lim : Int} {F : RF} {r1 r2 : Nat} {E : RF} (ok : Ends F E) (h : T B (R * Idx x lim F) t) : T B (R * MpF ei ei r1 F * MpF ei ei r2 E * pt x (.cells [.map (some r1), .map (some r2), .int .i64 lim].toArray 242)) t := by
 have h2 := Yjt (B := B) (R := R) (t := t) (X := fun q : Nat × Nat × RF => MpF ei ei q.1 F * MpF ei ei q.2.1 q.2.2 * pt x (.cells [.map (some q.1), .map (some q.2.1), .int .i64 lim].toArray 242) * pu (Ends F q.2.2)) (r1, r2, E) h
 rw [← Yad] at h2
 refine T.perm ?_ (Ysu ok h2)
 simp only [Yad]
theorem Vbo {lim : Int} (hl : 0 ≤ lim) {k : Option Addr → K} (hk : ∀ x, T B (R * Idx x lim (fun _ => none)) (k (da x))) : T B R (Ypa lim k) := by
 refine Yaq (Yzh lim k) ?_
 have e0 : max2I lim 0 = lim := by unfold max2I; split <;> omega
 (dsimp only [Vad, Zdu0, Zdu1])
 rw [e0]
 refine Ya7 fun r1 => ?_
 refine Ydy (ek := ei) (ev := ei) (Yzk (α := Int) (β := Int)) ?_
 refine Ya7 fun r2 => ?_
 refine Ydy (ek := ei) (ev := ei) (Yzk (α := Int) (β := Int)) ?_
 refine Ya7 fun x => ?_
 refine Ydj (r1 := r1) (r2 := r2) (E := fun _ => none) (fun e s => ?_) (hk x)
 simp
theorem Ypr {x : Nat} {lim : Int} {F : RF} {start n : Int} {k : Unit → K} (h0 : F start = none) (h1 : ∀ s m, F s = some m → s + m ≠ start + n) (hw : -9223372036854775808 ≤ start + n ∧ start + n ≤ 9223372036854775807)
  (hk : T B (R * Idx x lim (updF F start n)) (k ())) : T B (R * Idx x lim F) (Yck (da x) start n k) := by
 refine Yaq (Ypo _ start n k) ?_
 unfold da
 refine Yjd fun r1 r2 E hE => ?_
 (repeat (first | with_reducible refine Yam ?_ | with_reducible refine Yak ?_ | ((with_reducible apply Yd8); (focus rfl); (focus exact hasA); (focus rfl))))
 rw [w64 hw.1 hw.2]
 refine Yaa (X := MpF ei ei r1 F) (.init (.init .last)) ?_
 refine Vfs (ek := ei) (ev := ei) Ynd (z := (0 : Int)) (by kernel_rfl) ((F start).getD 0) rfl rfl ?_
 refine Yaa (X := MpF ei ei r2 E) (.init (.init .last)) ?_
 refine Vfs (ek := ei) (ev := ei) Ynd (z := (0 : Int)) (by kernel_rfl) ((E (start + n)).getD 0) rfl rfl ?_
 refine T.perm ?_ (Ydj (R := R) (r1 := r1) (r2 := r2) (E := updF E (start + n) start) ?_ hk)
 ·ac_rfl
 ·intro e s
  unfold updF
  by_cases he : e = start + n
  ·rw [if_pos he]
   constructor
   ·intro h
    simp only [Option.some.injEq] at h
    subst h
    exact ⟨n, by rw [if_pos rfl], he⟩
   ·rintro ⟨m, h, h2⟩
    by_cases hs : s = start
    ·rw [hs]
    ·rw [if_neg hs] at h
     exact absurd (h2.symm.trans he) (h1 s m h)
  ·rw [if_neg he, hE]
   constructor
   ·rintro ⟨m, h, h2⟩
    have hs : s ≠ start := fun hs => by rw [hs, h0] at h; cases h
    exact ⟨m, by rw [if_neg hs]; exact h, h2⟩
   ·rintro ⟨m, h, h2⟩
    by_cases hs : s = start
    ·rw [if_pos hs] at h
     simp only [Option.some.injEq] at h
     subst h hs; exact absurd h2 he
    ·rw [if_neg hs] at h; exact ⟨m, h, h2⟩
theorem Yne {x : Nat} {lim : Int} {F : RF} {start n : Int} {k : Unit → K} (h0 : F start = some n) (hw : -9223372036854775808 ≤ start + n ∧ start + n ≤ 9223372036854775807)
  (hk : T B (R * Idx x lim (delF F start)) (k ())) : T B (R * Idx x lim F) (Yb8 (da x) start k) := by
 refine Yaq (Yok _ start k) ?_
 unfold da
 refine Yjd fun r1 r2 E hE => ?_
 (repeat (first | with_reducible refine Yam ?_ | with_reducible refine Yak ?_ | ((with_reducible apply Yd8); (focus rfl); (focus exact hasA); (focus rfl))))
 refine Yr0 (ek := ei) (ev := ei) Ynd (r := r1) (f := F) (MHas.init (MHas.init (MHas.of .last))) n (by rw [h0]; rfl) fun ob => ?_
 rw [w64 hw.1 hw.2]
 refine Yaa (X := MpF ei ei r2 E) (.init .last) ?_
 refine Vc0 (ek := ei) (ev := ei) Ynd rfl ?_
 (repeat (first | with_reducible refine Yam ?_ | ((with_reducible apply Yd8); (focus rfl); (focus exact hasA); (focus rfl))))
 refine Yaa (X := MpF ei ei r1 F) (.init (.init .last)) ?_
 refine Vc0 (ek := ei) (ev := ei) Ynd rfl ?_
 refine T.perm ?_ (Ydj (R := R) (r1 := r1) (r2 := r2) (E := delF E (start + n)) ?_ hk)
 ·ac_rfl
 ·intro e s
  unfold delF
  have hs0 : E (start + n) = some start := (hE _ _).2 ⟨n, h0, rfl⟩
  by_cases he : e = start + n
  ·rw [if_pos he]
   constructor
   ·intro h; cases h
   ·rintro ⟨m, h, h2⟩
    by_cases hs : s = start
    ·rw [if_pos hs] at h; cases h
    ·rw [if_neg hs] at h
     have h3 := (hE e s).2 ⟨m, h, h2⟩
     rw [he, hs0] at h3
     exact absurd (Option.some.inj h3).symm hs
  ·rw [if_neg he, hE]
   constructor
   ·rintro ⟨m, h, h2⟩
    have hs : s ≠ start := fun hs => by rw [hs, h0] at h; cases h; exact he (by rw [h2, hs])
    exact ⟨m, by rw [if_neg hs]; exact h, h2⟩
   ·rintro ⟨m, h, h2⟩
    by_cases hs : s = start
    ·rw [if_pos hs] at h; cases h
    ·rw [if_neg hs] at h; exact ⟨m, h, h2⟩
theorem Vak {kd : IntKind} {v : Value} {k : Int → K} (n : Int) (h : v = .int kd n) (ht : T B P (k n)) : T B P (decSh (.int kd) v k) := by
 subst h
 show T B P (gd (decide (kd = kd)) (k n))
 rw [decide_eq_true rfl]; exact ht
theorem Vbp {x : Nat} {lim b : Int} {F : RF} {k : Bool → K} (ok : RunsOk lim F) (h1 : InR F b → T B (R * Idx x lim F) (k true)) (h0 : ¬ InR F b → T B (R * Idx x lim F) (k false)) : T B (R * Idx x lim F) (Ygc (da x) b k) := by
 refine Yaq (Ypn _ b k) ?_
 unfold da
 refine Yjd fun r1 r2 E hE => ?_
 have hB := ok.big
 (repeat (first | with_reducible refine Yam ?_ | ((with_reducible apply Yd8); (focus rfl); (focus exact hasA); (focus rfl))))
 (dsimp only [Ymi, Zdm0, Zdm1, Zdm2, Zdm3, Zdm4, Zdm5, Zdm6, Zdm7, Zdm8])
 refine Yaa (X := MpF ei ei r1 F) (.init (.init .last)) ?_
 have cl : ∀ t, T B (R * Idx x lim F) t → T B (R * MpF ei ei r2 E * pt x (.cells [.map (some r1), .map (some r2), .int .i64 lim].toArray 242) * MpF ei ei r1 F) t := fun t h => T.perm (by ac_rfl) (Ydj (R := R) (r1 := r1) (r2 := r2) hE h)
 refine Vaj (ek := ei) (ev := ei) Ynd (fun _ _ => R * MpF ei ei r2 E * pt x (.cells [.map (some r1), .map (some r2), .int .i64 lim].toArray 242)) (fun _ sn => ∀ s m, (s, m) ∈ sn → ¬ (s ≤ b ∧ b < s + m)) (fun t h => h) (by simp) ?_ ?_
 ·intro s sn key v It c hφ hf hn hM hW hc
  have hr := ok.rng _ _ hf
  refine Vak key rfl ?_
  refine Vak v rfl ?_
  rw [w64 (by omega) (by omega)]
  (repeat' (first | with_reducible refine Yau ?_ | with_reducible refine Yai (fun _ => ?_) (fun _ => ?_)))
  ·refine hW _ _ (cl _ (h1 ⟨key, v, hf, ?_⟩))
   omega
  ·refine hc _ fun s m hm => ?_
   rcases List.mem_cons.1 hm with h | h
   ·cases h; omega
   ·exact hφ s m h
  ·refine hc _ fun s m hm => ?_
   rcases List.mem_cons.1 hm with h | h
   ·cases h; omega
   ·exact hφ s m h
 ·intro s sn hφ hn hcov
  refine cl _ (h0 ?_)
  rintro ⟨s, m, hs, hb⟩
  exact hφ s m ((hcov s m).1 hs) hb
end
def takeF (F : RF) (b n m : Int) : RF := if n < m then updF (delF F b) (b + n) (m - n) else delF F b
section
variable {B : World} {P R : SL} {t : K}
theorem Yr2 {x : Nat} {lim n : Int} {F : RF} {k : Int × Int → K} (ok : RunsOk lim F) (hn : 1 ≤ n)
  (h0 : (∀ s m, F s = some m → m < n) → T B (R * Idx x lim F) (k (0, 4)))
  (h1 : ∀ b m, F b = some m → n ≤ m → (∀ s m', F s = some m' → n ≤ m' → m < m' ∨ m = m' ∧ b ≤ s) → T B (R * Idx x lim (takeF F b n m)) (k (b, 0))) : T B (R * Idx x lim F) (Yd3 (da x) n k) := by
 refine Yaq (Yol _ n k) ?_
 have hB := ok.big
 unfold da
 (repeat' (first | with_reducible refine Yam ?_ | with_reducible refine Yai (fun _ => ?_) (fun _ => ?_)))
 ·exfalso; omega
 refine Yjd fun r1 r2 E hE => ?_
 (repeat (((with_reducible apply Yd8); (focus rfl); (focus exact hasA); (focus rfl))))
 (dsimp only [Yk6, Zdo0, Zdo1, Zdo2, Zdo3, Zdo4, Zdo5, Zdo6, Zdo7, Zdo8, Zdo9, Zdo10, Zdo11, Zdo12, Zdo13, Zdo14, Zdo15, Zdo16])
 refine Yaa (X := MpF ei ei r1 F) (.init (.init .last)) ?_
 have cl : ∀ t, T B (R * Idx x lim F) t → T B (R * MpF ei ei r2 E * pt x (.cells [.map (some r1), .map (some r2), .int .i64 lim].toArray 242) * MpF ei ei r1 F) t := fun t h => T.perm (by ac_rfl) (Ydj (R := R) (r1 := r1) (r2 := r2) hE h)
 refine Vaj (ek := ei) (ev := ei) Ynd (fun _ _ => R * MpF ei ei r2 E * pt x (.cells [.map (some r1), .map (some r2), .int .i64 lim].toArray 242))
  (fun z sn => (z.1 = -1 ∧ ∀ s m, (s, m) ∈ sn → m < n) ∨ (∃ kb, F z.1 = some kb ∧ n ≤ kb ∧ ∀ s m, (s, m) ∈ sn → n ≤ m → kb < m ∨ kb = m ∧ z.1 ≤ s)) (fun t h => h) (.inl ⟨rfl, by simp⟩) ?_ ?_
 ·rintro ⟨best, u⟩ sn key v It c hφ hf hni hM hW hc
  have hr := ok.rng _ _ hf
  simp only at hφ ⊢
  refine Vak key rfl ?_
  refine Vak v rfl ?_
  -- what is kept
  have keep : ¬ n ≤ v → T B (R * MpF ei ei r2 E * pt x (.cells [.map (some r1), .map (some r2), .int .i64 lim].toArray 242) * It) (c (best, ())) := by
   intro hv
   refine hc _ ?_
   rcases hφ with ⟨e1, e2⟩ | ⟨kb, e1, e2, e3⟩
   ·refine .inl ⟨e1, fun s m hm => ?_⟩
    rcases List.mem_cons.1 hm with h | h
    ·cases h; omega
    ·exact e2 s m h
   ·refine .inr ⟨kb, e1, e2, fun s m hm hnm => ?_⟩
    rcases List.mem_cons.1 hm with h | h
    ·cases h; omega
    ·exact e3 s m h hnm
  have sw : n ≤ v → (∀ s m, (s, m) ∈ sn → n ≤ m → v < m ∨ v = m ∧ key ≤ s) → T B (R * MpF ei ei r2 E * pt x (.cells [.map (some r1), .map (some r2), .int .i64 lim].toArray 242) * It) (c (key, ())) := by
   intro hv hall
   refine hc _ (.inr ⟨v, hf, hv, fun s m hm hnm => ?_⟩)
   rcases List.mem_cons.1 hm with h | h
   ·cases h; omega
   ·exact hall s m h hnm
  rcases hφ with ⟨e1, e2⟩ | ⟨kb, e1, e2, e3⟩
  ·(repeat' (first | with_reducible refine Yam ?_ | with_reducible refine Yal ?_ | with_reducible refine Yau ?_ | ((with_reducible apply Yd8); (focus rfl); (focus exact hasA); (focus rfl)) | with_reducible refine Yai (fun _ => ?_) (fun _ => ?_)))
   ·refine sw (by omega) fun s m hm hnm => ?_
    have := e2 s m hm; omega
   ·exfalso; omega
   ·exact keep (by omega)
  ·have hb := ok.rng _ _ e1
   (repeat' (first | with_reducible refine Yam ?_ | with_reducible refine Yal ?_ | with_reducible refine Yau ?_ | ((with_reducible apply Yd8); (focus rfl); (focus exact hasA); (focus rfl)) | with_reducible refine Yai (fun _ => ?_) (fun _ => ?_)))
   ·exfalso; omega
   ·refine Yr0 (ek := ei) (ev := ei) Ynd (r := r1) (f := F) hM.tail kb (by rw [e1]; rfl) fun ob => ?_
    (repeat' (first | with_reducible refine Yam ?_ | with_reducible refine Yal ?_ | ((with_reducible apply Yd8); (focus rfl); (focus exact hasA); (focus rfl)) | with_reducible refine Yai (fun _ => ?_) (fun _ => ?_)))
    ·refine sw (by omega) fun s m hm hnm => ?_
     have := e3 s m hm hnm; omega
    ·refine Yr0 (ek := ei) (ev := ei) Ynd (r := r1) (f := F) hM.tail kb (by rw [e1]; rfl) fun ob => ?_
     (repeat' (first | with_reducible refine Yau ?_ | with_reducible refine Yai (fun _ => ?_) (fun _ => ?_) | with_reducible refine Ybr (fun _ => ?_) (fun _ => ?_)))
     ·refine sw (by omega) fun s m hm hnm => ?_
      have := e3 s m hm hnm; omega
     ·refine hc _ (.inr ⟨kb, e1, e2, fun s m hm hnm => ?_⟩)
      rcases List.mem_cons.1 hm with h | h
      ·cases h; omega
      ·exact e3 s m h hnm
     ·refine hc _ (.inr ⟨kb, e1, e2, fun s m hm hnm => ?_⟩)
      rcases List.mem_cons.1 hm with h | h
      ·cases h; omega
      ·exact e3 s m h hnm
   ·exact keep (by omega)
 ·rintro ⟨best, u⟩ sn hφ hn' hcov
  simp only at hφ ⊢
  rcases hφ with ⟨e1, e2⟩ | ⟨kb, e1, e2, e3⟩
  ·(repeat' (first | with_reducible refine Yam ?_ | ((with_reducible apply Yd8); (focus rfl); (focus exact hasA); (focus rfl)) | with_reducible refine Yai (fun _ => ?_) (fun _ => ?_)))
   ·exact cl _ (h0 fun s m h => e2 s m ((hcov s m).1 h))
   ·exfalso; omega
  ·have hb := ok.rng _ _ e1
   have hk := h1 best kb e1 e2 fun s m' h hnm => e3 s m' ((hcov s m').1 h) hnm
   (repeat' (first | with_reducible refine Yam ?_ | ((with_reducible apply Yd8); (focus rfl); (focus exact hasA); (focus rfl)) | with_reducible refine Yai (fun _ => ?_) (fun _ => ?_)))
   ·exfalso; omega
   ·refine Yr0 (ek := ei) (ev := ei) Ynd (r := r1) (f := F) (MHas.of .last) kb (by rw [e1]; rfl) fun ob => ?_
    refine cl _ ?_
    refine Yne e1 (by omega) ?_
    unfold takeF at hk
    (repeat' (with_reducible refine Yai (fun _ => ?_) (fun _ => ?_)))
    ·rename_i hlt
     rw [if_pos (by omega)] at hk
     rw [w64 (by omega) (by omega), w64 (by omega) (by omega)]
     refine Ypr ?_ ?_ (by omega) hk
     ·unfold delF
      rw [if_neg (by omega)]
      cases hq : F (best + n) with
      |none => rfl
      |some m' => have := ok.sep _ _ _ _ e1 hq (by omega); omega
     ·intro s m hs
      unfold delF at hs
      by_cases he : s = best
      ·rw [if_pos he] at hs; cases hs
      ·rw [if_neg he] at hs
       have r3 := ok.rng _ _ hs
       rcases Int.lt_or_gt_of_ne he with h | h
       ·have := ok.sep _ _ _ _ hs e1 h; omega
       ·have := ok.sep _ _ _ _ e1 hs h; omega
    ·rename_i hlt
     rw [if_neg (by omega)] at hk
     exact hk
theorem RunsOk.take {lim : Int} {F : RF} (ok : RunsOk lim F) {b n m : Int} (h : F b = some m) (hn : 1 ≤ n) (hm : n ≤ m) : RunsOk lim (takeF F b n m) := by
 have hr := ok.rng _ _ h
 have key : ∀ s q, takeF F b n m s = some q → (s = b + n ∧ q = m - n ∧ n < m) ∨ (s ≠ b ∧ F s = some q) := by
  intro s q hs
  unfold takeF at hs
  split at hs
  ·rename_i hlt
   unfold updF at hs
   split at hs
   ·rename_i e; left; exact ⟨e, by simp only [Option.some.injEq] at hs; omega, hlt⟩
   ·unfold delF at hs
    split at hs
    ·cases hs
    ·rename_i e; exact .inr ⟨e, hs⟩
  ·unfold delF at hs
   split at hs
   ·cases hs
   ·rename_i e; exact .inr ⟨e, hs⟩
 refine ⟨ok.big, fun s q hs => ?_, fun s q s' q' hs hs' hlt => ?_⟩
 ·rcases key s q hs with ⟨h1, h2, h3⟩ | ⟨h1, h2⟩
  ·omega
  ·exact ok.rng _ _ h2
 ·rcases key s q hs with ⟨h1, h2, h3⟩ | ⟨h1, h2⟩ <;> rcases key s' q' hs' with ⟨g1, g2, g3⟩ | ⟨g1, g2⟩
  ·omega
  ·have := ok.sep _ _ _ _ h g2 (by omega); omega
  ·rcases Int.lt_or_gt_of_ne h1 with hh | hh
   ·have := ok.sep _ _ _ _ h2 h hh; omega
   ·have := ok.sep _ _ _ _ h h2 hh; omega
  ·exact ok.sep _ _ _ _ h2 g2 hlt
theorem Veq {lim : Int} {F : RF} (ok : RunsOk lim F) {b n m : Int} (h : F b = some m) (hn : 1 ≤ n) (hm : n ≤ m) (y : Int) : InR (takeF F b n m) y ↔ InR F y ∧ ¬ (b ≤ y ∧ y < b + n) := by
 have hr := ok.rng _ _ h
 unfold takeF InR
 constructor
 ·rintro ⟨s, q, hs, h1, h2⟩
  have two : ∀ {s q}, F s = some q → s ≠ b → s ≤ y → y < s + q → InR F y ∧ ¬ (b ≤ y ∧ y < b + n) := by
   intro s q g hne g1 g2
   refine ⟨⟨s, q, g, g1, g2⟩, fun hc => ?_⟩
   rcases Int.lt_or_gt_of_ne hne with hh | hh
   ·have := ok.sep _ _ _ _ g h hh; omega
   ·have := ok.sep _ _ _ _ h g hh; omega
  split at hs
  ·unfold updF at hs
   split at hs
   ·simp only [Option.some.injEq] at hs
    exact ⟨⟨b, m, h, by omega, by omega⟩, by omega⟩
   ·unfold delF at hs
    split at hs
    ·cases hs
    ·rename_i e; exact two hs e h1 h2
  ·unfold delF at hs
   split at hs
   ·cases hs
   ·rename_i e; exact two hs e h1 h2
 ·rintro ⟨⟨s, q, hs, h1, h2⟩, h3⟩
  by_cases e : s = b
  ·subst e
   rw [h] at hs
   simp only [Option.some.injEq] at hs
   subst hs
   refine ⟨s + n, m - n, ?_, by omega, by omega⟩
   rw [if_pos (by omega)]
   unfold updF; rw [if_pos rfl]
  ·refine ⟨s, q, ?_, h1, h2⟩
   have hne : s ≠ b + n ∨ ¬ n < m := by
    by_cases hlt : n < m
    ·left; intro e2
     have := ok.sep _ _ _ _ h hs (by omega); omega
    ·exact .inr hlt
   split
   ·unfold updF delF
    rw [if_neg (by omega), if_neg e]; exact hs
   ·unfold delF; rw [if_neg e]; exact hs
end
theorem RunsOk.del {lim : Int} {F : RF} (ok : RunsOk lim F) (s0 : Int) : RunsOk lim (delF F s0) := by
 have key : ∀ s q, delF F s0 s = some q → F s = some q := by
  intro s q hs
  unfold delF at hs
  split at hs
  ·cases hs
  ·exact hs
 exact ⟨ok.big, fun s q hs => ok.rng _ _ (key s q hs), fun s q s' q' hs hs' hlt => ok.sep _ _ _ _ (key s q hs) (key s' q' hs') hlt⟩
theorem RunsOk.add {lim : Int} {G : RF} (ok : RunsOk lim G) {S N : Int} (h1 : 1 ≤ S) (h2 : 1 ≤ N) (h3 : S + N ≤ lim) (h : ∀ s m, G s = some m → s + m < S ∨ S + N < s) :
  G S = none ∧ RunsOk lim (updF G S N) ∧ ∀ y, InR (updF G S N) y ↔ InR G y ∨ (S ≤ y ∧ y < S + N) := by
 have hn : G S = none := by
  cases hq : G S with
  |none => rfl
  |some m => have := h S m hq; have := ok.rng S m hq; omega
 have key : ∀ s q, updF G S N s = some q → (s = S ∧ q = N) ∨ (s ≠ S ∧ G s = some q) := by
  intro s q hs
  unfold updF at hs
  split at hs
  ·rename_i e; simp only [Option.some.injEq] at hs; exact .inl ⟨e, hs.symm⟩
  ·rename_i e; exact .inr ⟨e, hs⟩
 refine ⟨hn, ⟨ok.big, fun s q hs => ?_, fun s q s' q' hs hs' hlt => ?_⟩, fun y => ?_⟩
 ·rcases key s q hs with ⟨e1, e2⟩ | ⟨_, e⟩
  ·omega
  ·exact ok.rng _ _ e
 ·rcases key s q hs with ⟨e1, e2⟩ | ⟨_, e⟩ <;> rcases key s' q' hs' with ⟨g1, g2⟩ | ⟨_, g⟩
  ·omega
  ·have := h _ _ g; have := ok.rng _ _ g; omega
  ·have := h _ _ e; have := ok.rng _ _ e; omega
  ·exact ok.sep _ _ _ _ e g hlt
 ·constructor
  ·rintro ⟨s, q, hs, g1, g2⟩
   rcases key s q hs with ⟨e1, e2⟩ | ⟨_, e⟩
   ·right; omega
   ·exact .inl ⟨s, q, e, g1, g2⟩
  ·rintro (⟨s, q, hs, g1, g2⟩ | ⟨g1, g2⟩)
   ·refine ⟨s, q, ?_, g1, g2⟩
    unfold updF; rw [if_neg]; exact hs
    intro e; rw [e, hn] at hs; cases hs
   ·exact ⟨S, N, by unfold updF; rw [if_pos rfl], g1, g2⟩
theorem Vc1 {lim : Int} {F : RF} (ok : RunsOk lim F) {s0 n0 : Int} (h : F s0 = some n0) (y : Int) : InR F y ↔ InR (delF F s0) y ∨ (s0 ≤ y ∧ y < s0 + n0) := by
 constructor
 ·rintro ⟨s, q, hs, g1, g2⟩
  by_cases e : s = s0
  ·subst e; rw [h] at hs; cases hs; exact .inr ⟨g1, g2⟩
  ·exact .inl ⟨s, q, by unfold delF; rw [if_neg e]; exact hs, g1, g2⟩
 ·rintro (⟨s, q, hs, g1, g2⟩ | ⟨g1, g2⟩)
  ·unfold delF at hs
   split at hs
   ·cases hs
   ·exact ⟨s, q, hs, g1, g2⟩
  ·exact ⟨s0, n0, h, g1, g2⟩
theorem Yr3 {F : RF} {s0 s q : Int} (h : delF F s0 s = some q) : s ≠ s0 ∧ F s = some q := by
 unfold delF at h
 split at h
 ·cases h
 ·rename_i e; exact ⟨e, h⟩
def Cov (F : RF) (sn : List (Int × Int)) : Prop := (sn.map (·.1)).Nodup ∧ ∀ key v, F key = some v ↔ (key, v) ∈ sn
section
variable {B : World} {P R : SL} {t : K}
theorem Yr4 {x : Nat} {lim start n : Int} {F : RF} {k : Int → K} (ok : RunsOk lim F) (hw : -9223372036854775808 ≤ start ∧ start ≤ 9223372036854775807)
  (hbad : ¬ (1 ≤ start ∧ 1 ≤ n ∧ start + n ≤ lim) → T B (R * Idx x lim F) (k 1))
  (htw : 1 ≤ start → 1 ≤ n → start + n ≤ lim → (∃ b, start ≤ b ∧ b < start + n ∧ InR F b) → T B (R * Idx x lim F) (k 41))
  (hk : 1 ≤ start → 1 ≤ n → start + n ≤ lim → (∀ b, start ≤ b → b < start + n → ¬ InR F b) → ∀ F', RunsOk lim F' → (∀ y, InR F' y ↔ InR F y ∨ (start ≤ y ∧ y < start + n)) → T B (R * Idx x lim F') (k 0)) :
  T B (R * Idx x lim F) (Yb7 (da x) start n k) := by
 refine Yaq (Yod _ start n k) ?_
 have hB := ok.big
 unfold da
 (repeat' (first | with_reducible refine Yam ?_ | with_reducible refine Yal ?_ | with_reducible refine Yai (fun _ => ?_) (fun _ => ?_)))
 ·exact hbad (by omega)
 ·exact hbad (by omega)
 refine Yjd fun r1 r2 E hE => ?_
 (repeat' (first | with_reducible refine Yam ?_ | with_reducible refine Yal ?_ | ((with_reducible apply Yaf); (focus rfl); (focus exact hasA); (focus rfl)) | with_reducible refine Yai (fun _ => ?_) (fun _ => ?_)))
 ·exact Ydj hE (hbad (by omega))
 ·rename_i h; rw [w64 (by omega) (by omega)] at h; exact Ydj hE (hbad (by omega))
 rename_i h3 h4
 rw [w64 (by omega) (by omega)] at h4
 have hbad := ()
 have e1 : 1 ≤ start := by omega
 have e2 : 1 ≤ n := by omega
 have e3 : start + n ≤ lim := by omega
 refine Ydj hE ?_
 clear hE E r1 r2
 (dsimp only [Yk0, Zcv0, Zcv1, Zcv2, Zcv3, Zcv4, Zcv5, Zcv6, Zcv7, Zcv8, Zcv9, Zcv10, Zcv11, Zcv12, Zcv13, Zcv14, Zcv15, Zcv16, Zcv17, Zcv18, Zcv19])
 rw [w64 (n := start + n) (by omega) (by omega)]
 refine Ycz (fun _ _ => R * Idx x lim F) (fun m (s : Int × Unit) => start ≤ s.1 ∧ s.1 ≤ start + n ∧ m = (start + n - s.1).toNat ∧ ∀ b, start ≤ b → b < s.1 → ¬ InR F b) (start + n - start).toNat rfl ⟨by simp, by simp only; omega, rfl, fun b h1 h2 => by simp only at h2; omega⟩ ?_
 rintro m ⟨s1, u⟩ cc ⟨g1, g2, g3, g4⟩ hc
 simp only at g1 g2 g3 g4 ⊢
 (repeat' (first | with_reducible refine Yam ?_ | with_reducible refine Yai (fun _ => ?_) (fun _ => ?_)))
 ·refine Vbp ok (fun hin => ?_) (fun hin => ?_)
  ·(repeat' (with_reducible refine Yal ?_))
   exact htw e1 e2 e3 ⟨s1, g1, by omega, hin⟩
  ·(repeat' (with_reducible refine Yau ?_))
   rw [w64 (by omega) (by omega)]
   refine hc (start + n - (s1 + 1)).toNat (s1 + 1, ()) (by omega) ⟨by simp only; omega, by simp only; omega, rfl, fun b h1 h2 => ?_⟩
   by_cases e : b = s1
   ·rw [e]; exact hin
   ·exact g4 b h1 (by simp only at h2; omega)
 ·have hs : s1 = start + n := by omega
  subst hs
  have hout := g4
  have hk := hk e1 e2 e3 hout
  clear hc htw g1 g2 g3 g4
  -- the end: what lies behind is joined, and all is one run
  have fin : ∀ G S N, RunsOk lim G → 1 ≤ S → 1 ≤ N → S + N ≤ lim → (∀ s m, G s = some m → s + m < S ∨ S + N ≤ s) → (∀ y, InR G y ∨ (S ≤ y ∧ y < S + N) ↔ InR F y ∨ (start ≤ y ∧ y < start + n)) →
    T B (R * Idx x lim G) (nn (some ⟨x, 0, none⟩) fun x73 => ldM (Addr.add x73 0) fun x75 => lkE Tryz.prog 3 (.int .i64 0) (.sc (.int .i64)) x75 (.int .i64 (S + N)) fun r ob x79 ok =>
     brK ok (Yb8 (some ⟨x, 0, none⟩) (S + N) fun x87 => Yck (some ⟨x, 0, none⟩) S (IntKind.wrap .i64 (N + x79)) fun x94 => k 0) (Yck (some ⟨x, 0, none⟩) S N fun x94 => k 0)) := by
   intro G S N okG q1 q2 q3 q4 q5
   refine Yjd fun r1 r2 E hE => ?_
   (repeat (first | with_reducible refine Yam ?_ | ((with_reducible apply Yd8); (focus rfl); (focus exact hasA); (focus rfl))))
   cases hg : G (S + N) with
   |none =>
    refine Yr0 (ek := ei) (ev := ei) Ynd (r := r1) (f := G) (MHas.init (MHas.init (MHas.of .last))) 0 (by rw [hg]; rfl) fun ob => ?_
    rw [hg]
    simp only [Option.isSome_none]
    (repeat (with_reducible refine Yau ?_))
    refine Ydj hE ?_
    have q4' : ∀ s m, G s = some m → s + m < S ∨ S + N < s := by
     intro s m hs
     rcases q4 s m hs with h | h
     ·exact .inl h
     ·right
      rcases Int.lt_or_eq_of_le h with h | h
      ·exact h
      ·rw [← h, hg] at hs; cases hs
    obtain ⟨a1, a2, a3⟩ := okG.add q1 q2 q3 q4'
    refine Ypr a1 (fun s m hs => ?_) (by omega) (hk _ a2 fun y => (a3 y).trans (q5 y))
    have := q4' s m hs; have := okG.rng s m hs; omega
   |some q =>
    refine Yr0 (ek := ei) (ev := ei) Ynd (r := r1) (f := G) (MHas.init (MHas.init (MHas.of .last))) q (by rw [hg]; rfl) fun ob => ?_
    rw [hg]
    simp only [Option.isSome_some]
    (repeat (with_reducible refine Yal ?_))
    have hq := okG.rng _ _ hg
    refine Ydj hE ?_
    refine Yne hg (by omega) ?_
    rw [w64 (by omega) (by omega)]
    have q4' : ∀ s m, delF G (S + N) s = some m → s + m < S ∨ S + (N + q) < s := by
     intro s m hs
     obtain ⟨hne, hs⟩ := Yr3 hs
     rcases q4 s m hs with h | h
     ·exact .inl h
     ·right
      have := okG.sep _ _ _ _ hg hs (by omega); omega
    obtain ⟨a1, a2, a3⟩ := (okG.del (S + N)).add q1 (by omega) (by omega) q4'
    refine Ypr a1 (fun s m hs => ?_) (by omega) (hk _ a2 fun y => (a3 y).trans ?_)
    ·have := q4' s m hs; have := (okG.del (S + N)).rng s m hs; omega
    ·rw [← q5, Vc1 okG hg]
     constructor
     ·rintro (h | h)
      ·exact .inl (.inl h)
      ·by_cases hy : y < S + N
       ·right; omega
       ·left; right; omega
     ·rintro ((h | h) | h)
      ·exact .inl h
      ·right; omega
      ·right; omega
  refine Yjd fun r1 r2 E hE => ?_
  (repeat (((with_reducible apply Yd8); (focus rfl); (focus exact hasA); (focus rfl))))
  have apart : ∀ s m, F s = some m → s + m ≤ start ∨ start + n ≤ s := by
   intro s m hs
   have hr := ok.rng s m hs
   by_cases h1 : s + m ≤ start
   ·exact .inl h1
   ·by_cases h2 : start + n ≤ s
    ·exact .inr h2
    ·exfalso
     by_cases h3 : s ≤ start
     ·exact hout start (by omega) (by omega) ⟨s, m, hs, h3, by omega⟩
     ·exact hout s (by omega) (by omega) ⟨s, m, hs, by omega, by omega⟩
  cases he : E start with
  |none =>
   refine Yr0 (ek := ei) (ev := ei) Ynd (r := r2) (f := E) (MHas.init (MHas.of .last)) 0 (by rw [he]; rfl) fun ob => ?_
   rw [he]
   simp only [Option.isSome_none]
   refine Yau ?_
   refine Ydj hE ?_
   refine fin F start n ok e1 e2 e3 (fun s m hs => ?_) (fun y => Iff.rfl)
   rcases apart s m hs with h | h
   ·left
    rcases Int.lt_or_eq_of_le h with h | h
    ·exact h
    ·have := (hE start s).2 ⟨m, hs, h.symm⟩; rw [he] at this; cases this
   ·exact .inr h
  |some s0 =>
   refine Yr0 (ek := ei) (ev := ei) Ynd (r := r2) (f := E) (MHas.init (MHas.of .last)) s0 (by rw [he]; rfl) fun ob => ?_
   rw [he]
   simp only [Option.isSome_some]
   obtain ⟨n0, hf, hst⟩ := (hE start s0).1 he
   have hr := ok.rng _ _ hf
   (repeat (first | with_reducible refine Yam ?_ | with_reducible refine Yal ?_ | ((with_reducible apply Yd8); (focus rfl); (focus exact hasA); (focus rfl))))
   refine Yr0 (ek := ei) (ev := ei) Ynd (r := r1) (f := F) (MHas.init (MHas.init (MHas.of .last))) n0 (by rw [hf]; rfl) fun ob => ?_
   refine Ydj hE ?_
   refine Yne hf (by omega) ?_
   rw [w64 (n := n + n0) (by omega) (by omega), w64 (n := s0 + (n + n0)) (by omega) (by omega)]
   refine fin (delF F s0) s0 (n + n0) (ok.del s0) (by omega) (by omega) (by omega) (fun s m hs => ?_) (fun y => ?_)
   ·obtain ⟨hne, hs⟩ := Yr3 hs
    rcases apart s m hs with h | h
    ·left
     rcases Int.lt_or_gt_of_ne hne with g | g
     ·exact ok.sep _ _ _ _ hs hf g
     ·have := ok.sep _ _ _ _ hf hs g; have := ok.rng _ _ hs; omega
    ·right; omega
   ·rw [Vc1 ok hf]
    constructor
    ·rintro (h | h)
     ·exact .inl (.inl h)
     ·by_cases hy : y < start
      ·left; right; omega
      ·right; omega
    ·rintro ((h | h) | h)
     ·exact .inl h
     ·right; omega
     ·right; omega
end
def sumI : List (Int × Int) → Int | [] => 0 | p :: l => p.2 + sumI l
structure Sub (F : RF) (sn : List (Int × Int)) : Prop where
 nd : (sn.map (·.1)).Nodup
 mem : ∀ p ∈ sn, F p.1 = some p.2
theorem Sub.cons {F : RF} {sn : List (Int × Int)} (h : Sub F sn) {key v : Int} (hf : F key = some v) (hn : key ∉ sn.map (·.1)) : Sub F ((key, v) :: sn) :=
 ⟨by rw [List.map_cons, List.nodup_cons]; exact ⟨hn, h.nd⟩, fun p hp => by
  rcases List.mem_cons.1 hp with rfl | hp
  ·exact hf
  ·exact h.mem p hp⟩
theorem Sub.len {lim : Int} {F : RF} (ok : RunsOk lim F) {sn : List (Int × Int)} (h : Sub F sn) : (sn.length : Int) ≤ 2 ^ 20 := by
 have hB := ok.big
 have h1 : ((sn.map (·.1)).map Int.toNat).Nodup := by
  refine List.Pairwise.map _ (fun a b hab => ?_) (List.Pairwise.and_mem.1 h.nd)
  obtain ⟨ha, hb, hab⟩ := hab
  obtain ⟨p, hp, rfl⟩ := List.mem_map.1 ha
  obtain ⟨q, hq, rfl⟩ := List.mem_map.1 hb
  have := ok.rng _ _ (h.mem p hp)
  have := ok.rng _ _ (h.mem q hq)
  omega
 have := Yf3 (2 ^ 20) _ h1 (fun x hx => by
  obtain ⟨a, ha, rfl⟩ := List.mem_map.1 hx
  obtain ⟨p, hp, rfl⟩ := List.mem_map.1 ha
  have := ok.rng _ _ (h.mem p hp)
  omega)
 simp only [List.length_map] at this
 omega
theorem Sub.sum {lim : Int} {F : RF} (ok : RunsOk lim F) {sn : List (Int × Int)} (h : Sub F sn) : 0 ≤ sumI sn ∧ sumI sn ≤ sn.length * 2 ^ 20 := by
 have hB := ok.big
 obtain ⟨h1, h2⟩ := h
 clear h1
 induction sn with
 |nil => simp [sumI]
 |cons p sn ih =>
  have := ih fun q hq => h2 q (by simp [hq])
  have := ok.rng _ _ (h2 p (by simp))
  simp only [sumI, List.length_cons]
  omega
section
variable {B : World} {P R : SL} {t : K}
theorem Yzl {lim : Int} (hlim : 0 ≤ lim) (hlim2 : lim ≤ 2 ^ 20) {s : Sl} {l : List (Int × Int)} (hr : Rd R s 2 (prs l)) (hl : l.length ≤ 2 ^ 30) (h1 : ∀ p ∈ l, 1 ≤ p.1 ∧ 1 ≤ p.2 ∧ p.1 + p.2 ≤ lim)
  (h2 : ∀ (i j : Nat) (p q : Int × Int), i < j → l[i]? = some p → l[j]? = some q → p.1 + p.2 ≤ q.1) {k : Option Addr × Int → K}
  (hk : ∀ x F, RunsOk lim F → (∀ y, InR F y ↔ ∃ p ∈ l, p.1 ≤ y ∧ y < p.1 + p.2) → T B (R * Idx x lim F) (k (da x, 0))) : T B R (Yms lim s k) := by
 refine Yaq (Yxb lim s k) ?_
 refine Ya1 hr fun hsn => ?_
 rw [Yhr] at hsn
 have hsl : s.n = l.length := by omega
 refine Vbo hlim fun x => ?_
 (dsimp only [Yxa, Zdg0, Zdg1, Zdg2, Zdg3, Zdg4, Zdg5, Zdg6, Zdg7, Zdg8, Zdg9, Zdg10])
 refine Yl2 (fun _ z => ex fun F => R * Idx x lim F * pu (RunsOk lim F ∧ ∀ y, InR F y ↔ ∃ p ∈ l.take z.1.toNat, p.1 ≤ y ∧ y < p.1 + p.2)) (fun m (z : Int × Unit) => ∃ i : Nat, z.1 = i ∧ i ≤ l.length ∧ m = l.length - i) l.length (fun t ht => ?_) ⟨0, rfl, by omega, rfl⟩ ?_
 ·intro w hw
  have h3 := Sat.puI (φ := RunsOk lim (fun _ => none) ∧ ∀ y, InR (fun _ => none) y ↔ ∃ p ∈ l.take (0 : Int).toNat, p.1 ≤ y ∧ y < p.1 + p.2) ⟨⟨hlim2, by simp, by simp⟩, fun y => by simp [InR]⟩ hw
  obtain ⟨⟨g, hg, hgb⟩, hkk⟩ := h3
  exact ht w ⟨⟨g, ⟨_, hg⟩, hgb⟩, hkk⟩
 rintro m ⟨z, u⟩ cc ⟨i, e1, e2, e3⟩ hc
 simp only at e1
 subst e1 e3
 simp only [Int.toNat_natCast]
 have key : ∀ F, RunsOk lim F → (∀ y, InR F y ↔ ∃ p ∈ l.take i, p.1 ≤ y ∧ y < p.1 + p.2) → T B (R * Idx x lim F) (brK (decide ((i : Int) < ((s.n : Nat) : Int))) (ixS s.p s.n i 2 fun x16 =>
   ldI .i64 (Addr.add x16 0) fun x17_0 => ldI .i64 (Addr.add x16 1) fun x17_1 => alK (.cells #[.int .i64 0, .int .i64 0] 152) fun b => stK (Addr.add ⟨b, 0, none⟩ 0) (.int .i64 x17_0) <| stK (Addr.add ⟨b, 0, none⟩ 1) (.int .i64 x17_1) <|
   ldI .i64 (Addr.add ⟨b, 0, none⟩ 0) fun x20 => ldI .i64 (Addr.add ⟨b, 0, none⟩ 1) fun x22 => Yb7 (some ⟨x, 0, none⟩) x20 x22 fun x23 => brK (x23 != 0) (k (none, x23)) (cc (IntKind.wrap .i64 ((i : Int) + 1), ()))) (k (some ⟨x, 0, none⟩, 0))) := by
  intro F ok hF
  (repeat' (with_reducible refine Yai (fun _ => ?_) (fun _ => ?_)))
  ·have hlt : i < l.length := by omega
   refine Vei hr.init (by omega) (by rw [Int.toNat_natCast]; exact hlt) fun a ha => ?_
   simp only [Int.toNat_natCast] at ha
   refine Ycv ha rfl ?_
   refine Ycv ha rfl ?_
   (repeat (first | ((with_reducible apply Yaf); (focus rfl); (focus exact hasA); (focus rfl)) | (with_reducible refine Ya7 ?_; intro _) | ((with_reducible apply Ybc); (focus rfl); (focus exact updA); (focus simp); simp only [List.set, Nat.zero_add, Nat.reduceAdd])))
   rename_i b
   refine Yac .last ?_
   have hp := h1 l[i] (List.getElem_mem hlt)
   refine Yr4 ok (by omega) (fun h => absurd hp h) (fun _ _ _ h => ?_) (fun _ _ _ _ F' ok' hF' => ?_)
   ·exfalso
    obtain ⟨y, g1, g2, g3⟩ := h
    obtain ⟨p, hp2, g4, g5⟩ := (hF y).1 g3
    obtain ⟨j, hj, rfl⟩ := List.mem_iff_getElem.1 hp2
    simp only [List.length_take] at hj
    rw [List.getElem_take] at g4 g5
    have := h2 j i l[j] l[i] (by omega) (List.getElem?_eq_getElem (by omega)) (List.getElem?_eq_getElem hlt)
    omega
   ·skip
    have hx := hc (l.length - (i + 1)) (IntKind.wrap .i64 ((i : Int) + 1), ()) (by omega) ⟨i + 1, w64 (by omega) (by omega), by omega, rfl⟩
    have e : (IntKind.wrap .i64 ((i : Int) + 1)).toNat = i + 1 := by rw [w64 (by omega) (by omega)]; omega
    simp only [e] at hx
    have hin : ∀ y, InR F' y ↔ ∃ p ∈ l.take (i + 1), p.1 ≤ y ∧ y < p.1 + p.2 := by
     intro y
     rw [hF', hF, List.take_succ_eq_append_getElem hlt]
     constructor
     ·rintro (⟨p, hp, h⟩ | h)
      ·exact ⟨p, List.mem_append.2 (.inl hp), h⟩
      ·exact ⟨l[i], List.mem_append.2 (.inr (List.mem_singleton.2 rfl)), h⟩
     ·rintro ⟨p, hp, h⟩
      rcases List.mem_append.1 hp with hp | hp
      ·exact .inl ⟨p, hp, h⟩
      ·simp only [List.mem_singleton] at hp; subst hp; exact .inr h
    intro w hw
    obtain ⟨⟨g, hg, hgb⟩, hkk⟩ := Sat.puI (φ := RunsOk lim F' ∧ ∀ y, InR F' y ↔ ∃ p ∈ l.take (i + 1), p.1 ≤ y ∧ y < p.1 + p.2) ⟨ok', hin⟩ hw
    exact Yau hx w ⟨⟨g, ⟨F', hg⟩, hgb⟩, hkk⟩
  ·have hi : i = l.length := by omega
   subst hi
   rw [List.take_length] at hF
   exact hk x F ok hF
 intro w hw
 obtain ⟨⟨g, ⟨F, hg⟩, hgb⟩, hkk⟩ := hw
 have k2 : T B (R * Idx x lim F * pu (RunsOk lim F ∧ ∀ y, InR F y ↔ ∃ p ∈ l.take i, p.1 ≤ y ∧ y < p.1 + p.2)) _ := Yz5 fun h => key F h.1 h.2
 exact k2 w ⟨⟨g, hg, hgb⟩, hkk⟩
end
/-- a large object's headers stand from a block on -/
def WholeP (hs : List Hd) (b n : Nat) : Prop := 1 ≤ n ∧ b + n ≤ hs.length ∧ (hs.getD b (0, 0, 0)).1 = 2 ∧ (hs.getD b (0, 0, 0)).2.2 = n ∧ ∀ i : Nat, 1 ≤ i → i < n → hs.getD (b + i) (0, 0, 0) = (3, 0, (i : Int))
theorem WholeP.uniq {hs : List Hd} {b n n' : Nat} (h : WholeP hs b n) (h' : WholeP hs b n') : n = n' := by
 have := h.2.2.2.1
 have := h'.2.2.2.1
 omega
theorem Ynf {α : Type} {l : List α} {i : Nat} (h : i < l.length) (d : α) : l.getD i d = l[i] := by
 rw [List.getD_eq_getElem?_getD, List.getElem?_eq_getElem h]; rfl
/-- headers of a large object of so many blocks -/
def runH (n : Nat) : List Hd := (List.range n).map fun (i : Nat) => if i = 0 then ((2, 0, (n : Int)) : Hd) else (3, 0, (i : Int))
theorem Ycy (n : Nat) : (runH n).length = n := by simp [runH]
theorem Yq4 (n : Nat) {i : Nat} (h : i < n) : (runH n)[i]? = some (if i = 0 then (2, 0, (n : Int)) else (3, 0, (i : Int))) := by
 simp [runH, h]
theorem Ver (l : List Hd) (o : Nat) : (hds l).drop (o * 3) = hds (l.drop o) := by
 induction l generalizing o with
 |nil => simp [hds]
 |cons h l ih =>
  cases o with
  |zero => rfl
  |succ o => rw [List.drop_succ_cons, ← ih, Ygo, show (o + 1) * 3 = o * 3 + 1 + 1 + 1 by omega]; rfl
theorem Ves (l : List Hd) (o : Nat) : (hds l).take (o * 3) = hds (l.take o) := by
 induction l generalizing o with
 |nil => simp [hds]
 |cons h l ih =>
  cases o with
  |zero => simp [hds]
  |succ o => rw [List.take_succ_cons, Ygo, Ygo, ← ih, show (o + 1) * 3 = o * 3 + 1 + 1 + 1 by omega]; rfl
section
variable {B : World} {P R : SL} {t : K}
theorem Yvp {hs : List Hd} {x : Sl} {b : Int} (hl2 : hs.length ≤ 2 ^ 30) (hb : -9223372036854775808 ≤ b ∧ b ≤ 9223372036854775807) (hx : Rd P x 3 (hds hs)) {k : Int × Bool → K}
  (h1 : ∀ bb n : Nat, b = bb → WholeP hs bb n → T B P (k ((n : Int), true))) (h0 : (∀ bb n : Nat, b = bb → ¬ WholeP hs bb n) → T B P (k (0, false))) : T B P (Ygl x b k) := by
 refine Yaq (Ys0 x b k) ?_
 refine Ya1 hx fun hxn => ?_
 rw [Ydo] at hxn
 have hxl : x.n = hs.length := by omega
 (repeat' (first | with_reducible refine Yal ?_ | with_reducible refine Yai (fun _ => ?_) (fun _ => ?_)))
 ·refine h0 fun bb n e h => ?_; omega
 ·refine h0 fun bb n e h => ?_; have := h.2.1; have := h.1; omega
 obtain ⟨bb, rfl⟩ := Int.eq_ofNat_of_zero_le (show 0 ≤ b by omega)
 have hlt : bb < hs.length := by omega
 refine Ys8 (l := hs) hx (by omega) (by rw [Int.toNat_natCast]; exact hlt) fun a ha => ?_
 simp only [Int.toNat_natCast] at ha
 refine Ycv ha rfl ?_
 (repeat' (with_reducible refine Yar (fun _ => ?_) (fun _ => ?_)))
 ·rename_i hne
  refine h0 fun bb' n e h => ?_
  have : bb' = bb := by omega
  subst this
  have := h.2.2.1
  rw [Ynf hlt] at this
  exact hne this
 rename_i hk2
 refine Ys8 (l := hs) hx (by omega) (by rw [Int.toNat_natCast]; exact hlt) fun a2 ha2 => ?_
 simp only [Int.toNat_natCast] at ha2
 refine Ycv ha2 rfl ?_
 have hno : ∀ m : Int, hs[bb].2.2 = m → (∀ n : Nat, m = n → ¬ WholeP hs bb n) → T B P (k (0, false)) := fun m hm h => h0 fun bb' n e hw => by
  have : bb' = bb := by omega
  subst this
  have := hw.2.2.2.1
  rw [Ynf hlt] at this
  exact h n (by omega) hw
 (repeat' (first | with_reducible refine Yal ?_ | with_reducible refine Yai (fun _ => ?_) (fun _ => ?_)))
 ·exact hno _ rfl fun n e hw => by have := hw.1; omega
 ·rename_i hgt
  rw [w64 (by omega) (by omega)] at hgt
  exact hno _ rfl fun n e hw => by have := hw.2.1; omega
 rename_i hn1 hn2
 rw [w64 (by omega) (by omega)] at hn2
 obtain ⟨n, hn⟩ := Int.eq_ofNat_of_zero_le (show 0 ≤ hs[bb].2.2 by omega)
 (dsimp only [Yre, Zak0, Zak1, Zak2, Zak3, Zak4, Zak5, Zak6, Zak7, Zak8, Zak9, Zak10, Zak11, Zak12, Zak13])
 rw [hn]
 refine Ycz (fun _ _ => P) (fun m (z : Int × Unit) => ∃ i : Nat, z.1 = i ∧ 1 ≤ i ∧ i ≤ n ∧ m = n - i ∧ ∀ j : Nat, 1 ≤ j → j < i → hs.getD (bb + j) (0, 0, 0) = (3, 0, (j : Int))) (n - 1) rfl ⟨1, rfl, by omega, by omega, rfl, fun j h1 h2 => by omega⟩ ?_
 rintro m ⟨z, u⟩ cc ⟨i, e1, e2, e3, e4, e5⟩ hc
 simp only at e1
 subst e1 e4
 (repeat' (with_reducible refine Yai (fun _ => ?_) (fun _ => ?_)))
 ·have hlt2 : bb + i < hs.length := by omega
  have ew : IntKind.wrap .i64 ((bb : Int) + i) = ((bb + i : Nat) : Int) := by rw [w64 (by omega) (by omega)]; omega
  rw [ew]
  refine Ys8 (l := hs) hx (by omega) (by rw [Int.toNat_natCast]; exact hlt2) fun a3 ha3 => ?_
  simp only [Int.toNat_natCast] at ha3
  refine Ycv ha3 rfl ?_
  refine Ycv ha3 rfl ?_
  refine Ycv ha3 rfl ?_
  by_cases hq : hs[bb + i] = (3, 0, (i : Int))
  ·have : (!(hs[bb + i].1 == 3 && (hs[bb + i].2.1 == 0 && (hs[bb + i].2.2 == (i : Int) && true)))) = false := by rw [hq]; simp
   rw [this]
   (repeat (with_reducible refine Yau ?_))
   rw [w64 (by omega) (by omega)]
   refine hc (n - (i + 1)) ((i : Int) + 1, ()) (by omega) ⟨i + 1, by simp, by omega, by omega, rfl, fun j g1 g2 => ?_⟩
   by_cases hj : j = i
   ·subst hj; rw [Ynf hlt2]; exact hq
   ·exact e5 j g1 (by omega)
  ·have : (!(hs[bb + i].1 == 3 && (hs[bb + i].2.1 == 0 && (hs[bb + i].2.2 == (i : Int) && true)))) = true := by
    cases hc2 : (hs[bb + i].1 == 3 && (hs[bb + i].2.1 == 0 && (hs[bb + i].2.2 == (i : Int) && true))) with
    |false => rfl
    |true =>
     simp only [Bool.and_eq_true, beq_iff_eq, Bool.and_true] at hc2
     exact absurd (Prod.ext hc2.1 (Prod.ext hc2.2.1 hc2.2.2)) hq
   rw [this]
   (repeat (with_reducible refine Yal ?_))
   refine hno n hn fun n' e hw => ?_
   have := hw.2.2.2.2 i e2 (by omega)
   rw [Ynf hlt2] at this
   exact hq this
 ·have hi : i = n := by omega
  subst hi
  exact h1 bb i rfl ⟨by omega, by omega, by rw [Ynf hlt]; exact hk2, by rw [Ynf hlt]; exact hn, e5⟩
theorem Yzm {n : Nat} (hn : n ≤ 2 ^ 30) {k : Sl → K} (hk : ∀ s, T B (R * vec 143 3 s (hds (runH n))) (k s)) : T B R (Ymu n k) := by
 refine Yaq (Ywy _ k) ?_
 (dsimp only [Ywx, Zbc0, Zbc1, Zbc2, Zbc3, Zbc4, Zbc5, Zbc6, Zbc7, Zbc8, Zbc9, Zbc10])
 refine Ydh (E := 143) (sz := 3) (s := ⟨none, 0, 0⟩) rfl rfl ?_
 have e0 : ∀ i : Nat, i ≤ n → (runH n).take i = (List.range i).map fun (i : Nat) => if i = 0 then ((2, 0, (n : Int)) : Hd) else (3, 0, (i : Int)) := by
  intro i hi
  unfold runH
  rw [← List.map_take, List.take_range, Nat.min_eq_left hi]
 refine Ycz (fun _ s => R * vec 143 3 s.1 (hds ((runH n).take s.2.1.toNat))) (fun m (s : Sl × Int × Unit) => ∃ i : Nat, i ≤ n ∧ s.2.1 = i ∧ m = n - i) n rfl ⟨0, by omega, rfl, by omega⟩ ?_
 rintro m ⟨out, s1, u⟩ cc ⟨i, h1, h2, h3⟩ hc
 simp only at h2
 subst h2 h3
 simp only [Int.toNat_natCast]
 have hnext : ∀ s', i < n → T B (R * vec 143 3 s' (hds ((runH n).take i ++ [if i = 0 then ((2, 0, (n : Int)) : Hd) else (3, 0, (i : Int))]))) (cc (s', IntKind.wrap .i64 ((i : Int) + 1), ())) := by
  intro s' hlt
  have := hc (n - (i + 1)) (s', IntKind.wrap .i64 ((i : Int) + 1), ()) (by omega) ⟨i + 1, by omega, w64 (by omega) (by omega), rfl⟩
  have e : (IntKind.wrap .i64 ((i : Int) + 1)).toNat = i + 1 := by rw [w64 (by omega) (by omega)]; omega
  simp only [e] at this
  rw [e0 (i + 1) (by omega), List.range_succ, List.map_append, ← e0 i h1] at this
  exact this
 have hlen : (hds ((runH n).take i)).length / 3 + 1 ≤ 2 ^ 40 := by rw [Ydo]; simp [Ycy]; omega
 (repeat' (first | (with_reducible refine Ya7 ?_; intro _) | with_reducible refine Yai (fun _ => ?_) (fun _ => ?_) | with_reducible refine Ybr (fun _ => ?_) (fun _ => ?_)))
 ·rename_i b hlt heq
  have hi : i = 0 := by omega
  refine Yk9 (vs := hds ((runH n).take i)) (new := [.int .i64 2, .int .i64 0, .int .i64 n]) Vcw rfl rfl hlen fun s' => ?_
  have := hnext s' (by omega)
  rw [Yt8, if_pos hi] at this
  exact this
 ·rename_i b hlt hne
  have hi : i ≠ 0 := by omega
  refine Yk9 (vs := hds ((runH n).take i)) (new := [.int .i64 3, .int .i64 0, .int .i64 i]) Vcw rfl rfl hlen fun s' => ?_
  have := hnext s' (by omega)
  rw [Yt8, if_neg hi] at this
  exact this
 ·have hi : i = n := by omega
  subst hi
  rw [List.take_of_length_le (by rw [Ycy]; omega)]
  exact hk out
end
theorem splice_get? {α : Type} {l new : List α} {o : Nat} (h : o + new.length ≤ l.length) (i : Nat) : (splice l o new)[i]? = if o ≤ i ∧ i < o + new.length then new[i - o]? else l[i]? := by
 unfold splice
 have e1 : (l.take o).length = o := by simp; omega
 by_cases h1 : i < o
 ·rw [if_neg (by omega), List.append_assoc, List.getElem?_append_left (by omega), List.getElem?_take_of_lt h1]
 ·by_cases h2 : i < o + new.length
  ·rw [if_pos ⟨by omega, h2⟩, List.append_assoc, List.getElem?_append_right (by omega), e1, List.getElem?_append_left (by omega)]
  ·rw [if_neg (by omega), List.getElem?_append_right (by simp; omega), List.getElem?_drop]
   congr 1; simp; omega
theorem Ycc {α : Type} {l new : List α} {o : Nat} (h : o + new.length ≤ l.length) (i : Nat) (d : α) : (splice l o new).getD i d = if o ≤ i ∧ i < o + new.length then new.getD (i - o) d else l.getD i d := by
 rw [List.getD_eq_getElem?_getD, splice_get? h]
 split <;> rw [List.getD_eq_getElem?_getD]
theorem Vbq {α : Type} {l xs : List α} {b : Nat} {x : α} (h : b + (xs.length + 1) ≤ l.length) : splice (splice l b [x]) (b + 1) xs = splice l b (x :: xs) := by
 have h1 : (splice l b [x]).length = l.length := Yah (by simp; omega)
 apply List.ext_getElem?
 intro i
 rw [splice_get? (by rw [h1]; omega), splice_get? (by simp; omega), splice_get? (by simp; omega)]
 simp only [List.length_cons, List.length_nil]
 by_cases e : i = b
 ·subst e; rw [if_neg (by omega), if_pos (by omega), if_pos (by omega)]; simp
 ·by_cases e2 : b + 1 ≤ i ∧ i < b + 1 + xs.length
  ·rw [if_pos e2, if_pos (by omega), show i - b = (i - (b + 1)) + 1 by omega, List.getElem?_cons_succ]
  ·rw [if_neg e2, if_neg (by omega), if_neg (by omega)]
theorem splice_two' {α : Type} {l xs : List α} {b : Nat} {x : α} (h : b + (xs.length + 1) ≤ l.length) : splice (splice l (b + 1) xs) b [x] = splice l b (x :: xs) := by
 have h1 : (splice l (b + 1) xs).length = l.length := Yah (by omega)
 apply List.ext_getElem?
 intro i
 rw [splice_get? (by rw [h1]; simp; omega), splice_get? (by omega), splice_get? (by simp; omega)]
 simp only [List.length_cons, List.length_nil]
 by_cases e : i = b
 ·subst e; rw [if_pos (by omega), if_pos (by omega)]; simp
 ·by_cases e2 : b + 1 ≤ i ∧ i < b + 1 + xs.length
  ·rw [if_neg (by omega), if_pos e2, if_pos (by omega), show i - b = (i - (b + 1)) + 1 by omega, List.getElem?_cons_succ]
  ·rw [if_neg (by omega), if_neg e2, if_neg (by omega)]
theorem Vgk (xs : List Hd) (x : Hd) (c : List Int) (b : Nat) : wrH (wrH c (b + 1) xs) b [x] = wrH c b (x :: xs) := by
 show (wrH c (b + 1) xs).set (256 + b) (benc b x) = wrH (c.set (256 + b) (benc b x)) (b + 1) xs
 apply List.ext_getElem?
 intro i
 rw [List.getElem?_set, Yhs, Yhs, Yh9, List.length_set, List.getElem?_set]
 by_cases e : 256 + b = i
 ·subst e
  rw [if_pos rfl, if_pos rfl]
  by_cases h : 256 + b < c.length
  ·rw [if_pos h, if_pos (by omega)]
  ·rw [if_neg h, if_pos (by omega)]
 ·rw [if_neg e, if_neg e]
structure Tie (g : Nat) (hs : List Hd) (F : RF) : Prop where
 ok : RunsOk g F
 len : hs.length = g
 two : 2 ≤ g
 fr : ∀ b : Int, InR F b ↔ 1 ≤ b ∧ b < g ∧ (hs.getD b.toNat (0, 0, 0)).1 = 0
theorem Tie.big {g : Nat} {hs : List Hd} {F : RF} (h : Tie g hs F) : g ≤ 2 ^ 20 := by have := h.ok.big; omega
theorem Tie.fr_of {g : Nat} {hs : List Hd} {F : RF} (h : Tie g hs F) {s q : Int} (hs' : F s = some q) : ∃ b : Nat, s = b ∧ 1 ≤ b ∧ 1 ≤ q ∧ s + q ≤ g := by
 have := h.ok.rng _ _ hs'
 exact ⟨s.toNat, by omega, by omega, by omega, by omega⟩
theorem Tie.take {g : Nat} {hs : List Hd} {F : RF} (h : Tie g hs F) {b : Nat} {q : Int} {xs : List Hd} (hf : F b = some q) (h1 : 1 ≤ xs.length) (h2 : (xs.length : Int) ≤ q) (h3 : ∀ x ∈ xs, x.1 ≠ 0) :
  Tie g (splice hs b xs) (takeF F b xs.length q) := by
 have hr := h.ok.rng _ _ hf
 have hl := h.len
 have hfit : b + xs.length ≤ hs.length := by omega
 refine ⟨h.ok.take hf (by omega) h2, by rw [Yah hfit]; exact hl, h.two, fun y => ?_⟩
 rw [Veq h.ok hf (by omega) h2, h.fr, Ycc hfit]
 by_cases e : b ≤ y.toNat ∧ y.toNat < b + xs.length ∧ 0 ≤ y
 ·rw [if_pos ⟨e.1, e.2.1⟩]
  have hm := h3 _ (Yvj (d := (0, 0, 0)) (show y.toNat - b < xs.length by omega))
  constructor
  ·rintro ⟨_, h⟩; omega
  ·rintro ⟨_, _, h⟩; exact absurd h hm
 ·constructor
  ·rintro ⟨⟨a1, a2, a3⟩, _⟩; exact ⟨a1, a2, by rw [if_neg (by omega)]; exact a3⟩
  ·rintro ⟨a1, a2, a3⟩; rw [if_neg (by omega)] at a3; exact ⟨⟨a1, a2, a3⟩, by omega⟩
theorem Tie.give {g : Nat} {hs : List Hd} {F F' : RF} (h : Tie g hs F) {b n : Nat} (hb : 1 ≤ b) (hn : b + n ≤ g) (ok : RunsOk g F') (hF : ∀ y, InR F' y ↔ InR F y ∨ ((b : Int) ≤ y ∧ y < b + n)) :
  Tie g (splice hs b (List.replicate n (0, 0, 0))) F' := by
 have hl := h.len
 have hfit : b + (List.replicate n ((0, 0, 0) : Hd)).length ≤ hs.length := by simp; omega
 refine ⟨ok, by rw [Yah hfit]; exact hl, h.two, fun y => ?_⟩
 rw [hF, h.fr, Ycc hfit, List.length_replicate]
 by_cases e : b ≤ y.toNat ∧ y.toNat < b + n ∧ 0 ≤ y
 ·rw [if_pos ⟨e.1, e.2.1⟩]
  have : (List.replicate n ((0, 0, 0) : Hd)).getD (y.toNat - b) (0, 0, 0) = (0, 0, 0) := by rw [List.getD_eq_getElem?_getD, List.getElem?_replicate]; split <;> rfl
  rw [this]
  constructor
  ·rintro (h | h)
   ·exact ⟨h.1, h.2.1, rfl⟩
   ·exact ⟨by omega, by omega, rfl⟩
  ·intro _; right; omega
 ·constructor
  ·rintro (⟨a1, a2, a3⟩ | h)
   ·exact ⟨a1, a2, by rw [if_neg (by omega)]; exact a3⟩
   ·omega
  ·rintro ⟨a1, a2, a3⟩; rw [if_neg (by omega)] at a3; exact .inl ⟨a1, a2, a3⟩
/-- the headers of blocks last as they are -/
def HLs (n : Nat) (c la : List Int) : Prop := ∀ i : Nat, 257 ≤ i → i < 256 + n / 64 → la[i]? = c[i]?
theorem HLs.put {n g b : Nat} {c la la' : List Int} {xs : List Hd} (hn : n = 64 * g) (h : HLs n c la) (hp : Pst n ((256 + (b : Int)) / 8).toNat (((256 + (b : Int)) + xs.length - 1) / 8 + 1).toNat (wrH c b xs) la la') : HLs n (wrH c b xs) la' := by
 intro i h1 h2
 have h0 := h i h1 h2
 have hl := hp.2 (i / 8) (by omega)
 have e : ∀ L : List Int, L[i]? = (ln L (i / 8))[i % 8]? := by
  intro L
  unfold ln
  rw [Ymn (by omega)]; congr 1; omega
 rw [e la', hl]
 split
 ·exact (e _).symm
 ·rw [← e la, h0, Yhs, if_pos]
  omega
/-- a live device; what lasts is its headers, as they are -/
def LDx (d n : Nat) (c : List Int) : SL := ex fun la => LDev d n c la * pu (HLs n c la)
def Mg (m d g : Nat) (hs : List Hd) (F : RF) : SL := ex fun q : Nat × Nat => Tab q.1 d g hs * Idx q.2 g F * pt m (.cells [.pointer (da q.1), .pointer (da q.2), .int .i64 g].toArray 51) * pu (Tie g hs F)
section
variable {B : World} {P R : SL} {t : K}
theorem Ygq {d n : Nat} {c : List Int} (h : ∀ la, HLs n c la → T B (R * LDev d n c la) t) : T B (R * LDx d n c) t := by
 refine Ywt fun la => ?_
 rw [← Yad]
 exact Yz5 fun hl => h la hl
theorem Yg6 {d n : Nat} {c la : List Int} (hl : HLs n c la) (h : T B (R * LDx d n c) t) : T B (R * LDev d n c la) t := by
 refine Ysu hl ?_
 rw [Yad]
 exact Yjt la h
theorem Yhu {m d g : Nat} {hs : List Hd} {F : RF} (h : ∀ a x, Tie g hs F → T B (R * Tab a d g hs * Idx x g F * pt m (.cells [.pointer (da a), .pointer (da x), .int .i64 g].toArray 51)) t) : T B (R * Mg m d g hs F) t := by
 refine Ywt fun q => ?_
 rw [← Yad]
 refine Yz5 fun ok => T.perm ?_ (h q.1 q.2 ok)
 simp only [Yad]
theorem Yfq {m d g a x : Nat} {hs : List Hd} {F : RF} (ok : Tie g hs F) (h : T B (R * Mg m d g hs F) t) : T B (R * Tab a d g hs * Idx x g F * pt m (.cells [.pointer (da a), .pointer (da x), .int .i64 g].toArray 51)) t := by
 have h2 := Yjt (B := B) (R := R) (t := t) (X := fun q : Nat × Nat => Tab q.1 d g hs * Idx q.2 g F * pt m (.cells [.pointer (da q.1), .pointer (da q.2), .int .i64 g].toArray 51) * pu (Tie g hs F)) (a, x) h
 rw [← Yad] at h2
 refine T.perm ?_ (Ysu ok h2)
 simp only [Yad]
theorem Vc2 {m d g : Nat} {hs : List Hd} {F : RF} (h : Tie g hs F → T B (R * Mg m d g hs F) t) : T B (R * Mg m d g hs F) t := by
 refine Yhu fun a x ok => Yfq ok (h ok)
theorem Yr5 {m d g : Nat} {hs : List Hd} {F : RF} {k : Int → K} (hk : T B (R * Mg m d g hs F) (k (g : Int))) : T B (R * Mg m d g hs F) (Ydc (da m) k) := by
 refine Yaq (Yh7 _ k) ?_
 refine Yhu fun a x ok => ?_
 unfold da
 (repeat (first | with_reducible refine Yam ?_ | ((with_reducible apply Yaf); (focus rfl); (focus exact hasA); (focus rfl)) | (with_reducible refine Ya7 ?_; intro _) | ((with_reducible apply Ybc); (focus rfl); (focus exact updA); (focus simp); simp only [List.set, Nat.zero_add, Nat.reduceAdd])))
 refine T.weak ?_
 exact Yfq ok hk
theorem Yif {m d n g a x : Nat} {hs : List Hd} {F : RF} {c la : List Int} (hla : HLs n c la) (ok : Tie g hs F) (h : T B (R * LDx d n c * Mg m d g hs F) t) : T B (R * LDev d n c la * Tab a d g hs * Idx x g F * pt m (.cells [.pointer (da a), .pointer (da x), .int .i64 g].toArray 51)) t := by
 have h2 : T B (R * Tab a d g hs * Idx x g F * pt m (.cells [.pointer (da a), .pointer (da x), .int .i64 g].toArray 51) * LDx d n c) t := T.perm (by ac_rfl) (Yfq (a := a) (x := x) ok h)
 exact T.perm (by ac_rfl) (Yg6 (la := la) hla h2)
theorem Yxl {m d n g : Nat} {hs : List Hd} {F : RF} {c : List Int} {kk : Int} (hn : n = 64 * g) (hkk : 0 ≤ kk ∧ kk < 32) {k : Int × Int → K}
  (h0 : (∀ s q, F s = some q → q < 1) → T B (R * LDx d n c * Mg m d g hs F) (k (0, 4)))
  (h1 : ∀ (b : Nat) (q : Int), F b = some q → 1 ≤ b → b < g → 1 ≤ q → T B (R * LDx d n (wrH c b [(1, kk, 0)]) * Mg m d g (splice hs b [(1, kk, 0)]) (takeF F b 1 q)) (k (b, 0))) :
  T B (R * LDx d n c * Mg m d g hs F) (Yed (da m) kk k) := by
 refine Yaq (Yk2 _ kk k) ?_
 refine Yhu fun a x ok => ?_
 (repeat (first | ((with_reducible apply Yaf); (focus rfl); (focus exact hasA); (focus rfl)) | (with_reducible refine Ya7 ?_; intro _) | ((with_reducible apply Ybc); (focus rfl); (focus exact updA); (focus simp); simp only [List.set, Nat.zero_add, Nat.reduceAdd])))
 refine Yi3 ?_
 have hr : hRight (1, kk, 0) := by unfold hRight; right; left; exact ⟨rfl, hkk.1, hkk.2, rfl⟩
 rw [decide_eq_true hr]
 unfold da
 simp only [Bool.not_true]
 (repeat (first | with_reducible refine Yam ?_ | with_reducible refine Yau ?_ | ((with_reducible apply Yaj); (focus rfl); (focus exact hasA); (focus rfl))))
 rename_i b2
 refine Yaa (X := LDx d n c) (.init (.init (.init (.init .last)))) ?_
 refine Ygq fun la hla => ?_
 refine Yaa (X := Idx x g F) (.init (.init (.init .last))) ?_
 have hg := ok.big
 have hg2 := ok.two
 refine Yr2 ok.ok (by omega) (fun hno => ?_) (fun s q hs1 hs2 hs3 => ?_)
 ·(repeat' (first | with_reducible refine Yam ?_ | with_reducible refine Yak ?_ | ((with_reducible apply Yaf); (focus rfl); (focus exact hasA); (focus rfl)) | ((with_reducible apply Yaj); (focus rfl); (focus exact hasA); (focus rfl)) | (with_reducible refine Ya7 ?_; intro _) | with_reducible refine Yar (fun _ => ?_) (fun _ => ?_)))
  ·refine Yac (.init (.init .last)) ?_
   exact T.perm (by unfold da; ac_rfl) (Yif (la := la) (a := a) (x := x) (R := R) hla ok (h0 hno))
  ·rename_i h b1; exact absurd h (by decide)
 ·obtain ⟨b, rfl, r1, r2, r3⟩ := ok.fr_of hs1
  (repeat' (first | with_reducible refine Yam ?_ | with_reducible refine Yak ?_ | ((with_reducible apply Yaf); (focus rfl); (focus exact hasA); (focus rfl)) | ((with_reducible apply Yaj); (focus rfl); (focus exact hasA); (focus rfl)) | (with_reducible refine Ya7 ?_; intro _) | with_reducible refine Yar (fun _ => ?_) (fun _ => ?_)))
  ·rename_i h; exact absurd rfl h
  rename_i b1
  refine Yaa (X := LDev d n c la) (.init (.init .last)) ?_
  refine Yaa (X := Tab a d g hs) (.init (.init (.init (.init (.init .last))))) ?_
  refine Yfz (xs := [(1, kk, 0)]) ok.two ok.big hn ok.len r1 (by simp; omega) (by simp) (by simp [hr]) (Rd.one (n := 1) (c := 1) (l := [.int .i64 1, .int .i64 kk, .int .i64 0]) (by exact hasA) rfl (by omega)) fun la' hp => ?_
  (repeat' (with_reducible refine Yar (fun _ => ?_) (fun _ => ?_)))
  ·rename_i h; exact absurd rfl h
  have ok' := ok.take (b := b) (xs := [(1, kk, 0)]) hs1 (by simp) (by simp; omega) (by simp)
  refine Yac (.init (.init .last)) ?_
  refine Yac (.init (.init (.init .last))) ?_
  exact T.perm (by unfold da; ac_rfl) (Yif (la := la') (a := a) (x := x) (R := R) (hla.put hn hp) ok' (h1 b q hs1 r1 (by omega) r2))
end
theorem Yr6 {n : Nat} (h : 1 ≤ n) : runH n = (2, 0, (n : Int)) :: (runH n).drop 1 := by
 have h0 := Yq4 n (i := 0) (by omega)
 rw [if_pos rfl] at h0
 have hl := Ycy n
 match hr : runH n, hl with
 |[], hl => simp at hl; omega
 |x :: xs, _ => rw [hr] at h0; simp only [List.getElem?_cons_zero, Option.some.injEq] at h0; rw [h0]; rfl
theorem Yps {n : Nat} (h : n < 256) : ∀ x ∈ runH n, hRight x ∧ x.1 ≠ 0 := by
 intro x hx
 obtain ⟨i, hi, rfl⟩ := List.mem_iff_getElem.1 hx
 rw [Ycy] at hi
 have := Yq4 n hi
 rw [List.getElem?_eq_getElem (by rw [Ycy]; exact hi)] at this
 simp only [Option.some.injEq] at this
 rw [this]
 split
 ·refine ⟨.inr (.inr ⟨.inl rfl, rfl, ?_, ?_⟩), by simp⟩ <;> simp only <;> omega
 ·refine ⟨.inr (.inr ⟨.inr rfl, rfl, ?_, ?_⟩), by simp⟩ <;> simp only <;> omega
section
variable {B : World} {P R : SL} {t : K}
theorem Yxm {m d n g : Nat} {hs : List Hd} {F : RF} {c : List Int} {nn : Nat} (hn : n = 64 * g) (hnn : 1 ≤ nn ∧ nn < 256) {k : Int × Int → K}
  (h0 : (∀ s q, F s = some q → q < nn) → T B (R * LDx d n c * Mg m d g hs F) (k (0, 4)))
  (h1 : ∀ (b : Nat) (q : Int), F b = some q → nn ≤ q → (∀ s q', F s = some q' → nn ≤ q' → q < q' ∨ q = q' ∧ (b : Int) ≤ s) → 1 ≤ b → b + nn ≤ g →
   T B (R * LDx d n (wrH c b (runH nn)) * Mg m d g (splice hs b (runH nn)) (takeF F b nn q)) (k (b, 0))) :
  T B (R * LDx d n c * Mg m d g hs F) (Yec (da m) nn k) := by
 refine Yaq (Yk1 _ nn k) ?_
 refine Yhu fun a x ok => ?_
 unfold da
 (repeat' (first | with_reducible refine Yam ?_ | with_reducible refine Yal ?_ | ((with_reducible apply Yaj); (focus rfl); (focus exact hasA); (focus rfl)) | with_reducible refine Yai (fun _ => ?_) (fun _ => ?_)))
 ·exfalso; omega
 ·exfalso; omega
 refine Yaa (X := LDx d n c) (.init (.init (.init .last))) ?_
 refine Ygq fun la hla => ?_
 refine Yaa (X := Idx x g F) (.init (.init .last)) ?_
 have hg := ok.big
 have hg2 := ok.two
 have hl := ok.len
 refine Yr2 ok.ok (by omega) (fun hno => ?_) (fun s q hs1 hs2 hs3 => ?_)
 ·(repeat' (with_reducible refine Yar (fun _ => ?_) (fun _ => ?_)))
  ·exact T.perm (by unfold da; ac_rfl) (Yif (la := la) (a := a) (x := x) (R := R) hla ok (h0 hno))
  ·rename_i h; exact absurd h (by decide)
 ·obtain ⟨b, rfl, r1, r2, r3⟩ := ok.fr_of hs1
  have hk := h1 b q hs1 hs2 hs3 r1 (by omega)
  have ok' := ok.take (b := b) (xs := runH nn) hs1 (by rw [Ycy]; omega) (by rw [Ycy]; omega) (fun x hx => (Yps (by omega) x hx).2)
  rw [Ycy] at ok'
  have hrl := Ycy nn
  (repeat' (with_reducible refine Yar (fun _ => ?_) (fun _ => ?_)))
  ·rename_i h; exact absurd rfl h
  refine Yzm (by omega) fun s => ?_
  -- the first one's header, behind the others'
  have fin : ∀ c1 la1 hs1, HLs n c1 la1 → hs1.length = g → wrH c1 b [(2, 0, (nn : Int))] = wrH c b (runH nn) → splice hs1 b [(2, 0, (nn : Int))] = splice hs b (runH nn) →
    T B (R * Tab a d g hs1 * pt m (.cells [.pointer (da a), .pointer (da x), .int .i64 g].toArray 51) * LDev d n c1 la1 * Idx x g (takeF F b nn q) * vec 143 3 s (hds (runH nn))) (ixS s.p s.n 0 3 fun x51 => ldI .i64 (x51.add 0) fun x52_0 => ldI .i64 (x51.add 1) fun x52_1 => ldI .i64 (x51.add 2) fun x52_2 =>
     alK (.cells #[.int .i64 x52_0, .int .i64 x52_1, .int .i64 x52_2] 143) fun b_1 => Ya6 (da a) b ⟨some ⟨b_1, 0, none⟩, 1, 1⟩ fun x54 => Zcy3 k b x54) := by
   intro c1 la1 hs1 hla1 e1 e2 e3
   refine Ys8 (l := runH nn) (Rd.vec (E := 143) (s := s) .last) (by omega) (by simp [hrl]; omega) fun y hy => ?_
   have e0 : (runH nn)[(0 : Int).toNat]'(by simp [hrl]; omega) = (2, 0, (nn : Int)) := by
    have := Yq4 nn (i := 0) (by omega)
    rw [List.getElem?_eq_getElem (by omega)] at this
    simpa using this
   rw [e0] at hy
   refine Ycv hy rfl ?_
   refine Ycv hy rfl ?_
   refine Ycv hy rfl ?_
   (repeat ((with_reducible refine Ya7 ?_; intro _)))
   rename_i b1
   refine Yac (.init .last) ?_
   refine Yaa (X := LDev d n c1 la1) (.init (.init .last)) ?_
   refine Yaa (X := Tab a d g hs1) (.init (.init (.init (.init .last)))) ?_
   refine Yfz (xs := [(2, 0, (nn : Int))]) ok.two ok.big hn e1 r1 (by simp; omega) (by simp) (fun h hh => by simp only [List.mem_singleton] at hh; subst hh; refine .inr (.inr ⟨.inl rfl, rfl, ?_, ?_⟩) <;> simp only <;> omega) (Rd.one (n := 1) (c := 1) (l := [.int .i64 2, .int .i64 0, .int .i64 nn]) (by exact hasA) rfl (by omega)) fun la' hp => ?_
   rw [e2, e3]
   (repeat' (with_reducible refine Yar (fun _ => ?_) (fun _ => ?_)))
   ·rename_i h; exact absurd rfl h
   refine Yac (.init (.init .last)) ?_
   exact T.perm (by unfold da; ac_rfl) (Yif (la := la') (a := a) (x := x) (R := R) (e2 ▸ hla1.put hn hp) ok' hk)
  (repeat' (first | with_reducible refine Yam ?_ | with_reducible refine Yak ?_ | ((with_reducible apply Yaj); (focus rfl); (focus exact hasA); (focus rfl)) | with_reducible refine Yai (fun _ => ?_) (fun _ => ?_)))
  ·rename_i hgt
   refine Yc0 (E := 143) (sz := 3) (s := s) (vs := hds (runH nn)) .last fun hsn => ?_
   rw [Ydo, hrl] at hsn
   have hsn' : s.n = nn := by omega
   refine Vb3 (n := 1) (by omega) (by omega) ?_
   have ew : IntKind.wrap .i64 ((b : Int) + 1) = ((b + 1 : Nat) : Int) := by rw [w64 (by omega) (by omega)]; omega
   rw [ew]
   refine Yaa (X := LDev d n c la) (.init (.init .last)) ?_
   refine Yaa (X := Tab a d g hs) (.init (.init (.init (.init .last)))) ?_
   have hdl : ((runH nn).drop 1).length = nn - 1 := by simp [hrl]
   have hpc : Rd (R * pt m (.cells [.pointer (da a), .pointer (da x), .int .i64 g].toArray 51) * Idx x g (takeF F b nn q) * vec 143 3 s (hds (runH nn))) ⟨cutP s.p (1 : Int).toNat s.c 3, s.n - (1 : Int).toNat, s.c - (1 : Int).toNat⟩ 3 (hds ((runH nn).drop 1)) := by
    have := (Rd.vec (E := 143) (sz := 3) (s := s) (vs := hds (runH nn)) (P := R * pt m (.cells [.pointer (da a), .pointer (da x), .int .i64 g].toArray 51) * Idx x g (takeF F b nn q) * vec 143 3 s (hds (runH nn))) .last).piece (y := ⟨cutP s.p (1 : Int).toNat s.c 3, s.n - (1 : Int).toNat, s.c - (1 : Int).toNat⟩) (o := 1) (n := nn - 1) (by omega) (by rw [Ydo, hrl]; omega) rfl (by simp only; omega) rfl
    have e : cut (hds (runH nn)) (1 * 3) ((nn - 1) * 3) = hds ((runH nn).drop 1) := by
     unfold cut
     rw [Ver, Ves, List.take_of_length_le (by omega)]
    rw [e] at this; exact this
   refine Yfz (xs := (runH nn).drop 1) ok.two ok.big hn hl (by omega) (by omega) (fun h => by rw [h] at hdl; simp at hdl; omega) (fun h hh => (Yps hnn.2 h (List.mem_of_mem_drop hh)).1) hpc fun la' hp => ?_
   (repeat' (first | with_reducible refine Yam ?_ | with_reducible refine Yak ?_ | ((with_reducible apply Yaj); (focus rfl); (focus exact hasA); (focus rfl)) | with_reducible refine Yar (fun _ => ?_) (fun _ => ?_)))
   ·rename_i h; exact absurd rfl h
   have e1 : (splice hs (b + 1) ((runH nn).drop 1)).length = g := by rw [Yah (by omega)]; exact hl
   have := fin (wrH c (b + 1) ((runH nn).drop 1)) la' (splice hs (b + 1) ((runH nn).drop 1)) (hla.put hn hp) e1 (by rw [Vgk, ← Yr6 hnn.1]) (by rw [splice_two' (by omega), ← Yr6 hnn.1])
   refine T.perm ?_ this
   unfold da; ac_rfl
  ·rename_i hle
   have h1n : nn = 1 := by omega
   have hd : (runH nn).drop 1 = [] := by rw [List.drop_eq_nil_iff]; omega
   have e : runH nn = [(2, 0, (nn : Int))] := by rw [Yr6 hnn.1, hd]
   exact fin c la hs hla hl (by rw [e]) (by rw [e])
end
/-- what may be given back: a block of small objects, or a large one whole -/
def Rel (hs : List Hd) (b n : Nat) : Prop := ((hs.getD b (0, 0, 0)).1 = 1 ∧ n = 1 ∧ b < hs.length) ∨ WholeP hs b n
theorem Rel.rng {hs : List Hd} {b n : Nat} (h : Rel hs b n) : 1 ≤ n ∧ b + n ≤ hs.length := by
 rcases h with ⟨_, h1, h2⟩ | h
 ·omega
 ·exact ⟨h.1, h.2.1⟩
theorem Rel.kind {hs : List Hd} {b n i : Nat} (h : Rel hs b n) (hi : i < n) : (hs.getD (b + i) (0, 0, 0)).1 ≠ 0 := by
 rcases h with ⟨h0, h1, h2⟩ | h
 ·have : i = 0 := by omega
  subst this; rw [Nat.add_zero, h0]; omega
 ·by_cases e : i = 0
  ·subst e; rw [Nat.add_zero, h.2.2.1]; omega
  ·rw [h.2.2.2.2 i (by omega) hi]; simp
theorem Vet {g : Nat} (h : 2 ≤ g) : spS (List.replicate g (0, 0, 0)) g = [(1, (g : Int) - 1)] := by
 have key : ∀ b : Nat, 1 ≤ b → b < g → spS (List.replicate g (0, 0, 0)) (b + 1) = [(1, (b : Int))] := by
  intro b hb hlt
  induction b with
  |zero => omega
  |succ b ih =>
   rw [Yvi _ hb]
   have e : (List.replicate g ((0, 0, 0) : Hd)).getD (b + 1) (0, 0, 0) = (0, 0, 0) := by rw [List.getD_eq_getElem?_getD, List.getElem?_replicate]; split <;> rfl
   rw [e]
   by_cases h0 : b = 0
   ·subst h0; rfl
   ·rw [ih (by omega) (by omega)]
    unfold spStep
    rw [if_neg (by simp), if_pos (by simp; omega)]
    simp
 have := key (g - 1) (by omega) (by omega)
 rw [show g - 1 + 1 = g by omega] at this
 rw [this]
 congr 2; omega
section
variable {B : World} {P R : SL} {t : K}
theorem Ymk {m d n g : Nat} {hs : List Hd} {F : RF} {c : List Int} {b nn : Nat} (hn : n = 64 * g) (hb : 1 ≤ b) (hr : Rel hs b nn) {k : Int → K}
  (hk : ∀ F', Tie g (splice hs b (List.replicate nn (0, 0, 0))) F' → T B (R * LDx d n (wrH c b (List.replicate nn (0, 0, 0))) * Mg m d g (splice hs b (List.replicate nn (0, 0, 0))) F') (k 0)) :
  T B (R * LDx d n c * Mg m d g hs F) (Ych (da m) b k) := by
 refine Yaq (Yi4 _ b k) ?_
 refine Yhu fun a x ok => ?_
 have hg := ok.big
 have hg2 := ok.two
 have hl := ok.len
 have hrr := hr.rng
 have h0' : ∀ h ∈ List.replicate nn ((0, 0, 0) : Hd), hRight h := fun h hh => by rw [List.eq_of_mem_replicate hh]; exact .inl rfl
 unfold da
 (repeat' (first | with_reducible refine Yam ?_ | ((with_reducible apply Yaj); (focus rfl); (focus exact hasA); (focus rfl))))
 refine Yaa (X := LDx d n c) (.init (.init (.init .last))) ?_
 refine Ygq fun la hla => ?_
 refine Yaa (X := Tab a d g hs) (.init (.init (.init .last))) ?_
 refine Yk8 ?_
 rw [if_neg (by omega), Int.toNat_natCast]
 (repeat (first | ((with_reducible apply Yaf); (focus rfl); (focus exact hasA); (focus rfl)) | (with_reducible refine Ya7 ?_; intro _) | ((with_reducible apply Ybc); (focus rfl); (focus exact updA); (focus simp); simp only [List.set, Nat.zero_add, Nat.reduceAdd])))
 rename_i b2
 -- how many
 have key : T B (R * pt m (.cells [.pointer (da a), .pointer (da x), .int .i64 g].toArray 51) * Idx x g F * LDev d n c la * Tab a d g hs) (Zci10 (some ⟨m, 0, none⟩) b k nn) := by
  unfold da
  (repeat (first | with_reducible refine Yam ?_ | ((with_reducible apply Yaj); (focus rfl); (focus exact hasA); (focus rfl)) | (with_reducible refine Ya7 ?_; intro _)))
  rename_i b1
  refine Yaa (X := LDev d n c la) (.init (.init .last)) ?_
  refine Yaa (X := Tab a d g hs) (.init (.init .last)) ?_
  refine Yfz (xs := [((0, 0, 0) : Hd)]) ok.two ok.big hn hl hb (by simp; omega) (by simp) (fun h hh => by simp only [List.mem_singleton] at hh; subst hh; exact .inl rfl) (Rd.one (n := 1) (c := 1) (l := [.int .i64 0, .int .i64 0, .int .i64 0]) (by exact hasA) rfl (by omega)) fun la' hp => ?_
  have giv : ∀ c1 la1 hs1, HLs n c1 la1 → wrH c b (List.replicate nn (0, 0, 0)) = c1 → splice hs b (List.replicate nn (0, 0, 0)) = hs1 → T B (R * pt m (.cells [.pointer (da a), .pointer (da x), .int .i64 g].toArray 51) * LDev d n c1 la1 * Tab a d g hs1 * Idx x g F) (Yb7 (da x) b nn fun x55 => Zci0 k x55) := by
   intro c1 la1 hs1 hla1 e1 e2
   subst e1 e2
   refine Yr4 ok.ok (by omega) (fun h => absurd ⟨by omega, by omega, by omega⟩ h) (fun _ _ _ h => ?_) (fun _ _ _ _ F' okF hF' => ?_)
   ·exfalso
    obtain ⟨y, g1, g2, g3⟩ := h
    have := (ok.fr y).1 g3
    have h2 := hr.kind (i := y.toNat - b) (by omega)
    rw [show b + (y.toNat - b) = y.toNat by omega] at h2
    exact h2 this.2.2
   ·have ok' := ok.give hb (by omega) okF hF'
    exact T.perm (by unfold da; ac_rfl) (Yif (la := la1) (a := a) (x := x) (R := R) hla1 ok' (hk F' ok'))
  (repeat' (first | with_reducible refine Yam ?_ | with_reducible refine Yak ?_ | ((with_reducible apply Yaj); (focus rfl); (focus exact hasA); (focus rfl)) | with_reducible refine Yai (fun _ => ?_) (fun _ => ?_) | with_reducible refine Yar (fun _ => ?_) (fun _ => ?_)))
  ·rename_i h; exact absurd rfl h
  ·rename_i hgt
   have ew : IntKind.wrap .i64 ((nn : Int) - 1) = ((nn - 1 : Nat) : Int) := by rw [w64 (by omega) (by omega)]; omega
   have ew2 : IntKind.wrap .i64 ((b : Int) + 1) = ((b + 1 : Nat) : Int) := by rw [w64 (by omega) (by omega)]; omega
   refine Yac (.init (.init .last)) ?_
   (dsimp only [Yb0, Zci0, Zci1, Zci2, Zci3, Zci4, Zci5, Zci6, Zci7, Zci8, Zci9, Zci10, Zci11, Zci12, Zci13, Zci14, Zci15, Zci16, Zci17, Zci18])
   rw [ew, ew2]
   refine Ysv Vcw (by omega) (by omega) (by omega) fun b3 => ?_
   rw [Int.toNat_natCast, Vab]
   refine Yaa (X := LDev d n (wrH c b [(0, 0, 0)]) la') (.init (.init .last)) ?_
   refine Yaa (X := Tab a d g (splice hs b [(0, 0, 0)])) (.init (.init .last)) ?_
   have hl1 : (splice hs b [((0, 0, 0) : Hd)]).length = g := by rw [Yah (by simp; omega)]; exact hl
   have erep : (0, 0, 0) :: List.replicate (nn - 1) ((0, 0, 0) : Hd) = List.replicate nn (0, 0, 0) := by rw [← List.replicate_succ]; congr 1; omega
   refine Yfz (xs := List.replicate (nn - 1) ((0, 0, 0) : Hd)) ok.two ok.big hn hl1 (by omega) (by simp; omega) (fun h => by have := congrArg List.length h; simp at this; omega) (fun h hh => by rw [List.eq_of_mem_replicate hh]; exact .inl rfl) (Rd.vec (E := 143) .last) fun la'' hp2 => ?_
   have h2 := giv (wrH (wrH c b [(0, 0, 0)]) (b + 1) (List.replicate (nn - 1) (0, 0, 0))) la'' (splice (splice hs b [(0, 0, 0)]) (b + 1) (List.replicate (nn - 1) (0, 0, 0))) ((hla.put hn hp).put hn hp2) (by rw [← erep]; rfl) (by rw [Vbq (by simp; omega), erep])
   (repeat' (first | with_reducible refine Yam ?_ | ((with_reducible apply Yaj); (focus rfl); (focus exact hasA); (focus rfl)) | with_reducible refine Yar (fun _ => ?_) (fun _ => ?_)))
   ·rename_i h; exact absurd rfl h
   refine Yac (.init (.init .last)) ?_
   exact T.perm (by unfold da; ac_rfl) h2
  ·have h1n : nn = 1 := by omega
   have h2 := giv (wrH c b [(0, 0, 0)]) la' (splice hs b [(0, 0, 0)]) (hla.put hn hp) (by rw [h1n]; rfl) (by rw [h1n]; rfl)
   refine Yac (.init (.init .last)) ?_
   exact T.perm (by unfold da; ac_rfl) h2
 (dsimp only [Yb0, Zci0, Zci1, Zci2, Zci3, Zci4, Zci5, Zci6, Zci7, Zci8, Zci9, Zci10, Zci11, Zci12, Zci13, Zci14, Zci15, Zci16, Zci17, Zci18] at key)
 rcases hr with ⟨q1, q2, q3⟩ | hw
 ·rw [q1]
  subst q2
  skip
  (dsimp only [Yb0, Zci0, Zci1, Zci2, Zci3, Zci4, Zci5, Zci6, Zci7, Zci8, Zci9, Zci10, Zci11, Zci12, Zci13, Zci14, Zci15, Zci16, Zci17, Zci18])
  refine Ybr (fun _ => ?_) (fun h => absurd rfl h)
  refine Yac .last ?_
  exact T.perm (by unfold da; ac_rfl) key
 ·rw [hw.2.2.1, hw.2.2.2.1]
  skip
  (dsimp only [Yb0, Zci0, Zci1, Zci2, Zci3, Zci4, Zci5, Zci6, Zci7, Zci8, Zci9, Zci10, Zci11, Zci12, Zci13, Zci14, Zci15, Zci16, Zci17, Zci18])
  refine Ybr (fun h => absurd h (by decide)) (fun _ => ?_)
  refine Ybr (fun _ => ?_) (fun h => absurd rfl h)
  refine Yaf (n := (nn : Int)) (by rw [Yay]) .last rfl ?_
  refine Yac .last ?_
  exact T.perm (by unfold da; ac_rfl) key
theorem Yxn {hs : List Hd} {x : Sl} (hl2 : hs.length ≤ 2 ^ 30) (hx : Rd P x 3 (hds hs)) (h0 : ∀ h ∈ hs, h.1 = 0 ∨ h.1 = 1) {k : Int × Bool → K} (hk : T B P (k (0, true))) : T B P (Ykg x k) := by
 refine Yaq (Yve x k) ?_
 refine Ya1 hx fun hxn => ?_
 rw [Ydo] at hxn
 have hxl : x.n = hs.length := by omega
 refine Ycz (fun _ _ => P) (fun m (z : Int × Unit) => ∃ i : Nat, z.1 = i ∧ 1 ≤ i ∧ m = hs.length - i) (hs.length - 1) rfl ⟨1, rfl, by omega, rfl⟩ ?_
 rintro m ⟨z, u⟩ cc ⟨i, e1, e2, e3⟩ hc
 simp only at e1
 subst e1 e3
 (repeat' (with_reducible refine Yai (fun _ => ?_) (fun _ => ?_)))
 ·have hlt : i < hs.length := by omega
  refine Ys8 (l := hs) hx (by omega) (by rw [Int.toNat_natCast]; exact hlt) fun a ha => ?_
  simp only [Int.toNat_natCast] at ha
  have hki := h0 _ (List.getElem_mem hlt)
  refine Ycv ha rfl ?_
  (repeat' (with_reducible refine Ybr (fun _ => ?_) (fun _ => ?_)))
  ·exfalso; omega
  ·exfalso; omega
  ·refine hc (hs.length - (i + 1)) _ (by omega) ⟨i + 1, w64 (by omega) (by omega), by omega, rfl⟩
 ·exact hk
theorem Yzn {d n g : Nat} {c : List Int} (hg : 2 ≤ g) (hg2 : g ≤ 2 ^ 20) (ht : Tells c (List.replicate g (0, 0, 0))) {k : Option Addr × Int → K}
  (hk : ∀ m F, T B (R * LDx d n c * Mg m d g (List.replicate g (0, 0, 0)) F) (k (da m, 0))) : T B (R * LDx d n c) (Ymp (da d) g k) := by
 refine Yaq (Yw9 _ g k) ?_
 (repeat (first | ((with_reducible apply Yaf); (focus rfl); (focus exact hasA); (focus rfl)) | (with_reducible refine Ya7 ?_; intro _)))
 refine Yaa (X := LDx d n c) (.init .last) ?_
 refine Ygq fun la hla => ?_
 refine Yvh (by omega) hg2 (by simp) ht fun a => ?_
 (repeat' (with_reducible refine Yar (fun _ => ?_) (fun _ => ?_)))
 ·rename_i h; exact absurd rfl h
 refine Yp8 (hs := List.replicate g (0, 0, 0)) (by simp; omega) fun s => ?_
 refine Yxn (hs := List.replicate g (0, 0, 0)) (by simp; omega) (Rd.vec (E := 143) (s := s) .last) (fun h hh => by rw [List.eq_of_mem_replicate hh]; exact .inl rfl) ?_
 (dsimp only [Yw8, Zco0, Zco1, Zco2, Zco3, Zco4, Zco5, Zco6, Zco7, Zco8, Zco9, Zco10, Zco11, Zco12, Zco13])
 simp only [Bool.not_true]
 refine Yac .last ?_
 (repeat (first | with_reducible refine Yak ?_ | with_reducible refine Yau ?_ | ((with_reducible apply Yaf); (focus rfl); (focus exact hasA); (focus rfl))))
 refine Yrs (hs := List.replicate g (0, 0, 0)) (by simp; omega) (by simp; omega) fun s2 => ?_
 (repeat (first | with_reducible refine Ybe ?_ | ((with_reducible apply Ycm); (focus rfl); (focus exact hasA); (focus rfl))))
 rw [List.length_replicate, Vet hg]
 refine Yzl (l := [(1, (g : Int) - 1)]) (by omega) (by omega) (Rd.vec (E := 152) (s := s2) .last) (by simp) (fun p hp => by simp only [List.mem_singleton] at hp; subst hp; simp only; omega)
  (fun i j p q hij hi hj => by
   have h1 := (List.getElem?_eq_some_iff.1 hj).1
   simp at h1; omega) fun x F ok hF => ?_
 (repeat' (first | ((with_reducible apply Yaf); (focus rfl); (focus exact hasA); (focus rfl)) | (with_reducible refine Ya7 ?_; intro _) | with_reducible refine Yar (fun _ => ?_) (fun _ => ?_)))
 ·rename_i h; exact absurd rfl h
 rename_i m
 have tie : Tie g (List.replicate g (0, 0, 0)) F := ⟨ok, by simp, hg, fun y => by
  rw [hF]
  have : (List.replicate g ((0, 0, 0) : Hd)).getD y.toNat (0, 0, 0) = (0, 0, 0) := by rw [List.getD_eq_getElem?_getD, List.getElem?_replicate]; split <;> rfl
  rw [this]
  simp only [List.mem_singleton, exists_eq_left]
  constructor
  ·intro h; exact ⟨by omega, by omega, trivial⟩
  ·intro h; exact ⟨by omega, by omega⟩⟩
 refine Yac (.init (.init .last)) ?_
 refine Yac (.init (.init (.init (.init .last)))) ?_
 exact T.perm (by ac_rfl) (Yif (la := la) (a := a) (x := x) (R := R) hla tie (hk m F))
end
abbrev SlotK := Int × Int
def eslot (p : SlotK) : Value := .agg #[.int .i64 p.1, .int .i64 p.2]
def esl (s : Sl) : Value := s.v
def nilS : Sl := ⟨none, 0, 0⟩
theorem Yle : KeyD (α := SlotK) Tryz.prog 197 201 27 eslot := by
 refine ⟨by kernel_rfl, fun a b => ?_, fun a => by kernel_rfl, fun a b h => ?_, fun a => ?_⟩
 ·have : keyEq Tryz.prog 201 (eslot a) (eslot b) = some ((a.1 == b.1) && ((a.2 == b.2) && true)) := by kernel_rfl
  rw [this, Bool.and_true]
  congr 1
  rw [Bool.eq_iff_iff]
  simp only [Bool.and_eq_true, beq_iff_eq, decide_eq_true_eq]
  exact ⟨fun h => Prod.ext h.1 h.2, fun h => by rw [h]; exact ⟨rfl, rfl⟩⟩
 ·unfold eslot at h
  simp only [Value.agg.injEq, Array.mk.injEq, List.cons.injEq, Value.int.injEq, true_and, and_true] at h
  exact Prod.ext h.1 h.2
 ·show ((2 : Nat) == 2 && _) = true
  simp [Instr.sameBits]
def ix (m k : Nat) : Nat := 32 + (32 * m + k)
structure FlOk (S : Nat → Sl) (cs : SlotK → Option Sl) : Prop where
 eq : ∀ m k : Nat, m < 4 → k < 32 → (cs ((m : Int), (k : Int))).getD nilS = S (ix m k)
def vI (S : Nat → Sl) (L : Nat → List Int) (i : Nat) : SL := vec 3 1 (S i) (ints (L i))
def glob (S : Nat → Sl) : List Value := (List.range 32).map fun k => (S k).v
def Fl (a : Nat) (L : Nat → List Int) : SL := ex fun q : (Nat → Sl) × (SlotK → Option Sl) × Nat => pt a (.cells (glob q.1 ++ [Value.map (some q.2.2)]).toArray 199) * MpF eslot esl q.2.2 q.2.1 * bigS 160 (vI q.1 L) * pu (FlOk q.1 q.2.1)
def setN {α : Type} (f : Nat → α) (i : Nat) (x : α) : Nat → α := fun j => if j = i then x else f j
theorem Yao {α : Type} (f : Nat → α) (i : Nat) (x : α) : setN f i x i = x := if_pos rfl
theorem Yas {α : Type} (f : Nat → α) {i j : Nat} (x : α) (h : j ≠ i) : setN f i x j = f j := if_neg h
theorem Yly (S : Nat → Sl) : (glob S).length = 32 := by simp [glob]
theorem Vc3 (S : Nat → Sl) (t : List Value) {k : Nat} (h : k < 32) : (glob S ++ t)[k]? = some (S k).v := by
 rw [List.getElem?_append_left (by rw [Yly]; exact h)]
 simp [glob, h]
theorem Veu (S : Nat → Sl) (v : Value) : (glob S ++ [v])[32]? = some v := by
 rw [List.getElem?_append_right (by rw [Yly]; omega), Yly]; rfl
theorem Vev (S : Nat → Sl) (t : List Value) {k : Nat} (h : k < 32) (s : Sl) : (glob S ++ t).set k s.v = glob (setN S k s) ++ t := by
 rw [List.set_append_left _ _ (by rw [Yly]; exact h)]
 congr 1
 apply List.ext_getElem?
 intro i
 rw [List.getElem?_set, Yly]
 simp only [glob, List.getElem?_map, List.getElem?_range, List.length_map, List.length_range]
 by_cases e : k = i
 ·subst e
  rw [if_pos rfl, if_pos h, List.getElem?_range h]; simp [setN]
 ·rw [if_neg e]
  by_cases h2 : i < 32
  ·rw [List.getElem?_range h2]; simp [setN, Ne.symm e]
  ·rw [List.getElem?_eq_none (by simp; omega)]; rfl
theorem Yig (S : Nat → Sl) {k : Nat} (h : 32 ≤ k) (s : Sl) : glob (setN S k s) = glob S := by
 unfold glob
 refine List.map_congr_left fun i hi => ?_
 rw [Yas]
 have := List.mem_range.1 hi; omega
section
variable {B : World} {P R : SL} {t : K}
theorem Yng {s : Sl} {l : List Int} (hl : l.length ≤ 2 ^ 39) (h : Rd R s 1 (ints l)) {k : Sl → K} (hk : ∀ s', T B (R * vec 3 1 s' (ints l)) (k s')) : T B R (Ybg s k) := by
 refine Yaq (Yh4 s k) ?_
 refine Ya1 h fun hn => ?_
 rw [Yag, Nat.mul_one] at hn
 refine Vhg h fun hp => ?_
 refine Vb2 (fun e => ?_) (fun e => ?_)
 ·have hl0 : ints l = [] := hp (by simpa using e)
  rw [hl0] at hk
  exact Ydh rfl rfl (hk ⟨none, 0, 0⟩)
 ·(repeat ((with_reducible refine Ya7 ?_; intro _)))
  rename_i b
  refine Ydh (E := 3) (sz := 1) (s := ⟨some ⟨b, 0, none⟩, 0, 0⟩) rfl rfl ?_
  refine Ybs (s := ⟨some ⟨b, 0, none⟩, 0, 0⟩) Yeo h.init (Yct l) (by simp; omega) fun s' => ?_
  exact Yux (hk s')
theorem Ypt {a : Nat} {L : Nat → List Int} (h : ∀ S cs r, FlOk S cs → T B (R * MpF eslot esl r cs * bigS 160 (vI S L) * pt a (.cells (glob S ++ [Value.map (some r)]).toArray 199)) t) : T B (R * Fl a L) t := by
 refine Ywt fun q => ?_
 rw [← Yad]
 refine Yz5 fun ok => T.perm ?_ (h q.1 q.2.1 q.2.2 ok)
 ac_rfl
theorem Ygr {a r : Nat} {L : Nat → List Int} {S : Nat → Sl} {cs : SlotK → Option Sl} (ok : FlOk S cs) (h : T B (R * Fl a L) t) : T B (R * MpF eslot esl r cs * bigS 160 (vI S L) * pt a (.cells (glob S ++ [Value.map (some r)]).toArray 199)) t := by
 have h2 := Yjt (B := B) (R := R) (t := t) (X := fun q : (Nat → Sl) × (SlotK → Option Sl) × Nat => pt a (.cells (glob q.1 ++ [Value.map (some q.2.2)]).toArray 199) * MpF eslot esl q.2.2 q.2.1 * bigS 160 (vI q.1 L) * pu (FlOk q.1 q.2.1)) (S, cs, r) h
 rw [← Yad] at h2
 refine T.perm ?_ (Ysu ok h2)
 ac_rfl
theorem Val (R : SL) (h : T B (R * vec 3 1 nilS (ints [])) t) : T B R t := Ydh (s := nilS) rfl rfl h
theorem Vgl (n : Nat) (h : T B (R * bigS n (vI (fun _ => nilS) (fun _ => []))) t) : T B R t := by
 induction n generalizing t R with
 |zero => rw [show bigS 0 (vI (fun _ => nilS) (fun _ => [])) = emp from rfl, Yuv] at h; exact h
 |succ n ih =>
  refine ih (R := R) ?_
  refine Val _ ?_
  rw [Yad]
  exact h
theorem Vbr {k : Option Addr → K} (hk : ∀ a, T B (R * Fl a (fun _ => [])) (k (da a))) : T B R (Yo9 k) := by
 refine Yaq (Yzf k) ?_
 (dsimp only [Vac, Zdj0, Zdj1])
 refine Ya7 fun r => ?_
 refine Ydy (ek := eslot) (ev := esl) (Yzk (α := SlotK) (β := Sl)) ?_
 refine Ya7 fun a => ?_
 have e : (#[.slice none 0 0, .slice none 0 0, .slice none 0 0, .slice none 0 0, .slice none 0 0, .slice none 0 0, .slice none 0 0, .slice none 0 0, .slice none 0 0, .slice none 0 0, .slice none 0 0, .slice none 0 0, .slice none 0 0, .slice none 0 0, .slice none 0 0, .slice none 0 0, .slice none 0 0, .slice none 0 0, .slice none 0 0, .slice none 0 0, .slice none 0 0, .slice none 0 0, .slice none 0 0, .slice none 0 0, .slice none 0 0, .slice none 0 0, .slice none 0 0, .slice none 0 0, .slice none 0 0, .slice none 0 0, .slice none 0 0, .slice none 0 0, Value.map (some r)] : Array Value) = (glob (fun _ => nilS) ++ [Value.map (some r)]).toArray := rfl
 rw [e]
 refine Vgl 160 ?_
 have h := Ygr (B := B) (R := R) (a := a) (r := r) (L := fun _ => []) (S := fun _ => nilS) (cs := fun _ => none) ⟨fun _ _ _ _ => rfl⟩ (hk a)
 exact T.perm (by ac_rfl) h
theorem Yqb {m k : Int} {kk : Bool → K} (hk : T B R (kk (decide ((0 ≤ m ∧ m < 4) ∧ 0 ≤ k ∧ k < 32)))) : T B R (Yg9 m k kk) := by
 refine Yaq (Yvd m k kk) ?_
 (repeat' (with_reducible refine Yai (fun _ => ?_) (fun _ => ?_)))
 ·refine Ybt ?_
  have e : decide (0 ≤ k ∧ k < 32) = decide ((0 ≤ m ∧ m < 4) ∧ 0 ≤ k ∧ k < 32) := by rw [decide_eq_decide]; omega
  rw [e]; exact hk
 ·have e : decide ((0 ≤ m ∧ m < 4) ∧ 0 ≤ k ∧ k < 32) = false := by rw [decide_eq_false_iff_not]; omega
  rw [e] at hk; exact hk
 ·have e : decide ((0 ≤ m ∧ m < 4) ∧ 0 ≤ k ∧ k < 32) = false := by rw [decide_eq_false_iff_not]; omega
  rw [e] at hk; exact hk
theorem bigRd {S : Nat → Sl} {L : Nat → List Int} {i : Nat} (h : i < 160) : Rd (bigS 160 (vI S L)) (S i) 1 (ints (L i)) := Rd.perm (Yhh h) (Rd.vec (E := 3) .last)
/-- what a mutator keeps, out of the map -/
theorem Yje {r : Nat} {cs : SlotK → Option Sl} (h : MHas eslot esl P r cs) {x y : Int} {k : Nat → Obj → Sl → Bool → K} (ht : ∀ ob b, T B P (k r ob ((cs (x, y)).getD nilS) b)) :
  T B P (lkE Tryz.prog 201 (.slice none 0 0) (.sc .slice) (some r) (.agg #[.int .i64 x, .int .i64 y]) k) := by
 refine Yr0 (ek := eslot) (ev := esl) Yle h (key := (x, y)) ((cs (x, y)).getD nilS) ?_ fun ob => ht ob _
 cases cs (x, y) <;> rfl
theorem Vbs {a : Nat} {L : Nat → List Int} {m k : Nat} (hm : m < 4) (hk2 : k < 32) {kk : Int → K} (hk : T B (R * Fl a L) (kk (L (ix m k)).length)) : T B (R * Fl a L) (Ygd (da a) m k kk) := by
 refine Yaq (Ypp _ m k kk) ?_
 refine Ypt fun S cs r ok => ?_
 unfold da
 refine Yam ?_
 refine Yd8 (n := some r) (by rw [Yay]) .last (Veu S _) ?_
 refine Yje (cs := cs) (MHas.init (MHas.init (MHas.of .last))) fun ob b => ?_
 rw [ok.eq m k hm hk2]
 have hi : ix m k < 160 := by unfold ix; omega
 refine Ya1 (Rd.init (Rd.tail (bigRd (S := S) (L := L) hi))) fun hn => ?_
 rw [Yag] at hn
 have e : ((S (ix m k)).n : Int) = (L (ix m k)).length := by omega
 refine Ygr ok ?_
 rw [← e] at hk; exact hk
/-- is a cell of a class free? -/
def FHas (L : Nat → List Int) (k : Nat) (x : Int) : Prop := x ∈ L k ∨ ∃ m, m < 4 ∧ x ∈ L (ix m k)
theorem Yuf {a : Nat} {L : Nat → List Int} (hL : ∀ i, i < 160 → (L i).length ≤ 2 ^ 30) {k : Nat} (hk2 : k < 32) {x : Int} {kk : Bool → K} (h1 : FHas L k x → T B (R * Fl a L) (kk true)) (h0 : ¬ FHas L k x → T B (R * Fl a L) (kk false)) :
  T B (R * Fl a L) (Yeq (da a) k x kk) := by
 refine Yaq (Ypm _ k x kk) ?_
 refine Ybt ?_
 rw [decide_eq_true (by omega)]
 simp only [Bool.not_true]
 refine Ypt fun S cs r ok => ?_
 unfold da
 (repeat (first | with_reducible refine Yam ?_ | with_reducible refine Yau ?_))
 refine Yyo (by omega) (by omega) ?_
 rw [Int.toNat_natCast, Yay, Yay, Nat.mul_one]
 refine Yaz (n := S k) rfl .last (by rw [Nat.zero_add]; exact Vc3 S _ hk2) ?_
 have hl := hL k (by omega)
 refine Ymg (l := L k) (by omega) (Rd.init (Rd.tail (bigRd (S := S) (L := L) (by omega)))) ?_
 by_cases hin : x ∈ L k
 ·rw [decide_eq_true hin]
  (repeat (with_reducible refine Yal ?_))
  exact Ygr ok (h1 (.inl hin))
 ·rw [decide_eq_false hin]
  (repeat (with_reducible refine Yau ?_))
  refine Ycz (fun _ _ => R * MpF eslot esl r cs * bigS 160 (vI S L) * pt a (.cells (glob S ++ [Value.map (some r)]).toArray 199)) (fun n (z : Int × Unit) => ∃ i : Nat, z.1 = i ∧ i ≤ 4 ∧ n = 4 - i ∧ ∀ m, m < i → x ∉ L (ix m k)) 4 rfl ⟨0, rfl, by omega, rfl, fun m h => by omega⟩ ?_
  rintro n ⟨z, u⟩ c ⟨i, e1, e2, e3, e4⟩ hc
  simp only at e1
  subst e1 e3
  (repeat' (first | with_reducible refine Yam ?_ | ((with_reducible apply Yd8); (focus rfl); (focus exact hasA); (focus rfl)) | with_reducible refine Yai (fun _ => ?_) (fun _ => ?_)))
  ·refine Yje (cs := cs) (MHas.init (MHas.init (MHas.of .last))) fun ob b => ?_
   rw [ok.eq i k (by omega) hk2]
   have hix : ix i k < 160 := by unfold ix; omega
   have hl := hL (ix i k) hix
   refine Ymg (l := L (ix i k)) (by omega) (Rd.init (Rd.tail (bigRd (S := S) (L := L) hix))) ?_
   by_cases hin2 : x ∈ L (ix i k)
   ·rw [decide_eq_true hin2]
    (repeat (with_reducible refine Yal ?_))
    exact Ygr ok (h1 (.inr ⟨i, by omega, hin2⟩))
   ·rw [decide_eq_false hin2]
    (repeat (with_reducible refine Yau ?_))
    refine hc (4 - (i + 1)) _ (by omega) ⟨i + 1, w64 (by omega) (by omega), by omega, rfl, fun m hm => ?_⟩
    by_cases e : m = i
    ·subst e; exact hin2
    ·exact e4 m (by omega)
  ·refine Ygr ok (h0 ?_)
   rintro (h | ⟨m, hm, h⟩)
   ·exact hin h
   ·exact e4 m (by omega) h
end
theorem Vam {m k m' k' : Nat} (h1 : k < 32) (h2 : k' < 32) (h : ix m k = ix m' k') : m = m' ∧ k = k' := by unfold ix at h; omega
theorem FlOk.glob {S : Nat → Sl} {cs : SlotK → Option Sl} (ok : FlOk S cs) {k : Nat} (hk : k < 32) (s : Sl) : FlOk (setN S k s) cs := ⟨fun m k' hm hk' => by rw [ok.eq m k' hm hk', Yas]; unfold ix; omega⟩
theorem FlOk.slot {S : Nat → Sl} {cs : SlotK → Option Sl} (ok : FlOk S cs) {m k : Nat} (hm : m < 4) (hk : k < 32) (s : Sl) : FlOk (setN S (ix m k) s) (updF cs ((m : Int), (k : Int)) s) := ⟨fun m' k' hm' hk' => by
 unfold updF
 by_cases e : m' = m ∧ k' = k
 ·obtain ⟨rfl, rfl⟩ := e
  rw [if_pos rfl, Yao]; rfl
 ·rw [if_neg (fun h => e (by simp only [Prod.mk.injEq, Int.natCast_inj] at h; exact h)), Yas, ok.eq m' k' hm' hk']
  intro h; exact e (Vam hk' hk h)⟩
theorem FlOk.del {S : Nat → Sl} {cs : SlotK → Option Sl} (ok : FlOk S cs) {m k : Nat} (hm : m < 4) (hk : k < 32) : FlOk (setN S (ix m k) nilS) (delF cs ((m : Int), (k : Int))) := ⟨fun m' k' hm' hk' => by
 unfold delF
 by_cases e : m' = m ∧ k' = k
 ·obtain ⟨rfl, rfl⟩ := e
  rw [if_pos rfl, Yao]; rfl
 ·rw [if_neg (fun h => e (by simp only [Prod.mk.injEq, Int.natCast_inj] at h; exact h)), Yas, ok.eq m' k' hm' hk']
  intro h; exact e (Vam hk' hk h)⟩
theorem bigIn {S : Nat → Sl} {L : Nat → List Int} {i : Nat} (h : i < 160) (s : Sl) (l : List Int) : bigX 160 (vI S L) i * vec 3 1 s (ints l) = bigS 160 (vI (setN S i s) (setN L i l)) := by
 have := Vgj (f := vI S L) (f' := vI (setN S i s) (setN L i l)) h fun j _ hj => by unfold vI; rw [Yas S s hj, Yas L l hj]
 rw [← this]
 unfold vI
 rw [Yao, Yao]
theorem Yf4 {α : Type} (f : Nat → α) (i : Nat) : setN f i (f i) = f := by
 funext j; unfold setN; split
 ·rename_i h; rw [h]
 ·rfl
theorem Yfm (l m : List Int) : ints (l ++ m) = ints l ++ ints m := by simp [ints]
section
variable {B : World} {P R : SL} {t : K}
/-- a list of cells out of all, to be turned -/
theorem Ynh {a i : Nat} {L : Nat → List Int} (hi : i < 160) (h : ∀ S cs r, FlOk S cs → T B (R * MpF eslot esl r cs * bigX 160 (vI S L) i * pt a (.cells (glob S ++ [Value.map (some r)]).toArray 199) * vec 3 1 (S i) (ints (L i))) t) : T B (R * Fl a L) t := by
 refine Ypt fun S cs r ok => ?_
 rw [Yhh hi]
 exact T.perm (by unfold vI; ac_rfl) (h S cs r ok)
theorem Ylf {a i r : Nat} {L : Nat → List Int} {S : Nat → Sl} {cs : SlotK → Option Sl} {s : Sl} {l : List Int} (hi : i < 160) (ok : FlOk (setN S i s) cs) (h : T B (R * Fl a (setN L i l)) t) :
  T B (R * MpF eslot esl r cs * bigX 160 (vI S L) i * pt a (.cells (glob (setN S i s) ++ [Value.map (some r)]).toArray 199) * vec 3 1 s (ints l)) t := by
 have h2 := Ygr (B := B) (R := R) (a := a) (r := r) ok h
 rw [← bigIn hi] at h2
 exact T.perm (by ac_rfl) h2
theorem Yvq {a k : Nat} {S : Nat → Sl} {tl : List Value} {ty : TypeId} {kk : Sl → K} (h : Has P a (.cells (glob S ++ tl).toArray ty)) (hk : k < 32) (ht : T B P (kk (S k))) : T B P (ixA (Addr.add ⟨a, 0, none⟩ 0) 32 (k : Int) 1 fun x => ldS x kk) := by
 refine Yyo (by omega) (by omega) ?_
 refine Yaz (i := k) (n := S k) ?_ h (Vc3 S _ hk) ht
 simp only [Yay, Int.toNat_natCast, Nat.mul_one, Nat.zero_add]
theorem Vc4 {a k : Nat} {S : Nat → Sl} {tl : List Value} {ty : TypeId} {s : Sl} {P' : SL} (hk : k < 32) (h : Upd P a (.cells (glob S ++ tl).toArray ty) (.cells (glob (setN S k s) ++ tl).toArray ty) P') (ht : T B P' t) :
  T B P (ixA (Addr.add ⟨a, 0, none⟩ 0) 32 (k : Int) 1 fun x => stK (Addr.add x 0) s.v t) := by
 refine Yyo (by omega) (by omega) ?_
 refine Ybc (b := a) (i := k) (l := glob S ++ tl) (ty := ty) ?_ ?_ (by rw [List.length_append, Yly]; omega) ht
 ·simp only [Yay, Int.toNat_natCast, Nat.mul_one, Nat.zero_add, Nat.add_zero]
 ·rw [Vev S _ hk]; exact h
theorem Yr7 {a : Nat} {L : Nat → List Int} (hL : ∀ i, i < 160 → (L i).length ≤ 2 ^ 30) {k : Nat} (hk2 : k < 32) {x : Int} {kk : Int → K} (h1 : FHas L k x → T B (R * Fl a L) (kk 41)) (h0 : ¬ FHas L k x → T B (R * Fl a (setN L k (L k ++ [x]))) (kk 0)) :
  T B (R * Fl a L) (Yc4 (da a) k x kk) := by
 refine Yaq (Yoc _ k x kk) ?_
 refine Ybt ?_
 rw [decide_eq_true (by omega)]
 simp only [Bool.not_true]
 (repeat (with_reducible refine Yau ?_))
 refine Yuf hL hk2 (fun h => ?_) (fun h => ?_)
 ·(repeat (with_reducible refine Yal ?_))
  exact h1 h
 ·(repeat (first | with_reducible refine Yak ?_ | with_reducible refine Yau ?_))
  have h0 := h0 h
  refine Ynh (i := k) (by omega) fun S cs r ok => ?_
  unfold da
  have hl := hL k (by omega)
  (repeat (with_reducible refine Yam ?_))
  refine Yvq (.init .last) hk2 ?_
  (repeat (first | with_reducible refine Yam ?_ | (with_reducible refine Ya7 ?_; intro _)))
  refine Yk9 (vs := ints (L k)) (new := [.int .i64 x]) Yeo rfl rfl (by rw [Yag]; omega) fun s' => ?_
  refine Vc4 (S := S) (s := s') hk2 (.init .last) ?_
  have e : ints (L k) ++ [Value.int .i64 x] = ints (L k ++ [x]) := (Yfm (L k) [x]).symm
  rw [e]
  exact Ylf (i := k) (by omega) (ok.glob hk2 s') h0
theorem Ylg (p : Option Addr) (c : Nat) : cutP p 0 c 1 = p := by
 unfold cutP
 split
 ·rfl
 ·cases p with
  |none => rfl
  |some a => simp [Addr.add]
theorem Vgm {a b : Nat} {L : Nat → List Int} {m k : Nat} (hm : m < 4) (hk2 : k < 32) (hL : (L (ix m k)).length ≤ 2 ^ 30) {kk : Int × Int → K}
  (h0 : L (ix m k) = [] → T B (R * Fl a L) (kk (0, 4))) (h1 : ∀ ini x, L (ix m k) = ini ++ [x] → T B (R * Fl a (setN L (ix m k) ini)) (kk (x, 0))) :
  T B (R * pt b (.cells [.int .i64 m, .int .i64 k].toArray 201) * Fl a L) (Zcz6 (da a) kk ⟨b, 0, none⟩) := by
 have hi : ix m k < 160 := by unfold ix; omega
 refine Ynh hi fun S cs r ok => ?_
 unfold da
 (repeat (first | with_reducible refine Yam ?_ | with_reducible refine Yak ?_ | ((with_reducible apply Yaf); (focus rfl); (focus exact hasA); (focus rfl)) | ((with_reducible apply Yd8); (focus rfl); (focus exact hasA); (focus rfl))))
 refine Yje (cs := cs) (MHas.init (MHas.init (MHas.init (MHas.of .last)))) fun ob bb => ?_
 rw [ok.eq m k hm hk2]
 refine Yc0 .last fun hn => ?_
 rw [Yag, Nat.mul_one] at hn
 by_cases he : L (ix m k) = []
 ·have hn0 : (S (ix m k)).n = 0 := by rw [hn, he]; rfl
  (dsimp only [Ydx, Zcz0, Zcz1, Zcz2, Zcz3, Zcz4, Zcz5, Zcz6, Zcz7, Zcz8, Zcz9, Zcz10, Zcz11, Zcz12, Zcz13, Zcz14, Zcz15, Zcz16])
  rw [hn0]
  (repeat' (first | with_reducible refine Yam ?_ | with_reducible refine Yak ?_ | ((with_reducible apply Yaf); (focus rfl); (focus exact hasA); (focus rfl)) | ((with_reducible apply Yd8); (focus rfl); (focus exact hasA); (focus rfl)) | with_reducible refine Ybr (fun _ => ?_) (fun _ => ?_)))
  ·refine Yac (.init (.init (.init (.init .last)))) ?_
   have := Ylf (B := B) (R := R) (a := a) (i := ix m k) (r := r) (L := L) (S := S) (cs := cs) (s := S (ix m k)) (l := L (ix m k)) hi (by rw [Yf4]; exact ok) (t := kk (0, 4)) (by rw [Yf4]; exact h0 he)
   rw [Yf4] at this
   exact this
  ·rename_i h; exact absurd rfl h
 ·have hpos : 0 < (L (ix m k)).length := List.length_pos_iff.2 he
  obtain ⟨ini, x, hx⟩ : ∃ ini x, L (ix m k) = ini ++ [x] := ⟨_, _, (List.dropLast_concat_getLast he).symm⟩
  have hil : (L (ix m k)).length = ini.length + 1 := by rw [hx]; simp
  (repeat' (first | with_reducible refine Yam ?_ | with_reducible refine Yak ?_ | ((with_reducible apply Yaf); (focus rfl); (focus exact hasA); (focus rfl)) | ((with_reducible apply Yd8); (focus rfl); (focus exact hasA); (focus rfl)) | with_reducible refine Ybr (fun _ => ?_) (fun _ => ?_)))
  ·exfalso; omega
  have e1 : IntKind.wrap .i64 (((S (ix m k)).n : Int) - 1) = ((ini.length : Nat) : Int) := by rw [w64 (by omega) (by omega)]; omega
  (dsimp only [Ydx, Zcz0, Zcz1, Zcz2, Zcz3, Zcz4, Zcz5, Zcz6, Zcz7, Zcz8, Zcz9, Zcz10, Zcz11, Zcz12, Zcz13, Zcz14, Zcz15, Zcz16])
  rw [e1]
  refine Yva (s := S (ix m k)) (vs := ints (L (ix m k))) .last (by rw [hx]; simp [ints]) fun b2 rest q1 q2 q3 q4 => ?_
  refine Yt2 q1 q2 q3 q4 ?_
  rw [Yag] at q3
  refine Vb3 (by omega) (by omega) ?_
  rw [Int.toNat_natCast]
  refine Yaa (X := MpF eslot esl r cs) (.init (.init (.init .last))) ?_
  refine Vah (ek := eslot) (ev := esl) Yle (v := ⟨cutP (S (ix m k)).p 0 (S (ix m k)).c 1, ini.length - 0, (S (ix m k)).c - 0⟩) (key := ((m : Int), (k : Int))) rfl rfl ?_
  refine Yej (i := ini.length) (n := x) (Rd.vec (E := 3) (s := S (ix m k)) (vs := ints (L (ix m k))) (.init .last)) (by omega) (by rw [Int.toNat_natCast, Ydn (by omega)]; simp [hx]) ?_
  skip
  refine Yaa (X := vec 3 1 (S (ix m k)) (ints (L (ix m k)))) (.init .last) ?_
  refine Ywu (s' := ⟨cutP (S (ix m k)).p 0 (S (ix m k)).c 1, ini.length - 0, (S (ix m k)).c - 0⟩) (n := ini.length) (by omega) (by simp only [Ylg]) (by simp) (by simp) (by rw [Yag]; omega) ?_
  have e2 : (ints (L (ix m k))).take (ini.length * 1) = ints ini := by rw [hx, Yfm, Nat.mul_one, List.take_append_of_le_length (by rw [Yag]; omega), List.take_of_length_le (by rw [Yag]; omega)]
  rw [e2]
  refine Yac (.init (.init (.init (.init .last)))) ?_
  have h2 := Ylf (B := B) (R := R) (a := a) (i := ix m k) (r := r) (L := L) (S := S) (cs := updF cs ((m : Int), (k : Int)) ⟨cutP (S (ix m k)).p 0 (S (ix m k)).c 1, ini.length - 0, (S (ix m k)).c - 0⟩) (l := ini) hi (ok.slot hm hk2 _) (h1 ini x hx)
  rw [Yig S (by unfold ix; omega)] at h2
  exact T.perm (by ac_rfl) h2
end
/-- two lists of one class turned, by one cell -/
def Turn (L L' : Nat → List Int) (m k : Nat) : Prop := ∀ i, i ≠ k → i ≠ ix m k → L' i = L i
section
variable {B : World} {P R : SL} {t : K}
theorem Yni {a : Nat} {L : Nat → List Int} (hL : ∀ i, i < 160 → (L i).length ≤ 2 ^ 30) {m k : Nat} (hm : m < 4) (hk2 : k < 32) {kk : Int × Int → K}
  (h0 : L k = [] → L (ix m k) = [] → T B (R * Fl a L) (kk (0, 4)))
  (h1 : ∀ x L', Turn L L' m k → (L k ++ L (ix m k)).Perm (x :: (L' k ++ L' (ix m k))) → T B (R * Fl a L') (kk (x, 0))) :
  T B (R * Fl a L) (Yc6 (da a) m k kk) := by
 refine Yaq (Yof _ m k kk) ?_
 refine Yqb ?_
 rw [decide_eq_true (by omega)]
 have hi : ix m k < 160 := by unfold ix; omega
 have hne : ix m k ≠ k := by unfold ix; omega
 have hlk := hL k (by omega)
 have hli := hL (ix m k) hi
 unfold da
 simp only [Bool.not_true]
 (repeat (first | with_reducible refine Yam ?_ | with_reducible refine Yak ?_ | with_reducible refine Yau ?_ | (with_reducible refine Ya7 ?_; intro _) | ((with_reducible apply Ybc); (focus rfl); (focus exact updA); (focus simp); simp only [List.set, Nat.zero_add, Nat.reduceAdd])))
 rename_i b
 refine Yaa (X := Fl a L) (.init .last) ?_
 -- the last step
 have six : ∀ L2 : Nat → List Int, (L2 (ix m k)).length ≤ 2 ^ 30 → Turn L L2 m k → (L2 k ++ L2 (ix m k) = L k ∧ L (ix m k) = [] ∨ L2 = L) → (L2 (ix m k) = [] → L2 = L ∧ L k = [] ∨ L (ix m k) ≠ []) → (L2 = L → L (ix m k) ≠ []  ∨ L k = []) →
   T B (R * pt b (.cells [.int .i64 m, .int .i64 k].toArray 201) * Fl a L2) (Zcz6 (some ⟨a, 0, none⟩) kk ⟨b, 0, none⟩) := by
  intro L2 hlen htu hsum hemp hself
  refine Vgm hm hk2 hlen (fun he => ?_) (fun ini x hx => ?_)
  ·rcases hemp he with ⟨rfl, h⟩ | h
   ·exact h0 h he
   ·rcases hsum with ⟨_, h2⟩ | rfl
    ·exact absurd h2 h
    ·exact absurd he h
  ·refine h1 x (setN L2 (ix m k) ini) (fun i h1 h2 => by rw [Yas _ _ h2]; exact htu i h1 h2) ?_
   rw [Yao, Yas _ _ hne.symm]
   have hp : (L2 k ++ (ini ++ [x])).Perm (x :: (L2 k ++ ini)) := by
    rw [← List.append_assoc]; exact List.perm_append_singleton x (L2 k ++ ini)
   rcases hsum with ⟨h1, h2⟩ | rfl
   ·rw [h2, List.append_nil, ← h1, hx]; exact hp
   ·rw [hx]; exact hp
 refine Ypt fun S cs r ok => ?_
 (repeat (first | ((with_reducible apply Yaf); (focus rfl); (focus exact hasA); (focus rfl)) | ((with_reducible apply Yd8); (focus rfl); (focus exact hasA); (focus rfl))))
 refine Yje (cs := cs) (MHas.init (MHas.init (MHas.of .last))) fun ob bb => ?_
 rw [ok.eq m k hm hk2]
 refine Ya1 (Rd.init (Rd.tail (bigRd (S := S) (L := L) hi))) fun hn => ?_
 rw [Yag, Nat.mul_one] at hn
 by_cases he : L (ix m k) = []
 ·have hn0 : (S (ix m k)).n = 0 := by rw [hn, he]; rfl
  (dsimp only [Ydx, Zcz0, Zcz1, Zcz2, Zcz3, Zcz4, Zcz5, Zcz6, Zcz7, Zcz8, Zcz9, Zcz10, Zcz11, Zcz12, Zcz13, Zcz14, Zcz15, Zcz16])
  rw [hn0]
  refine Ybr (fun _ => ?_) (fun h => absurd rfl h)
  (repeat (with_reducible refine Yam ?_))
  refine Ya1 (Rd.init (Rd.tail (bigRd (S := S) (L := L) (show k < 160 by omega)))) fun hnk => ?_
  rw [Yag, Nat.mul_one] at hnk
  refine Yvq .last hk2 ?_
  (repeat (with_reducible refine Yam ?_))
  refine Yvq .last hk2 ?_
  obtain ⟨f, hf, hf2⟩ : ∃ f : Nat, IntKind.wrap .i64 (((S k).n : Int) - min2I ((S k).n : Int) 4) = (f : Int) ∧ f = (L k).length - min (L k).length 4 := by
   refine ⟨_, ?_, rfl⟩
   have : min2I ((S k).n : Int) 4 = ((min (L k).length 4 : Nat) : Int) := by unfold min2I; split <;> omega
   rw [this, w64 (by omega) (by omega)]; omega
  rw [hf]
  (repeat (first | with_reducible refine Yam ?_ | with_reducible refine Yak ?_ | ((with_reducible apply Yaf); (focus rfl); (focus exact hasA); (focus rfl)) | ((with_reducible apply Yd8); (focus rfl); (focus exact hasA); (focus rfl))))
  refine Yvq .last hk2 ?_
  refine Vb3 (by omega) (by omega) ?_
  rw [Int.toNat_natCast]
  have hpc := (bigRd (S := S) (L := L) (show k < 160 by omega)).piece (y := ⟨cutP (S k).p f (S k).c 1, (S k).n - f, (S k).c - f⟩) (o := f) (n := (L k).length - f) (by omega) (by rw [Yag]; omega) rfl (by simp only; omega) rfl
  have ecut : cut (ints (L k)) (f * 1) (((L k).length - f) * 1) = ints ((L k).drop f) := by
   unfold cut ints
   rw [Nat.mul_one, Nat.mul_one, List.take_of_length_le (by simp), List.map_drop]
  rw [ecut] at hpc
  refine Yng (l := (L k).drop f) (by simp; omega) (Rd.init (Rd.tail hpc)) fun x57 => ?_
  (repeat (first | with_reducible refine Ybe ?_ | ((with_reducible apply Ycm); (focus rfl); (focus exact hasA); (focus rfl))))
  refine Yaa (X := MpF eslot esl r cs) (.init (.init (.init .last))) ?_
  refine Vah (ek := eslot) (ev := esl) Yle (v := x57) (key := ((m : Int), (k : Int))) rfl rfl ?_
  -- the map's turned: closed
  rw [Yhh hi]
  refine T.perm (Q := R * pt b (.cells [.int .i64 m, .int .i64 k].toArray 201) * MpF eslot esl r (updF cs ((m : Int), (k : Int)) x57) * bigX 160 (vI S L) (ix m k) * pt a (.cells (glob (setN S (ix m k) x57) ++ [Value.map (some r)]).toArray 199) * vec 3 1 x57 (ints ((L k).drop f)) * vI S L (ix m k)) ?_ ?_
  ·rw [Yig S (by unfold ix; omega)]; ac_rfl
  refine T.weak ?_
  refine Ylf hi (ok.slot hm hk2 x57) ?_
  refine Ynh (i := k) (by omega) fun S2 cs2 r2 ok2 => ?_
  rw [Yas _ _ hne.symm]
  refine Yc0 .last fun hnk2 => ?_
  rw [Yag, Nat.mul_one] at hnk2
  (repeat (first | with_reducible refine Yam ?_ | with_reducible refine Yak ?_))
  refine Yvq (S := S2) (.init .last) hk2 ?_
  have hcap : ∀ t, ((S2 k).n ≤ (S2 k).c → T B (R * pt b (.cells [.int .i64 m, .int .i64 k].toArray 201) * MpF eslot esl r2 cs2 * bigX 160 (vI S2 (setN L (ix m k) ((L k).drop f))) k * pt a (.cells (glob S2 ++ [Value.map (some r2)]).toArray 199) * vec 3 1 (S2 k) (ints (L k))) t) → T B (R * pt b (.cells [.int .i64 m, .int .i64 k].toArray 201) * MpF eslot esl r2 cs2 * bigX 160 (vI S2 (setN L (ix m k) ((L k).drop f))) k * pt a (.cells (glob S2 ++ [Value.map (some r2)]).toArray 199) * vec 3 1 (S2 k) (ints (L k))) t := by
   intro t h w hw
   have := (Rd.vec (E := 3) (s := S2 k) (vs := ints (L k)) .last) B w hw
   exact h (by omega) w hw
  refine hcap _ fun hc2 => ?_
  refine Vb3 (by omega) (by omega) ?_
  rw [Int.toNat_natCast]
  (repeat (with_reducible refine Yam ?_))
  refine Vc4 (S := S2) (s := ⟨cutP (S2 k).p 0 (S2 k).c 1, f - 0, (S2 k).c - 0⟩) hk2 (.init .last) ?_
  refine Ywu (s' := ⟨cutP (S2 k).p 0 (S2 k).c 1, f - 0, (S2 k).c - 0⟩) (n := f) (by omega) (by simp only [Ylg]) (by simp) (by simp) (by rw [Yag]; omega) ?_
  have e3 : (ints (L k)).take (f * 1) = ints ((L k).take f) := by unfold ints; rw [Nat.mul_one, List.map_take]
  rw [e3]
  refine Ylf (i := k) (by omega) (ok2.glob hk2 _) ?_
  refine six _ ?_ (fun i h1 h2 => by rw [Yas _ _ h1, Yas _ _ h2]) (.inl ⟨?_, he⟩) (fun h => .inl ?_) (fun h => .inr ?_)
  ·rw [Yas _ _ hne, Yao]; simp; omega
  ·rw [Yao, Yas _ _ hne, Yao]; exact List.take_append_drop f (L k)
  ·rw [Yas _ _ hne, Yao] at h
   have hlen := congrArg List.length h
   simp at hlen
   have hz : L k = [] := List.eq_nil_of_length_eq_zero (by omega)
   refine ⟨?_, hz⟩
   funext j
   by_cases hj : j = k
   ·subst hj; rw [Yao, hz]; simp
   ·rw [Yas _ _ hj]
    by_cases hj2 : j = ix m k
    ·subst hj2; rw [Yao, he, hz]; simp
    ·rw [Yas _ _ hj2]
  ·have h2 := congrFun h (ix m k)
   rw [Yas _ _ hne, Yao, he] at h2
   have hlen := congrArg List.length h2
   simp at hlen
   exact List.eq_nil_of_length_eq_zero (by omega)
 ·have hpos : 0 < (L (ix m k)).length := List.length_pos_iff.2 he
  (dsimp only [Ydx, Zcz0, Zcz1, Zcz2, Zcz3, Zcz4, Zcz5, Zcz6, Zcz7, Zcz8, Zcz9, Zcz10, Zcz11, Zcz12, Zcz13, Zcz14, Zcz15, Zcz16])
  refine Ybr (fun h => by exfalso; omega) (fun _ => ?_)
  refine Ygr ok ?_
  have := six L hli (fun _ _ _ => rfl) (.inr rfl) (fun h => absurd h he) (fun _ => .inl he)
  exact this
end
end Go.Proofs.YtdgcbapclnnkkaaGreat.X
section
namespace Go.Proofs
open Go.Shelf
def Tryz.lays189_ren : Go.Shelf.Ren := ⟨fun | 189 => 206 | 125 => 228 | 257 => 227 | 128 => 247 | 129 => 248 | 294 => 238 | 295 => 239 | 296 => 240 | 297 => 241 | 298 => 242 | 299 => 243 | 216 => 244 | 300 => 245 | 301 => 246 | 328 => 259 | 329 => 260 | 330 => 261 | 331 => 262 | 332 => 263 | 215 => 264 | 343 => 271 | n => n, fun | 28 => 27 | 3 => 3 | 46 => 111 | 0 => 0 | 51 => 220 | 53 => 109 | 4 => 4 | 183 => 269 | 182 => 268 | 131 => 132 | 5 => 5 | 9 => 9 | 218 => 282 | 222 => 286 | 228 => 293 | 229 => 82 | n => n, fun | n => n⟩
theorem Tryz.lays189 : Go.Proofs.Lays.n189 Tryz.prog Tryz.lays189_ren := {
 mixed := by kernel_rfl
 f125 := Tryz.func228.trans (congrArg some (by kernel_rfl))
 f128 := Tryz.func247.trans (congrArg some (by kernel_rfl))
 f129 := Tryz.func248.trans (congrArg some (by kernel_rfl))
 f189 := Tryz.func206.trans (congrArg some (by kernel_rfl))
 f215 := Tryz.func264.trans (congrArg some (by kernel_rfl))
 f216 := Tryz.func244.trans (congrArg some (by kernel_rfl))
 f257 := Tryz.func227.trans (congrArg some (by kernel_rfl))
 f294 := Tryz.func238.trans (congrArg some (by kernel_rfl))
 f295 := Tryz.func239.trans (congrArg some (by kernel_rfl))
 f296 := Tryz.func240.trans (congrArg some (by kernel_rfl))
 f297 := Tryz.func241.trans (congrArg some (by kernel_rfl))
 f298 := Tryz.func242.trans (congrArg some (by kernel_rfl))
 f299 := Tryz.func243.trans (congrArg some (by kernel_rfl))
 f300 := Tryz.func245.trans (congrArg some (by kernel_rfl))
 f301 := Tryz.func246.trans (congrArg some (by kernel_rfl))
 f328 := Tryz.func259.trans (congrArg some (by kernel_rfl))
 f329 := Tryz.func260.trans (congrArg some (by kernel_rfl))
 f330 := Tryz.func261.trans (congrArg some (by kernel_rfl))
 f331 := Tryz.func262.trans (congrArg some (by kernel_rfl))
 f332 := Tryz.func263.trans (congrArg some (by kernel_rfl))
 f343 := Tryz.func271.trans (congrArg some (by kernel_rfl))
 t0 := Tryz.underlying0
 a0 := Tryz.isAgg0
 z0 := Tryz.sizeOf0
 v0 := Tryz.zeroValue0
 t3 := Tryz.underlying3
 a3 := Tryz.isAgg3
 z3 := Tryz.sizeOf3
 v3 := Tryz.zeroValue3
 t4 := Tryz.underlying4
 a4 := Tryz.isAgg4
 z4 := Tryz.sizeOf4
 v4 := Tryz.zeroValue4
 t5 := Tryz.underlying5
 a5 := Tryz.isAgg5
 z5 := Tryz.sizeOf5
 v5 := Tryz.zeroValue5
 t9 := Tryz.underlying9
 a9 := Tryz.isAgg9
 z9 := Tryz.sizeOf9
 v9 := Tryz.zeroValue9
 t28 := Tryz.underlying27
 a28 := Tryz.isAgg27
 z28 := Tryz.sizeOf27
 v28 := Tryz.zeroValue27
 t46 := Tryz.underlying111
 a46 := Tryz.isAgg111
 z46 := Tryz.sizeOf111
 v46 := Tryz.zeroValue111
 t51 := Tryz.underlying220
 a51 := Tryz.isAgg220
 z51 := Tryz.sizeOf220
 v51 := Tryz.zeroValue220
 t53 := Tryz.underlying109
 a53 := Tryz.isAgg109
 z53 := Tryz.sizeOf109
 v53 := Tryz.zeroValue109
 t131 := Tryz.underlying132
 a131 := Tryz.isAgg132
 z131 := Tryz.sizeOf132
 v131 := Tryz.zeroValue132
 t182 := Tryz.underlying268
 a182 := Tryz.isAgg268
 z182 := Tryz.sizeOf268
 v182 := Tryz.zeroValue268
 t183 := Tryz.underlying269
 a183 := Tryz.isAgg269
 z183 := Tryz.sizeOf269
 v183 := Tryz.zeroValue269
 t218 := Tryz.underlying282
 a218 := Tryz.isAgg282
 z218 := Tryz.sizeOf282
 v218 := Tryz.zeroValue282
 t222 := Tryz.underlying286
 a222 := Tryz.isAgg286
 z222 := Tryz.sizeOf286
 v222 := Tryz.zeroValue286
 t228 := Tryz.underlying293
 a228 := Tryz.isAgg293
 z228 := Tryz.sizeOf293
 v228 := Tryz.zeroValue293
 t229 := Tryz.underlying82
 a229 := Tryz.isAgg82
 z229 := Tryz.sizeOf82
 v229 := Tryz.zeroValue82 }
open Go.Sort Go.RowKit in
theorem Tryz.slices_Sort_int (blk off cap : Nat) (zs : List Int) (w : World) (hH : Holds (Value.int .i64) w blk off zs.toArray) (hblk : blk < w.heap.size) (hsz : zs.length < 4611686018427387904) :
  Calls Tryz.prog 206 #[.slice (some ⟨blk, off, none⟩) zs.length cap] w fun e w' =>
   e = .returned (.tuple #[]) ∧ ∃ n os, w' = grow (putRow (Value.int .i64) (Sort.ahead w n) blk off (zs.mergeSort fun x y => decide (x ≤ y)).toArray) os := Any.slices_Sort_int Tryz.lays189 blk off cap zs w hH hblk hsz
open Go.RowKit Go.Lib Go.Sort in
open Go.RowKit Go.Sort in
theorem Tryz.slices_Sort_int_none (p : Option Addr) (cap : Nat) (w : World) : Calls Tryz.prog 206 #[.slice p 0 cap] w fun e w' => e = .returned (.tuple #[]) ∧ w' = w := Any.slices_Sort_int_none Tryz.lays189 p cap w
end Go.Proofs
end
namespace Go.Proofs.YtdgcbapclnnkkaaGreat.X
section
variable {B : World} {P Q R : SL} {t : K}
theorem Sat.grown {w : World} (s : Sat B P w) (os : Array Obj) : Sat B P (Sort.grow w os) := by
 obtain ⟨⟨x, hx, hb⟩, k⟩ := s
 refine ⟨⟨x, hx, fun y q e => ?_⟩, ⟨k.os, k.tape, k.output, by simp only [Sort.grow, Array.size_append]; have := k.size; omega, fun y hy => ?_⟩⟩
 ·have h2 := hb y q e
  have hlt : y < w.heap.size := (Array.getElem?_eq_some_iff.1 h2.2).1
  refine ⟨h2.1, ?_⟩
  simp only [Sort.grow, Array.getElem?_append, hlt, if_true]; exact h2.2
 ·have : y < w.heap.size := by have := k.size; omega
  simp only [Sort.grow, Array.getElem?_append, this, if_true]; exact k.block y hy
theorem Vgn {α : Type} [Inhabited α] {w : World} {b : Nat} {vs rest : List Value} {E : TypeId} {enc : α → Value} {d : Array α} (hd : d.size = vs.length) (n : Nat) (os : Array Obj)
  (s : Sat B (R * pt b (.cells (vs ++ rest).toArray E)) w) : Sat B (R * pt b (.cells (d.toList.map enc ++ rest).toArray E)) (Sort.grow (Sort.putRow enc (Sort.ahead w n) b 0 d) os) := by
 refine Sat.grown ?_ os
 have s2 : Sat B (R * pt b (.cells (vs ++ rest).toArray E)) (Sort.ahead w n) := s.drew _
 have hh := (s2.has (b := b) (o := .cells (vs ++ rest).toArray E) Has.last).1
 refine s2.upd Upd.last ?_ ?_ rfl rfl rfl (by simp [Sort.putRow, Sort.mapBlock])
 ·simp only [Sort.putRow, Sort.mapBlock, Array.getElem?_modify, if_true]
  rw [hh]
  simp only [Option.map_some, Sort.onCells, Option.some.injEq, Obj.cells.injEq, and_true]
  apply Array.ext_getElem?
  intro i
  simp only [Sort.putCells, Array.getElem?_mapIdx, List.getElem?_toArray, Nat.zero_le, true_and, Nat.zero_add, Nat.sub_zero]
  by_cases hi : i < d.size
  ·rw [List.getElem?_append_left (by omega), List.getElem?_append_left (by simp; exact hi), List.getElem?_eq_getElem (by omega)]
   simp only [Option.map_some, hi, if_true, List.getElem?_map]
   rw [Array.getElem?_toList, Array.getElem?_eq_getElem hi]
   simp [getElem!_pos, hi]
  ·rw [List.getElem?_append_right (by omega), List.getElem?_append_right (by simp; omega)]
   simp only [List.length_map, Array.length_toList, hd]
   cases rest[i - vs.length]? with
   |none => rfl
   |some v => simp only [Option.map_some]; rw [if_neg (by omega)]
 ·intro x hx
  simp only [Sort.putRow, Sort.mapBlock, Array.getElem?_modify]
  rw [if_neg (Ne.symm hx)]
end
section
variable {B : World} {P Q R : SL} {t : K}
theorem Vbt {α : Type} [Inhabited α] {w : World} {b : Nat} {vs rest : List Value} {E : TypeId} {enc : α → Value} {d : Array α} (hd : d.toList.map enc = vs) (s : Sat B (R * pt b (.cells (vs ++ rest).toArray E)) w) :
  Sort.Holds enc w b 0 d := by
 subst hd
 intro j hj
 have hh := (s.has (b := b) (o := .cells (d.toList.map enc ++ rest).toArray E) Has.last).1
 refine ⟨?_, by simp [World.frozen?, hh]⟩
 refine s.cell (b := b) Has.last ?_
 rw [Nat.zero_add, List.getElem?_append_left (by simp; exact hj), List.getElem?_map, Array.getElem?_toList, Array.getElem?_eq_getElem hj]
 simp [getElem!_pos, hj]
/-- ascending -/
def sortI (l : List Int) : List Int := l.mergeSort fun x y => decide (x ≤ y)
theorem Vbu {s : Sl} {l : List Int} (hl : l.length ≤ 2 ^ 40) {k : Unit → K} (hk : T B (R * vec 3 1 s (ints (sortI l))) (k ())) : T B (R * vec 3 1 s (ints l)) (Ycj s k) := by
 intro w hw
 rcases Yei hw with ⟨h1, h2, h3, hR⟩ | ⟨b, rest, h1, h2, h3, h4, hR⟩
 ·have hl : l = [] := by cases l <;> simp_all [ints]
  subst hl
  have hs : s.v = .slice s.p 0 s.c := by unfold Sl.v; rw [h1]
  unfold Ycj cl
  rw [hs]
  refine (Tryz.slices_Sort_int_none s.p s.c w).mono ?_
  rintro e w' ⟨rfl, rfl⟩
  have e0 : sortI [] = [] := by simp [sortI]
  rw [e0] at hk
  exact ⟨(), rfl, hk _ hw⟩
 ·have hlen : s.n = l.length := by simpa [ints] using h2
  have hc := Tryz.slices_Sort_int b 0 s.c l w (Vbt (vs := ints l) (by simp [ints]) hR) (by have := (hR.has (b := b) Has.last).1; exact (Array.getElem?_eq_some_iff.1 this).1) (by omega)
  have hs : s.v = .slice (some ⟨b, 0, none⟩) l.length s.c := by unfold Sl.v; rw [h1, hlen]
  unfold Ycj cl
  rw [hs]
  refine hc.mono ?_
  rintro e w' ⟨rfl, n, os, rfl⟩
  refine ⟨(), rfl, hk _ ?_⟩
  have hlen2 : (sortI l).length = l.length := List.length_mergeSort _
  have := Vgn (enc := Value.int .i64) (d := (sortI l).toArray) (by simp [hlen2, ints]) n os hR
  refine Yp1 (rest := rest) h1 (by rw [h2]; simp [ints, hlen2]) (by rw [h3]; simp [ints, hlen2]) h4 ?_
  exact this
/-- pairs whose first number is told by a difference -/
abbrev Bp := {p : Int × Int // 0 ≤ p.1 ∧ p.1 ≤ 2 ^ 40}
instance : Inhabited Bp := ⟨⟨(0, 0), by simp⟩⟩
end
theorem bigXRd {S : Nat → Sl} {L : Nat → List Int} {i j : Nat} (h : i < 160) (hij : i ≠ j) : Rd (bigX 160 (vI S L) j) (S i) 1 (ints (L i)) := Rd.perm (Vep h hij) (Rd.vec (E := 3) .last)
section
variable {B : World} {P R : SL} {t : K} {Pg : Program} {α β : Type} [DecidableEq α] {mt kt et : TypeId} {ek : α → Value} {ev : β → Value}
theorem Vhp (hD : KeyD Pg mt kt et ek) {z : β} (hz : zeroP Pg et = some (ev z)) {r : Nat} {f : α → Option β} {key : α} {sh : Sh} {kv : Value} {kk : sh.T × Int → K} (x : sh.T)
  (hx : ev ((f key).getD z) = sh.enc x) (hkv : kv = ek key) (ht : ∀ (stamp : Nat) (M : SL), (∀ (R' : SL) (v : β) vv t, vv = ev v → T B (R' * MpF ek ev r (updF f key v)) t → T B (R' * M) (semU Pg (Instr.entryStore mt (.map (some r)) (.int .i64 (stamp : Int)) vv) t)) → T B (R * M) (kk (x, (stamp : Int)))) :
  T B (R * MpF ek ev r f) (semT Pg (Instr.mapEntry mt (.map (some r)) kv) (.tup [.sc sh, .sc (.int .i64)]) kk) := by
 subst hkv
 refine Ylx fun es c ok => ?_
 obtain ⟨l, ok, hl⟩ := ok
 refine Yuc hD hD.same hz ok x (by rw [hl]; exact hx) fun stamp es' c' e ok' he hb => ?_
 obtain ⟨p1, p2⟩ := Yvo l key z z
 refine ht stamp (pt r (.map es' c')) fun R' v vv t hv ht2 => ?_
 subst hb
 refine Yqa (mt := mt) ok' he p1 hv ?_
 rw [(Yvo l key z v).2]
 refine Ywt fun y => ?_
 rw [← Yad]
 refine Yz5 fun ok2 => ?_
 refine Ydy ⟨_, ok2, fun k => ?_⟩ ht2
 rw [Yvn, hl]; rfl
end
section
variable {B : World} {P R : SL} {t : K}
theorem Vhq {a b : Nat} {L : Nat → List Int} (hL : ∀ i, i < 160 → (L i).length ≤ 2 ^ 31) {m k : Nat} (hm : m < 4) (hk2 : k < 32) {kk : Int → K}
  (h0 : ∀ L', Turn L L' m k → (L' k ++ L' (ix m k)).Perm (L k ++ L (ix m k)) → T B (R * Fl a L') (kk 0)) :
  T B (R * pt b (.cells [.int .i64 m, .int .i64 k].toArray 201) * Fl a L) (Zcl5 (da a) k kk ⟨b, 0, none⟩) := by
 have hi : ix m k < 160 := by unfold ix; omega
 have hne : ix m k ≠ k := by unfold ix; omega
 have hlk := hL k (by omega)
 have hli := hL (ix m k) hi
 refine Ypt fun S cs r ok => ?_
 unfold da
 (repeat (first | with_reducible refine Yam ?_ | with_reducible refine Yak ?_ | ((with_reducible apply Yaf); (focus rfl); (focus exact hasA); (focus rfl)) | ((with_reducible apply Yd8); (focus rfl); (focus exact hasA); (focus rfl))))
 refine Yje (cs := cs) (MHas.init (MHas.init (MHas.of .last))) fun ob bb => ?_
 rw [ok.eq m k hm hk2]
 refine Ya1 (Rd.init (Rd.tail (bigRd (S := S) (L := L) hi))) fun hn => ?_
 rw [Yag, Nat.mul_one] at hn
 have hcap : ∀ t, ((S (ix m k)).n ≤ (S (ix m k)).c → T B (R * pt b (.cells [.int .i64 m, .int .i64 k].toArray 201) * MpF eslot esl r cs * bigS 160 (vI S L) * pt a (.cells (glob S ++ [Value.map (some r)]).toArray 199)) t) → T B (R * pt b (.cells [.int .i64 m, .int .i64 k].toArray 201) * MpF eslot esl r cs * bigS 160 (vI S L) * pt a (.cells (glob S ++ [Value.map (some r)]).toArray 199)) t := by
  intro t h w hw
  have := (Rd.init (Rd.tail (bigRd (S := S) (L := L) hi))) B w hw
  exact h (by omega) w hw
 refine hcap _ fun hc2 => ?_
 (repeat' (first | with_reducible refine Yam ?_ | with_reducible refine Yak ?_ | with_reducible refine Yai (fun _ => ?_) (fun _ => ?_)))
 ·rename_i hgt
  obtain ⟨f, hf, hf2⟩ : ∃ f : Nat, IntKind.wrap .i64 (Int.tdiv ((S (ix m k)).n : Int) 2) = (f : Int) ∧ f = (L (ix m k)).length / 2 := by
   refine ⟨_, ?_, rfl⟩
   rw [Int.tdiv_eq_ediv_of_nonneg (by omega), w64 (by omega) (by omega)]; omega
  rw [hf]
  refine Yvq .last hk2 ?_
  refine Vb3 (by omega) (by omega) ?_
  rw [Int.toNat_natCast]
  (repeat (with_reducible refine Yam ?_))
  rw [Yhh (i := k) (by omega)]
  refine T.perm (Q := R * pt b (.cells [.int .i64 m, .int .i64 k].toArray 201) * MpF eslot esl r cs * bigX 160 (vI S L) k * pt a (.cells (glob S ++ [Value.map (some r)]).toArray 199) * vec 3 1 (S k) (ints (L k))) (by unfold vI; ac_rfl) ?_
  have hpc := (bigXRd (S := S) (L := L) hi hne).piece (y := ⟨cutP (S (ix m k)).p 0 (S (ix m k)).c 1, f - 0, (S (ix m k)).c - 0⟩) (o := 0) (n := f) (by omega) (by rw [Yag]; omega) rfl (by simp) rfl
  have ecut : cut (ints (L (ix m k))) (0 * 1) (f * 1) = ints ((L (ix m k)).take f) := by
   unfold cut ints; rw [Nat.mul_one, Nat.zero_mul, List.drop_zero, List.map_take]
  rw [ecut] at hpc
  refine Ybs (s := S k) (vs := ints (L k)) (x := ⟨cutP (S (ix m k)).p 0 (S (ix m k)).c 1, f - 0, (S (ix m k)).c - 0⟩) (new := ints ((L (ix m k)).take f)) Yeo (Rd.init (Rd.tail hpc)) (Yct _) (by rw [Yag]; simp only; omega) fun s' => ?_
  refine Vc4 (S := S) (s := s') hk2 (.init .last) ?_
  rw [← Yfm]
  refine T.perm (Q := R * pt b (.cells [.int .i64 m, .int .i64 k].toArray 201) * MpF eslot esl r cs * bigS 160 (vI (setN S k s') (setN L k (L k ++ (L (ix m k)).take f))) * pt a (.cells (glob (setN S k s') ++ [Value.map (some r)]).toArray 199)) (by rw [← bigIn (by omega)]; ac_rfl) ?_
  have ok1 := ok.glob hk2 s'
  have hS1 : setN S k s' (ix m k) = S (ix m k) := Yas _ _ hne
  have hL1 : setN L k (L k ++ (L (ix m k)).take f) (ix m k) = L (ix m k) := Yas _ _ hne
  generalize hSe : setN S k s' = S1 at *
  generalize hLe : setN L k (L k ++ (L (ix m k)).take f) = L1 at *
  (repeat (first | with_reducible refine Yam ?_ | with_reducible refine Yak ?_ | ((with_reducible apply Yaf); (focus rfl); (focus exact hasA); (focus rfl)) | ((with_reducible apply Yd8); (focus rfl); (focus exact hasA); (focus rfl))))
  refine Vb3 (by omega) (by omega) ?_
  rw [Int.toNat_natCast]
  have hpc2 := (bigRd (S := S1) (L := L1) hi).piece (y := ⟨cutP (S (ix m k)).p f (S (ix m k)).c 1, (S (ix m k)).n - f, (S (ix m k)).c - f⟩) (o := f) (n := (L (ix m k)).length - f) (by omega) (by rw [Yag, hL1]; omega) (by rw [hS1]) (by simp only; omega) (by rw [hS1])
  have ecut2 : cut (ints (L1 (ix m k))) (f * 1) (((L (ix m k)).length - f) * 1) = ints ((L (ix m k)).drop f) := by
   rw [hL1]
   unfold cut ints
   rw [Nat.mul_one, Nat.mul_one, List.take_of_length_le (by simp), List.map_drop]
  rw [ecut2] at hpc2
  refine Yng (l := (L (ix m k)).drop f) (by simp; omega) (Rd.init (Rd.tail hpc2)) fun x71 => ?_
  (repeat (first | with_reducible refine Ybe ?_ | ((with_reducible apply Ycm); (focus rfl); (focus exact hasA); (focus rfl))))
  refine Yaa (X := MpF eslot esl r cs) (.init (.init (.init .last))) ?_
  refine Vah (ek := eslot) (ev := esl) Yle (v := x71) (key := ((m : Int), (k : Int))) rfl rfl ?_
  rw [Yhh hi]
  refine T.perm (Q := R * MpF eslot esl r (updF cs ((m : Int), (k : Int)) x71) * bigX 160 (vI S1 L1) (ix m k) * pt a (.cells (glob (setN S1 (ix m k) x71) ++ [Value.map (some r)]).toArray 199) * vec 3 1 x71 (ints ((L (ix m k)).drop f)) * (pt b (.cells [.int .i64 m, .int .i64 k].toArray 201) * vI S1 L1 (ix m k))) ?_ ?_
  ·rw [Yig S1 (by unfold ix; omega)]; ac_rfl
  refine T.weak ?_
  refine Ylf hi (ok1.slot hm hk2 x71) ?_
  refine h0 _ (fun i h1 h2 => ?_) ?_
  ·rw [Yas _ _ h2, ← hLe, Yas _ _ h1]
  ·rw [Yao, Yas _ _ hne.symm, ← hLe, Yao, List.append_assoc, List.take_append_drop]
 ·refine Yac (.init (.init (.init .last))) ?_
  exact Ygr ok (h0 L (fun _ _ _ => rfl) (.refl _))
theorem Vbv {a : Nat} {L : Nat → List Int} (hL : ∀ i, i < 160 → (L i).length ≤ 2 ^ 30) {m k : Nat} (hm : m < 4) (hk2 : k < 32) {x : Int} {kk : Int → K}
  (h1 : FHas L k x → T B (R * Fl a L) (kk 41))
  (h0 : ¬ FHas L k x → ∀ L', Turn L L' m k → (L' k ++ L' (ix m k)).Perm (x :: (L k ++ L (ix m k))) → T B (R * Fl a L') (kk 0)) :
  T B (R * Fl a L) (Yga (da a) m k x kk) := by
 refine Yaq (Ypj _ m k x kk) ?_
 refine Yqb ?_
 rw [decide_eq_true (by omega)]
 have hi : ix m k < 160 := by unfold ix; omega
 have hne : ix m k ≠ k := by unfold ix; omega
 have hlk := hL k (by omega)
 have hli := hL (ix m k) hi
 simp only [Bool.not_true]
 (repeat (with_reducible refine Yau ?_))
 refine Yuf hL hk2 (fun h => ?_) (fun h => ?_)
 ·(repeat (with_reducible refine Yal ?_))
  exact h1 h
 have h0 := h0 h
 (repeat (first | with_reducible refine Yak ?_ | with_reducible refine Yau ?_ | (with_reducible refine Ya7 ?_; intro _) | ((with_reducible apply Ybc); (focus rfl); (focus exact updA); (focus simp); simp only [List.set, Nat.zero_add, Nat.reduceAdd])))
 rename_i b
 refine Yaa (X := Fl a L) (.init .last) ?_
 refine Ynh hi fun S cs r ok => ?_
 unfold da
 (repeat (first | with_reducible refine Yam ?_ | ((with_reducible apply Yaf); (focus rfl); (focus exact hasA); (focus rfl)) | ((with_reducible apply Yd8); (focus rfl); (focus exact hasA); (focus rfl)) | (with_reducible refine Ya7 ?_; intro _)))
 rename_i b1
 refine Yaa (X := MpF eslot esl r cs) (.init (.init (.init (.init .last)))) ?_
 refine Vhp (ek := eslot) (ev := esl) Yle (z := nilS) (by kernel_rfl) (key := ((m : Int), (k : Int))) (sh := .slice) ((cs ((m : Int), (k : Int))).getD nilS) rfl rfl fun stamp M hM => ?_
 rw [ok.eq m k hm hk2]
 refine T.perm (Q := R * pt b (.cells [.int .i64 m, .int .i64 k].toArray 201) * bigX 160 (vI S L) (ix m k) * pt a (.cells (glob S ++ [Value.map (some r)]).toArray 199) * M * vec 3 1 (S (ix m k)) (ints (L (ix m k))) * pt b1 (.cells [.int .i64 x].toArray 3)) (by ac_rfl) ?_
 refine Yk9 (vs := ints (L (ix m k))) (new := [.int .i64 x]) Yeo rfl rfl (by rw [Yag]; omega) fun s' => ?_
 refine Yaa (X := M) (.init .last) ?_
 refine hM _ s' _ _ rfl ?_
 have e : ints (L (ix m k)) ++ [Value.int .i64 x] = ints (L (ix m k) ++ [x]) := (Yfm (L (ix m k)) [x]).symm
 rw [e]
 have hcl : ∀ t, T B (R * pt b (.cells [.int .i64 m, .int .i64 k].toArray 201) * Fl a (setN L (ix m k) (L (ix m k) ++ [x]))) t → T B (R * pt b (.cells [.int .i64 m, .int .i64 k].toArray 201) * bigX 160 (vI S L) (ix m k) * pt a (.cells (glob S ++ [Value.map (some r)]).toArray 199) * vec 3 1 s' (ints (L (ix m k) ++ [x])) * MpF eslot esl r (updF cs ((m : Int), (k : Int)) s')) t := by
  intro t ht
  have h2 := Ylf (r := r) hi (ok.slot hm hk2 s') ht
  rw [Yig S (by unfold ix; omega)] at h2
  exact T.perm (by ac_rfl) h2
 refine hcl _ ?_
 refine Vhq (L := setN L (ix m k) (L (ix m k) ++ [x])) (fun i hi2 => ?_) hm hk2 fun L' ht hp => ?_
 ·by_cases e : i = ix m k
  ·subst e; rw [Yao]; simp; omega
  ·rw [Yas _ _ e]; have := hL i hi2; omega
 ·refine h0 L' (fun i g1 g2 => by rw [ht i g1 g2, Yas _ _ g2]) (hp.trans ?_)
  rw [Yao, Yas _ _ hne.symm, ← List.append_assoc]
  exact List.perm_append_singleton x _
end
def drF (L : Nat → List Int) (m : Nat) : Nat → Nat → List Int
 |0 => L
 |i + 1 => setN (setN (drF L m i) i (drF L m i i ++ drF L m i (ix m i))) (ix m i) []
theorem Yr8 (L : Nat → List Int) {m : Nat} (hm : m < 4) : ∀ i, i ≤ 32 → ∀ x, x < 160 → drF L m i x = if x < 32 then (if x < i then L x ++ L (ix m x) else L x) else if ix m 0 ≤ x ∧ x < ix m 0 + i then [] else L x := by
 intro i
 induction i with
 |zero =>
  intro _ x hx
  show L x = _
  split
  ·rw [if_neg (by omega)]
  ·rw [if_neg (by omega)]
 |succ i ih =>
  intro hi x hx
  have ih := ih (by omega)
  show setN (setN (drF L m i) i (drF L m i i ++ drF L m i (ix m i))) (ix m i) [] x = _
  have hix : ix m i < 160 := by unfold ix; omega
  by_cases e1 : x = ix m i
  ·subst e1
   rw [Yao, if_neg (by unfold ix; omega), if_pos (by unfold ix; omega)]
  ·rw [Yas _ _ e1]
   by_cases e2 : x = i
   ·subst e2
    rw [Yao, ih x hx, ih (ix m x) hix, if_pos (by omega), if_neg (by omega), if_neg (by unfold ix; omega), if_neg (by unfold ix; omega), if_pos (by omega), if_pos (by omega)]
   ·rw [Yas _ _ e2, ih x hx]
    by_cases h32 : x < 32
    ·rw [if_pos h32, if_pos h32]
     by_cases h : x < i
     ·rw [if_pos h, if_pos (by omega)]
     ·rw [if_neg h, if_neg (by omega)]
    ·rw [if_neg h32, if_neg h32]
     by_cases h : ix m 0 ≤ x ∧ x < ix m 0 + i
     ·rw [if_pos h, if_pos (by omega)]
     ·rw [if_neg h, if_neg (by unfold ix at *; omega)]
/-- a class's cells, with those of so many mutators -/
def accL (L : Nat → List Int) (k : Nat) : Nat → List Int
 |0 => L k
 |i + 1 => accL L k i ++ L (ix i k)
theorem Vew {L : Nat → List Int} (hL : ∀ i, i < 160 → (L i).length ≤ 2 ^ 30) {k : Nat} (hk : k < 32) : ∀ i, i ≤ 4 → (accL L k i).length ≤ (i + 1) * 2 ^ 30 := by
 intro i
 induction i with
 |zero => intro _; have := hL k (by omega); show (L k).length ≤ _; omega
 |succ i ih =>
  intro h
  have := ih (by omega)
  have := hL (ix i k) (by unfold ix; omega)
  show (accL L k i ++ L (ix i k)).length ≤ _
  rw [List.length_append]; omega
section
variable {B : World} {P R : SL} {t : K}
theorem Yxo {a : Nat} {L : Nat → List Int} (hL : ∀ i, i < 160 → (L i).length ≤ 2 ^ 30) {m : Nat} (hm : m < 4) {kk : Unit → K} (hk : T B (R * Fl a (drF L m 32)) (kk ())) : T B (R * Fl a L) (Ye7 (da a) m kk) := by
 refine Yaq (Ynb _ m kk) ?_
 (dsimp only [Yjp, Zdq0, Zdq1, Zdq2, Zdq3, Zdq4, Zdq5])
 refine Ycz (fun _ s => R * Fl a (drF L m s.1.toNat)) (fun n (z : Int × Unit) => ∃ i : Nat, z.1 = i ∧ i ≤ 32 ∧ n = 32 - i) 32 rfl ⟨0, rfl, by omega, rfl⟩ ?_
 rintro n ⟨z, u⟩ c ⟨i, e1, e2, e3⟩ hc
 simp only at e1
 subst e1 e3
 simp only [Int.toNat_natCast]
 (repeat' (first | with_reducible refine Yak ?_ | (with_reducible refine Ya7 ?_; intro _) | ((with_reducible apply Ybc); (focus rfl); (focus exact updA); (focus simp); simp only [List.set, Nat.zero_add, Nat.reduceAdd]) | with_reducible refine Yai (fun _ => ?_) (fun _ => ?_)))
 ·rename_i hlt b
  have hlt' : i < 32 := by omega
  have hix : ix m i < 160 := by unfold ix; omega
  have hne : ix m i ≠ i := by unfold ix; omega
  have hnext := hc (32 - (i + 1)) (IntKind.wrap .i64 ((i : Int) + 1), ()) (by omega) ⟨i + 1, w64 (by omega) (by omega), by omega, rfl⟩
  have e : (IntKind.wrap .i64 ((i : Int) + 1)).toNat = i + 1 := by rw [w64 (by omega) (by omega)]; omega
  simp only [e] at hnext
  have hl1 : (drF L m i i).length ≤ 2 ^ 30 := by rw [Yr8 L hm i e2 i (by omega), if_pos hlt', if_neg (by omega)]; exact hL i (by omega)
  have hl2 : (drF L m i (ix m i)).length ≤ 2 ^ 30 := by rw [Yr8 L hm i e2 _ hix, if_neg (by unfold ix; omega), if_neg (by unfold ix; omega)]; exact hL _ hix
  have hnext : T B (R * Fl a (setN (setN (drF L m i) i (drF L m i i ++ drF L m i (ix m i))) (ix m i) [])) (c (IntKind.wrap .i64 ((i : Int) + 1), ())) := hnext
  clear hc
  generalize drF L m i = L0 at *
  refine Yaa (X := Fl a L0) (.init .last) ?_
  refine Ynh (i := i) (by omega) fun S cs r ok => ?_
  unfold da
  (repeat (with_reducible refine Yam ?_))
  refine Yvq (S := S) (.init .last) hlt' ?_
  (repeat (first | with_reducible refine Yam ?_ | ((with_reducible apply Yaf); (focus rfl); (focus exact hasA); (focus rfl)) | ((with_reducible apply Yd8); (focus rfl); (focus exact hasA); (focus rfl))))
  refine Yje (cs := cs) (MHas.init (MHas.init (MHas.init (MHas.of .last)))) fun ob bb => ?_
  rw [ok.eq m i hm hlt']
  (repeat (with_reducible refine Yam ?_))
  have hrd := bigXRd (S := S) (L := L0) hix hne
  refine Ya1 (Rd.init (Rd.init (Rd.tail hrd))) fun hnn => ?_
  rw [Yag, Nat.mul_one] at hnn
  refine Ybs (s := S i) (vs := ints (L0 i)) (x := S (ix m i)) (new := ints (L0 (ix m i))) Yeo (Rd.init (Rd.tail hrd)) (Yct _) (by rw [Yag]; omega) fun s' => ?_
  refine Vc4 (S := S) (s := s') hlt' (.init .last) ?_
  rw [← Yfm]
  (repeat (first | with_reducible refine Yam ?_ | with_reducible refine Yak ?_ | ((with_reducible apply Yaf); (focus rfl); (focus exact hasA); (focus rfl)) | ((with_reducible apply Yd8); (focus rfl); (focus exact hasA); (focus rfl))))
  refine Yaa (X := MpF eslot esl r cs) (.init (.init (.init .last))) ?_
  refine Vc0 (ek := eslot) (ev := esl) Yle (key := ((m : Int), (i : Int))) rfl ?_
  have ok1 := ok.glob hlt' s'
  have ok2 := ok1.del hm hlt'
  refine T.perm (Q := R * pt b (.cells [.int .i64 m, .int .i64 i].toArray 201) * MpF eslot esl r (delF cs ((m : Int), (i : Int))) * bigS 160 (vI (setN S i s') (setN L0 i (L0 i ++ L0 (ix m i)))) * pt a (.cells (glob (setN S i s') ++ [Value.map (some r)]).toArray 199)) (by rw [← bigIn (by omega)]; ac_rfl) ?_
  rw [Yhh hix]
  refine T.perm (Q := R * MpF eslot esl r (delF cs ((m : Int), (i : Int))) * bigX 160 (vI (setN S i s') (setN L0 i (L0 i ++ L0 (ix m i)))) (ix m i) * pt a (.cells (glob (setN (setN S i s') (ix m i) nilS) ++ [Value.map (some r)]).toArray 199) * (pt b (.cells [.int .i64 m, .int .i64 i].toArray 201) * vI (setN S i s') (setN L0 i (L0 i ++ L0 (ix m i))) (ix m i))) ?_ ?_
  ·rw [Yig (setN S i s') (by unfold ix; omega)]; ac_rfl
  refine T.weak ?_
  refine Val _ ?_
  exact Ylf hix ok2 hnext
 ·have : i = 32 := by omega
  subst this
  exact hk
theorem Yzo {a : Nat} {L : Nat → List Int} (hL : ∀ i, i < 160 → (L i).length ≤ 2 ^ 30) {k : Nat} (hk2 : k < 32) {kk : Sl → K} (hk : ∀ s, T B (R * Fl a L * vec 3 1 s (ints (sortI (accL L k 4)))) (kk s)) : T B (R * Fl a L) (Yfk (da a) k kk) := by
 refine Yaq (Yoh _ k kk) ?_
 refine Ybt ?_
 rw [decide_eq_true (by omega)]
 simp only [Bool.not_true]
 refine Ypt fun S cs r ok => ?_
 unfold da
 (repeat (first | with_reducible refine Yam ?_ | with_reducible refine Yau ?_))
 refine Yvq (S := S) .last hk2 ?_
 have hl := hL k (by omega)
 have hacc := Vew hL hk2
 refine Yng (l := L k) (by omega) (Rd.init (Rd.tail (bigRd (S := S) (L := L) (by omega)))) fun x16 => ?_
 (dsimp only [Yk3, Zdb0, Zdb1, Zdb2, Zdb3, Zdb4, Zdb5, Zdb6, Zdb7, Zdb8, Zdb9, Zdb10, Zdb11])
 refine Ycz (fun _ s => R * MpF eslot esl r cs * bigS 160 (vI S L) * pt a (.cells (glob S ++ [Value.map (some r)]).toArray 199) * vec 3 1 s.1 (ints (accL L k s.2.1.toNat))) (fun n (z : Sl × Int × Unit) => ∃ i : Nat, z.2.1 = i ∧ i ≤ 4 ∧ n = 4 - i) 4 rfl ⟨0, rfl, by omega, rfl⟩ ?_
 rintro n ⟨out, z, u⟩ c ⟨i, e1, e2, e3⟩ hc
 simp only at e1
 subst e1 e3
 simp only [Int.toNat_natCast]
 (repeat' (first | with_reducible refine Yam ?_ | ((with_reducible apply Yd8); (focus rfl); (focus exact hasA); (focus rfl)) | with_reducible refine Yai (fun _ => ?_) (fun _ => ?_)))
 ·have hlt : i < 4 := by omega
  have hix : ix i k < 160 := by unfold ix; omega
  refine Yje (cs := cs) (MHas.init (MHas.init (MHas.init (MHas.of .last)))) fun ob bb => ?_
  rw [ok.eq i k hlt hk2]
  have hrd := bigRd (S := S) (L := L) hix
  refine Ya1 (Rd.init (Rd.init (Rd.tail hrd))) fun hnn => ?_
  rw [Yag, Nat.mul_one] at hnn
  have h1 := hL _ hix
  have h2 := hacc i e2
  have h3 : (i + 1) * 2 ^ 30 ≤ 5 * 2 ^ 30 := Nat.mul_le_mul_right _ (by omega)
  refine Ybs (s := out) (vs := ints (accL L k i)) (x := S (ix i k)) (new := ints (L (ix i k))) Yeo (Rd.init (Rd.tail hrd)) (Yct _) (by rw [Yag]; omega) fun s' => ?_
  have := hc (4 - (i + 1)) (s', IntKind.wrap .i64 ((i : Int) + 1), ()) (by omega) ⟨i + 1, w64 (by omega) (by omega), by omega, rfl⟩
  have e : (IntKind.wrap .i64 ((i : Int) + 1)).toNat = i + 1 := by rw [w64 (by omega) (by omega)]; omega
  simp only [e] at this
  rw [← Yfm]
  exact this
 ·have h4 : i = 4 := by omega
  subst h4
  have h2 := hacc 4 (by omega)
  refine Vbu (by omega) ?_
  have := hk out
  refine Yaa (X := vec 3 1 out (ints (sortI (accL L k 4)))) .last ?_
  refine T.perm (Q := R * vec 3 1 out (ints (sortI (accL L k 4))) * MpF eslot esl r cs * bigS 160 (vI S L) * pt a (.cells (glob S ++ [Value.map (some r)]).toArray 199)) (by ac_rfl) ?_
  refine Ygr ok ?_
  exact T.perm (by ac_rfl) this
end
/-- words of a cell, cells of a block -/
def cw (k : Nat) : Nat := (clsW k).toNat
def cn (k : Nat) : Nat := (cls k).toNat
theorem Yjf : ∀ k : Nat, k < 32 → clsW k = cw k ∧ cls k = cn k ∧ 2 ≤ cw k ∧ cw k ≤ 256 ∧ cn k = 512 / cw k ∧ 2 ≤ cn k ∧ cn k ≤ 256 ∧ cn k * cw k ≤ 512 := by decide +kernel
def cellN (b k i : Nat) : Nat := b * 512 + i * cw k
theorem Yep {b k i : Nat} (hk : k < 32) (hi : i < cn k) : b * 512 ≤ cellN b k i ∧ cellN b k i + cw k ≤ (b + 1) * 512 := by
 obtain ⟨_, _, h2, _, _, _, _, h8⟩ := Yjf k hk
 unfold cellN
 have : (i + 1) * cw k ≤ cn k * cw k := Nat.mul_le_mul_right _ hi
 rw [Nat.add_mul, Nat.one_mul] at this
 omega
theorem Yr9 {b b' k i i' : Nat} (hk : k < 32) (hi : i < cn k) (hi' : i' < cn k) (h : cellN b k i = cellN b' k i') : b = b' ∧ i = i' := by
 have h1 := Yep (b := b) hk hi
 have h2 := Yep (b := b') hk hi'
 obtain ⟨_, _, h3, _⟩ := Yjf k hk
 have hb : b = b' := by omega
 subst hb
 refine ⟨rfl, ?_⟩
 unfold cellN at h
 exact Nat.eq_of_mul_eq_mul_right (by omega) (by omega : i * cw k = i' * cw k)
theorem Ybi {b k i : Nat} (hk : k < 32) (hi : i < cn k) : cellN b k i / 512 = b := by
 have h1 := Yep (b := b) hk hi
 obtain ⟨_, _, h3, _⟩ := Yjf k hk
 omega
theorem Yxp {g b k i : Nat} (hk : k < 32) (hb : 1 ≤ b) (hb2 : b < g) (hi : i < cn k) : cellAt g k ((b : Int), (i : Int)) = (cellN b k i : Nat) := by
 obtain ⟨h1, h2, _⟩ := Yjf k hk
 unfold cellAt cellN
 rw [if_neg (by rw [h2]; omega), h1]
 simp only [Int.natCast_add, Int.natCast_mul]; rfl
abbrev hd (hs : List Hd) (b : Nat) : Hd := hs.getD b (0, 0, 0)
/-- a cell of a block of small objects of a class -/
def SmCell (g : Nat) (hs : List Hd) (k x : Nat) : Prop := ∃ b i : Nat, 1 ≤ b ∧ b < g ∧ hd hs b = (1, (k : Int), 0) ∧ i < cn k ∧ x = cellN b k i
theorem SmCell.k {g : Nat} {hs : List Hd} {k k' x : Nat} (hk : k < 32) (hk' : k' < 32) (h : SmCell g hs k x) (h' : SmCell g hs k' x) : k = k' := by
 obtain ⟨b, i, _, _, h1, h2, rfl⟩ := h
 obtain ⟨b', i', _, _, h1', h2', e⟩ := h'
 have : b = b' := by
  have e1 := Ybi (b := b) hk h2
  rw [e, Ybi hk' h2'] at e1
  exact e1.symm
 subst this
 rw [h1] at h1'
 simp only [Prod.mk.injEq] at h1'
 omega
/-- what the lists of free cells hold -/
structure Frees (g : Nat) (hs : List Hd) (U : Nat → Bool) (L : Nat → List Int) : Prop where
 nd : ∀ k, k < 32 → (accL L k 4).Nodup
 mem : ∀ k, k < 32 → ∀ y : Int, y ∈ accL L k 4 ↔ ∃ x : Nat, y = x ∧ SmCell g hs k x ∧ U x = false
/-- an allocator's blocks, objects and free cells fit one another -/
structure Inv (g : Nat) (hs : List Hd) (U : Nat → Bool) (L : Nat → List Int) : Prop where
 len : hs.length = g
 two : 2 ≤ g
 big : g ≤ 2 ^ 20
 right : ∀ h ∈ hs, hRight h
 zero : hd hs 0 = (0, 0, 0)
 whole : ∀ b, (hd hs b).1 = 2 → ∃ n, WholeP hs b n
 cont : ∀ b, (hd hs b).1 = 3 → ∃ b0 n, WholeP hs b0 n ∧ b0 < b ∧ b < b0 + n
 used : ∀ x, U x = true → (∃ k, k < 32 ∧ SmCell g hs k x) ∨ (∃ b n, 1 ≤ b ∧ WholeP hs b n ∧ x = b * 512)
 free : Frees g hs U L
theorem Yvr {L : Nat → List Int} {k : Nat} {y : Int} : y ∈ accL L k 4 ↔ FHas L k y := by
 show y ∈ (((L k ++ L (ix 0 k)) ++ L (ix 1 k)) ++ L (ix 2 k)) ++ L (ix 3 k) ↔ _
 unfold FHas
 simp only [List.mem_append]
 constructor
 ·rintro ((((h | h) | h) | h) | h)
  ·exact .inl h
  ·exact .inr ⟨0, by omega, h⟩
  ·exact .inr ⟨1, by omega, h⟩
  ·exact .inr ⟨2, by omega, h⟩
  ·exact .inr ⟨3, by omega, h⟩
 ·rintro (h | ⟨m, hm, h⟩)
  ·exact .inl (.inl (.inl (.inl h)))
  ·have : m = 0 ∨ m = 1 ∨ m = 2 ∨ m = 3 := by omega
   rcases this with rfl | rfl | rfl | rfl
   ·exact .inl (.inl (.inl (.inr h)))
   ·exact .inl (.inl (.inr h))
   ·exact .inl (.inr h)
   ·exact .inr h
theorem Ypu (L : Nat → List Int) (k : Nat) (y : Int) : (accL L k 4).count y = (L k).count y + (L (ix 0 k)).count y + (L (ix 1 k)).count y + (L (ix 2 k)).count y + (L (ix 3 k)).count y := by
 show ((((L k ++ L (ix 0 k)) ++ L (ix 1 k)) ++ L (ix 2 k)) ++ L (ix 3 k)).count y = _
 simp only [List.count_append]
/-- one cell turned, out of two lists of a class -/
theorem Yf5 {L L' : Nat → List Int} {m k : Nat} (hm : m < 4) (hk : k < 32) (ht : Turn L L' m k) {l l' : List Int} (hp : (L k ++ L (ix m k) ++ l).Perm (L' k ++ L' (ix m k) ++ l')) :
  (accL L k 4 ++ l).Perm (accL L' k 4 ++ l') ∧ ∀ j, j < 32 → j ≠ k → accL L' j 4 = accL L j 4 := by
 constructor
 ·rw [List.perm_iff_count]
  intro y
  have h := hp.count_eq y
  simp only [List.count_append, Ypu] at h ⊢
  have hh : ∀ m', m' < 4 → m' ≠ m → L' (ix m' k) = L (ix m' k) := fun m' h1 h2 => ht _ (by unfold ix; omega) (by unfold ix; omega)
  have : m = 0 ∨ m = 1 ∨ m = 2 ∨ m = 3 := by omega
  rcases this with rfl | rfl | rfl | rfl
  ·rw [hh 1 (by omega) (by omega), hh 2 (by omega) (by omega), hh 3 (by omega) (by omega)]; omega
  ·rw [hh 0 (by omega) (by omega), hh 2 (by omega) (by omega), hh 3 (by omega) (by omega)]; omega
  ·rw [hh 0 (by omega) (by omega), hh 1 (by omega) (by omega), hh 3 (by omega) (by omega)]; omega
  ·rw [hh 0 (by omega) (by omega), hh 1 (by omega) (by omega), hh 2 (by omega) (by omega)]; omega
 ·intro j hj hjk
  have e : ∀ i, accL L' j i = accL L j i ∨ 4 < i := by
   intro i
   induction i with
   |zero => left; exact ht j hjk (by unfold ix; omega)
   |succ i ih =>
    by_cases h : 4 < i + 1
    ·exact .inr h
    ·rcases ih with ih | ih
     ·left
      show accL L' j i ++ L' (ix i j) = accL L j i ++ L (ix i j)
      rw [ih, ht (ix i j) (by unfold ix; omega) (by unfold ix; omega)]
     ·omega
  rcases e 4 with h | h
  ·exact h
  ·omega
theorem Frees.len {g : Nat} {hs : List Hd} {U : Nat → Bool} {L : Nat → List Int} (hg : g ≤ 2 ^ 20) (h : Frees g hs U L) {k : Nat} (hk : k < 32) : (accL L k 4).length ≤ 2 ^ 29 := by
 have h1 : ((accL L k 4).map Int.toNat).Nodup := by
  refine List.Pairwise.map _ (fun a b hab => ?_) (List.Pairwise.and_mem.1 (h.nd k hk))
  obtain ⟨ha, hb, hab⟩ := hab
  obtain ⟨x, rfl, _⟩ := (h.mem k hk a).1 ha
  obtain ⟨y, rfl, _⟩ := (h.mem k hk b).1 hb
  omega
 have := Yf3 (2 ^ 29) _ h1 (fun x hx => by
  obtain ⟨a, ha, rfl⟩ := List.mem_map.1 hx
  obtain ⟨x, rfl, ⟨b, i, h1, h2, h3, h4, rfl⟩, _⟩ := (h.mem k hk a).1 ha
  have := Yep (b := b) hk h4
  obtain ⟨_, _, h5, _⟩ := Yjf k hk
  omega)
 simpa using this
theorem Frees.lens {g : Nat} {hs : List Hd} {U : Nat → Bool} {L : Nat → List Int} (hg : g ≤ 2 ^ 20) (h : Frees g hs U L) : ∀ i, i < 160 → (L i).length ≤ 2 ^ 29 := by
 intro i hi
 have sub : ∀ k, k < 32 → (accL L k 4).length = (L k).length + (L (ix 0 k)).length + (L (ix 1 k)).length + (L (ix 2 k)).length + (L (ix 3 k)).length := by
  intro k _
  show ((((L k ++ L (ix 0 k)) ++ L (ix 1 k)) ++ L (ix 2 k)) ++ L (ix 3 k)).length = _
  simp only [List.length_append]
 by_cases h32 : i < 32
 ·have := h.len hg h32
  rw [sub i h32] at this; omega
 ·obtain ⟨m, k, hm, hk, rfl⟩ : ∃ m k, m < 4 ∧ k < 32 ∧ i = ix m k := ⟨(i - 32) / 32, (i - 32) % 32, by omega, by omega, by unfold ix; omega⟩
  have := h.len hg hk
  rw [sub k hk] at this
  have : m = 0 ∨ m = 1 ∨ m = 2 ∨ m = 3 := by omega
  rcases this with rfl | rfl | rfl | rfl <;> omega
structure St where
 hs : List Hd
 F : RF
 c : List Int
 U : Nat → Bool
 L : Nat → List Int
def AlQ (a d g : Nat) (s : St) (m u f : Nat) : SL := LDx d (64 * g) s.c * Mg m d g s.hs s.F * Bm u (512 * g) s.U * Fl f s.L * pt a (.cells [.pointer (da m), .pointer (da d), .int .i64 g, .pointer (da u), .pointer (da f)].toArray 47)
def Al (a d g : Nat) (s : St) : SL := ex fun q : Nat × Nat × Nat => AlQ a d g s q.1 q.2.1 q.2.2
section
variable {B : World} {P R : SL} {t : K}
theorem Ycu {a d g : Nat} {s : St} (h : ∀ m u f, T B (R * LDx d (64 * g) s.c * Mg m d g s.hs s.F * Bm u (512 * g) s.U * Fl f s.L * pt a (.cells [.pointer (da m), .pointer (da d), .int .i64 g, .pointer (da u), .pointer (da f)].toArray 47)) t) : T B (R * Al a d g s) t := by
 refine Ywt fun q => T.perm ?_ (h q.1 q.2.1 q.2.2)
 unfold AlQ; simp only [Yad]
theorem Yax {a d g m u f : Nat} {s : St} (h : T B (R * Al a d g s) t) : T B (R * LDx d (64 * g) s.c * Mg m d g s.hs s.F * Bm u (512 * g) s.U * Fl f s.L * pt a (.cells [.pointer (da m), .pointer (da d), .int .i64 g, .pointer (da u), .pointer (da f)].toArray 47)) t := by
 have h2 := Yjt (B := B) (R := R) (t := t) (X := fun q : Nat × Nat × Nat => AlQ a d g s q.1 q.2.1 q.2.2) (m, u, f) h
 refine T.perm ?_ h2
 unfold AlQ; simp only [Yad]
theorem Vhr {a d g : Nat} {s : St} (h : Tie g s.hs s.F → T B (R * Al a d g s) t) : T B (R * Al a d g s) t := by
 refine Ycu fun m u f => ?_
 refine Yaa (X := Mg m d g s.hs s.F) (.init (.init (.init .last))) ?_
 refine Vc2 fun tie => ?_
 exact T.perm (by ac_rfl) (Yax (m := m) (u := u) (f := f) (h tie))
end
/-- a block's cells that are not in use, the last one first; so many of them looked at -/
def cvN (U : Nat → Bool) (b k : Nat) : Nat → List Int
 |0 => []
 |t + 1 => cvN U b k t ++ (if U (cellN b k (cn k - 1 - t)) then [] else [((cellN b k (cn k - 1 - t) : Nat) : Int)])
theorem Yvs {U : Nat → Bool} {b k : Nat} : ∀ {t : Nat}, t ≤ cn k → ∀ {y : Int}, y ∈ cvN U b k t ↔ ∃ i, cn k - t ≤ i ∧ i < cn k ∧ y = (cellN b k i : Nat) ∧ U (cellN b k i) = false := by
 intro t
 induction t with
 |zero => intro _ y; simp only [cvN, List.not_mem_nil, false_iff]; rintro ⟨i, h1, h2, _⟩; omega
 |succ t ih =>
  intro ht y
  have ih := @ih (by omega) y
  simp only [cvN, List.mem_append, ih]
  constructor
  ·rintro (⟨i, h1, h2, h3⟩ | h)
   ·exact ⟨i, by omega, h2, h3⟩
   ·split at h
    ·simp at h
    ·rename_i hu
     simp only [List.mem_singleton] at h
     exact ⟨cn k - 1 - t, by omega, by omega, h, by simpa using hu⟩
  ·rintro ⟨i, h1, h2, h3, h4⟩
   by_cases e : i = cn k - 1 - t
   ·right
    rw [← e, if_neg (by simp [h4])]; simp [h3]
   ·exact .inl ⟨i, by omega, h2, h3, h4⟩
theorem Vc5 {U : Nat → Bool} {b k : Nat} (hk : k < 32) : ∀ {t : Nat}, t ≤ cn k → (cvN U b k t).Nodup := by
 intro t
 induction t with
 |zero => intro _; simp [cvN]
 |succ t ih =>
  intro ht
  simp only [cvN]
  split
  ·simp; exact ih (by omega)
  ·rw [List.nodup_append]
   refine ⟨ih (by omega), by simp, fun y hy z hz => ?_⟩
   simp only [List.mem_singleton] at hz
   subst hz
   obtain ⟨i, h1, h2, h3, _⟩ := (Yvs (by omega)).1 hy
   intro e
   rw [h3] at e
   have := (Yr9 (b := b) (b' := b) hk h2 (by omega) (by omega : cellN b k i = cellN b k (cn k - 1 - t))).2
   omega
theorem Vgo {U : Nat → Bool} {b k t : Nat} : (cvN U b k t).length ≤ t := by
 induction t with
 |zero => simp [cvN]
 |succ t ih =>
  simp only [cvN, List.length_append]
  split <;> simp <;> omega
section
variable {B : World} {P R : SL} {t : K}
theorem Vgp {a d g b k : Nat} {s : St} (hg : g ≤ 2 ^ 20) (hb : 1 ≤ b) (hb2 : b < g) (hk : k < 32) (hL : ∀ i, i < 160 → (s.L i).length ≤ 2 ^ 29) (hno : ∀ i, i < cn k → ¬ FHas s.L k ((cellN b k i : Nat) : Int)) {kk : Unit → K}
  (hkk : T B (R * Al a d g { s with L := setN s.L k (s.L k ++ cvN s.U b k (cn k)) }) (kk ())) : T B (R * Al a d g s) (Ybh (da a) b k kk) := by
 refine Yaq (Yic _ b k kk) ?_
 obtain ⟨t1, t2, t3, t4, t5, t6, t7, t8⟩ := Yjf k hk
 refine Yn3 ?_
 have e0 : IntKind.wrap .i64 (cls k - 1) = (cn k : Int) - 1 := by rw [w64 (by omega) (by omega), t2]
 (dsimp only [Yf1, Zel0, Zel1, Zel2, Zel3, Zel4, Zel5, Zel6])
 rw [e0]
 refine Ycz (fun n z => R * Al a d g { s with L := setN s.L k (s.L k ++ cvN s.U b k (cn k - n)) }) (fun n (z : Int × Unit) => n ≤ cn k ∧ z.1 = (n : Int) - 1) (cn k) ?_ ⟨by omega, rfl⟩ ?_
 ·rw [Nat.sub_self]
  simp only [cvN, List.append_nil]
  rw [Yf4]
 rintro n ⟨z, u⟩ c ⟨e1, e2⟩ hc
 simp only at e2
 subst e2
 (repeat' (with_reducible refine Yai (fun _ => ?_) (fun _ => ?_)))
 ·rename_i hge
  have hn : 1 ≤ n := by omega
  have ei : (n : Int) - 1 = ((n - 1 : Nat) : Int) := by omega
  have hlt : n - 1 < cn k := by omega
  refine Ycu fun m u f => ?_
  unfold da
  (repeat (first | with_reducible refine Yam ?_ | ((with_reducible apply Yaf); (focus rfl); (focus exact hasA); (focus rfl))))
  rw [ei]
  refine Yks (by omega) ?_
  rw [Yxp hk hb hb2 hlt]
  (repeat (first | with_reducible refine Yam ?_ | ((with_reducible apply Yaj); (focus rfl); (focus exact hasA); (focus rfl))))
  refine Yaa (X := Bm u (512 * g) s.U) (.init (.init .last)) ?_
  refine Yc7 ?_
  have hh : has s.U ((cellN b k (n - 1) : Nat) : Int) = s.U (cellN b k (n - 1)) := by unfold has; rw [decide_eq_true (by omega), Bool.true_and, Int.toNat_natCast]
  rw [hh]
  have hstep : cn k - (n - 1) = (cn k - n) + 1 := by omega
  have hcell : cn k - 1 - (cn k - n) = n - 1 := by omega
  have hnx := hc (n - 1) (IntKind.wrap .i64 (((n - 1 : Nat) : Int) - 1), ()) (by omega) ⟨by omega, by rw [w64 (by omega) (by omega)]⟩
  rw [hstep] at hnx
  simp only [cvN, hcell] at hnx
  cases hu : s.U (cellN b k (n - 1))
  ·rw [hu] at hnx
   simp only [Bool.false_eq_true, if_false] at hnx
   simp only [Bool.not_false]
   (repeat (first | with_reducible refine Yam ?_ | with_reducible refine Yal ?_ | ((with_reducible apply Yaj); (focus rfl); (focus exact hasA); (focus rfl))))
   refine Yaa (X := Fl f (setN s.L k (s.L k ++ cvN s.U b k (cn k - n)))) (.init (.init .last)) ?_
   have hlen : ∀ i, i < 160 → (setN s.L k (s.L k ++ cvN s.U b k (cn k - n)) i).length ≤ 2 ^ 30 := by
    intro i hi
    have h1 := hL i hi
    have h2 := @Vgo s.U b k (cn k - n)
    by_cases e : i = k
    ·subst e; rw [Yao, List.length_append]; omega
    ·rw [Yas _ _ e]; omega
   refine Yr7 hlen hk (fun hf => ?_) (fun _ => ?_)
   ·exfalso
    rcases hf with h | ⟨m', hm', h⟩
    ·rw [Yao, List.mem_append] at h
     rcases h with h | h
     ·exact hno (n - 1) hlt (.inl h)
     ·obtain ⟨i, h1, h2, h3, h4⟩ := (Yvs (by omega)).1 h
      have := (Yr9 (b := b) (b' := b) hk hlt h2 (by omega)).2
      omega
    ·rw [Yas _ _ (by unfold ix; omega)] at h
     exact hno (n - 1) hlt (.inr ⟨m', hm', h⟩)
   ·have e3 : setN (setN s.L k (s.L k ++ cvN s.U b k (cn k - n))) k (setN s.L k (s.L k ++ cvN s.U b k (cn k - n)) k ++ [((cellN b k (n - 1) : Nat) : Int)]) = setN s.L k (s.L k ++ (cvN s.U b k (cn k - n) ++ [((cellN b k (n - 1) : Nat) : Int)])) := by
     funext j
     by_cases e : j = k
     ·subst e; rw [Yao, Yao, Yao, List.append_assoc]
     ·rw [Yas _ _ e, Yas _ _ e, Yas _ _ e]
    rw [e3]
    exact T.perm (by unfold da; ac_rfl) (Yax (a := a) (m := m) (u := u) (f := f) (d := d) (g := g) (R := R) (s := { s with L := setN s.L k (s.L k ++ (cvN s.U b k (cn k - n) ++ [((cellN b k (n - 1) : Nat) : Int)])) }) hnx)
  ·rw [hu] at hnx
   simp only [if_true, List.append_nil] at hnx
   simp only [Bool.not_true]
   (repeat (with_reducible refine Yau ?_))
   exact T.perm (by unfold da; ac_rfl) (Yax (a := a) (m := m) (u := u) (f := f) (d := d) (g := g) (R := R) (s := { s with L := setN s.L k (s.L k ++ cvN s.U b k (cn k - n)) }) hnx)
 ·have : n = 0 := by omega
  subst this
  exact hkk
end
theorem Vbw {hs : List Hd} (h : ∀ x ∈ hs, hRight x) (b : Nat) : hRight (hd hs b) := by
 by_cases hb : b < hs.length
 ·exact h _ (Yvj hb)
 ·unfold hd; rw [List.getD_eq_getElem?_getD, List.getElem?_eq_none (by omega)]; exact .inl rfl
theorem WholeP.keep {hs hs' : List Hd} {b n : Nat} (hl : hs'.length = hs.length) (h : WholeP hs b n) (he : ∀ i, b ≤ i → i < b + n → hd hs' i = hd hs i) : WholeP hs' b n := by
 obtain ⟨h1, h2, h3, h4, h5⟩ := h
 refine ⟨h1, by omega, ?_, ?_, fun i hi hi2 => ?_⟩
 ·have := he b (by omega) (by omega); unfold hd at this; rw [this]; exact h3
 ·have := he b (by omega) (by omega); unfold hd at this; rw [this]; exact h4
 ·have := he (b + i) (by omega) (by omega); unfold hd at this; rw [this]; exact h5 i hi hi2
theorem WholeP.kind {hs : List Hd} {b n i : Nat} (h : WholeP hs b n) (h1 : b ≤ i) (h2 : i < b + n) : (i = b ∧ (hd hs i).1 = 2) ∨ (b < i ∧ (hd hs i).1 = 3) := by
 by_cases e : i = b
 ·subst e; exact .inl ⟨rfl, h.2.2.1⟩
 ·right
  refine ⟨by omega, ?_⟩
  have := h.2.2.2.2 (i - b) (by omega) (by omega)
  rw [show b + (i - b) = i by omega] at this
  show (hs.getD i (0, 0, 0)).1 = 3
  rw [this]
/-- a cell out of the lists -/
theorem Frees.take {g : Nat} {hs : List Hd} {U : Nat → Bool} {L L' : Nat → List Int} (h : Frees g hs U L) {k : Nat} (hk : k < 32) {y : Int} (hp : (accL L k 4).Perm (y :: accL L' k 4)) (ho : ∀ j, j < 32 → j ≠ k → (accL L' j 4).Perm (accL L j 4)) :
  ∃ x : Nat, y = x ∧ SmCell g hs k x ∧ U x = false ∧ Frees g hs (uAdd U x) L' := by
 have hy : y ∈ accL L k 4 := hp.mem_iff.2 (by simp)
 obtain ⟨x, rfl, hc, hu⟩ := (h.mem k hk y).1 hy
 refine ⟨x, rfl, hc, hu, fun j hj => ?_, fun j hj z => ?_⟩
 ·by_cases e : j = k
  ·subst e
   exact (List.nodup_cons.1 (hp.nodup_iff.1 (h.nd j hj))).2
  ·exact (ho j hj e).nodup_iff.2 (h.nd j hj)
 ·by_cases e : j = k
  ·subst e
   have hnd := List.nodup_cons.1 (hp.nodup_iff.1 (h.nd j hj))
   constructor
   ·intro hz
    obtain ⟨x', rfl, h1, h2⟩ := (h.mem j hj z).1 (hp.mem_iff.2 (by simp [hz]))
    refine ⟨x', rfl, h1, ?_⟩
    unfold uAdd
    have : x' ≠ x := fun e => hnd.1 (by rw [← e]; exact hz)
    simp [this, h2]
   ·rintro ⟨x', rfl, h1, h2⟩
    unfold uAdd at h2
    simp only [Bool.or_eq_false_iff, beq_eq_false_iff_ne, ne_eq] at h2
    have := hp.mem_iff.1 ((h.mem j hj (x' : Int)).2 ⟨x', rfl, h1, h2.2⟩)
    rcases List.mem_cons.1 this with h3 | h3
    ·exact absurd (by omega) h2.1
    ·exact h3
  ·rw [(ho j hj e).mem_iff, h.mem j hj z]
   constructor
   ·rintro ⟨x', rfl, h1, h2⟩
    refine ⟨x', rfl, h1, ?_⟩
    unfold uAdd
    have : x' ≠ x := fun e2 => e (SmCell.k hj hk h1 (e2 ▸ hc))
    simp [this, h2]
   ·rintro ⟨x', rfl, h1, h2⟩
    unfold uAdd at h2
    simp only [Bool.or_eq_false_iff] at h2
    exact ⟨x', rfl, h1, h2.2⟩
theorem Inv.take {g : Nat} {hs : List Hd} {U : Nat → Bool} {L L' : Nat → List Int} (h : Inv g hs U L) {k : Nat} (hk : k < 32) {y : Int} (hp : (accL L k 4).Perm (y :: accL L' k 4)) (ho : ∀ j, j < 32 → j ≠ k → (accL L' j 4).Perm (accL L j 4)) :
  ∃ x : Nat, y = x ∧ SmCell g hs k x ∧ U x = false ∧ Inv g hs (uAdd U x) L' := by
 obtain ⟨x, h1, h2, h3, h4⟩ := h.free.take hk hp ho
 refine ⟨x, h1, h2, h3, ⟨h.len, h.two, h.big, h.right, h.zero, h.whole, h.cont, fun z hz => ?_, h4⟩⟩
 unfold uAdd at hz
 simp only [Bool.or_eq_true, beq_iff_eq] at hz
 rcases hz with rfl | hz
 ·exact .inl ⟨k, hk, h2⟩
 ·exact h.used z hz
/-- blocks that are free have nothing in use -/
theorem Inv.free_unused {g : Nat} {hs : List Hd} {U : Nat → Bool} {L : Nat → List Int} (h : Inv g hs U L) {b : Nat} (hb : (hd hs b).1 = 0 ∨ (hd hs b).1 = 3) {x : Nat} (hx : x / 512 = b) : U x = false := by
 cases hu : U x with
 |false => rfl
 |true =>
  exfalso
  rcases h.used x hu with ⟨k, hk, b', i, h1, h2, h3, h4, rfl⟩ | ⟨b', n, h1, hw, rfl⟩
  ·rw [Ybi hk h4] at hx
   subst hx
   rw [h3] at hb
   simp at hb
  ·have : b' = b := by omega
   subst this
   have := hw.2.2.1
   unfold hd at hb; omega
/-- a new block of small objects -/
theorem Inv.block {g : Nat} {hs : List Hd} {U : Nat → Bool} {L : Nat → List Int} (h : Inv g hs U L) {b k : Nat} (hk : k < 32) (hb : 1 ≤ b) (hb2 : b < g) (h0 : (hd hs b).1 = 0) :
  (∀ i, i < cn k → ¬ FHas L k ((cellN b k i : Nat) : Int)) ∧ (∀ i, i < cn k → U (cellN b k i) = false) ∧ Inv g (splice hs b [(1, (k : Int), 0)]) U (setN L k (L k ++ cvN U b k (cn k))) ∧ (accL (setN L k (L k ++ cvN U b k (cn k))) k 4).Perm (accL L k 4 ++ cvN U b k (cn k)) := by
 have hl := h.len
 have hfit : b + [((1, (k : Int), 0) : Hd)].length ≤ hs.length := by simp; omega
 have hhd : ∀ i, hd (splice hs b [(1, (k : Int), 0)]) i = if i = b then (1, (k : Int), 0) else hd hs i := by
  intro i
  unfold hd
  rw [Ycc hfit]
  simp only [List.length_singleton]
  by_cases e : i = b
  ·subst e; rw [if_pos (by omega), if_pos rfl]; simp
  ·rw [if_neg (by omega), if_neg e]
 have hun : ∀ i, i < cn k → U (cellN b k i) = false := fun i hi => h.free_unused (.inl h0) (Ybi hk hi)
 have hno : ∀ i, i < cn k → ¬ FHas L k ((cellN b k i : Nat) : Int) := by
  intro i hi hf
  obtain ⟨x, hx, ⟨b', i', h1, h2, h3, h4, h5⟩, _⟩ := (h.free.mem k hk _).1 (Yvr.2 hf)
  have h6 : cellN b k i = cellN b' k i' := by omega
  have := (Yr9 hk hi h4 h6).1
  subst this
  rw [h3] at h0
  simp at h0
 have hw' : ∀ {b0 n0}, WholeP hs b0 n0 → WholeP (splice hs b [(1, (k : Int), 0)]) b0 n0 := by
  intro b0 n0 hw
  refine hw.keep (Yah hfit) fun i h1 h2 => ?_
  rw [hhd, if_neg]
  intro e; subst e
  rcases hw.kind h1 h2 with ⟨_, h3⟩ | ⟨_, h3⟩ <;> omega
 have hacc : ∀ j, j < 32 → (accL (setN L k (L k ++ cvN U b k (cn k))) j 4).Perm (if j = k then accL L k 4 ++ cvN U b k (cn k) else accL L j 4) := by
  intro j hj
  by_cases e : j = k
  ·subst e
   rw [if_pos rfl]
   have := (Yf5 (L := L) (L' := setN L j (L j ++ cvN U b j (cn j))) (m := 0) (by omega) hj (fun i h1 _ => Yas _ _ h1) (l := cvN U b j (cn j)) (l' := []) (by
    rw [Yao, Yas _ _ (show ix 0 j ≠ j by unfold ix; omega), List.append_nil, List.append_assoc, List.append_assoc]
    exact List.Perm.append_left _ List.perm_append_comm)).1
   rw [List.append_nil] at this
   exact this.symm
  ·rw [if_neg e]
   have := (Yf5 (L := L) (L' := setN L k (L k ++ cvN U b k (cn k))) (m := 0) (by omega) hk (fun i h1 _ => Yas _ _ h1) (l := cvN U b k (cn k)) (l' := []) (by
    rw [Yao, Yas _ _ (show ix 0 k ≠ k by unfold ix; omega), List.append_nil, List.append_assoc, List.append_assoc]
    exact List.Perm.append_left _ List.perm_append_comm)).2 j hj e
   rw [this]
 have hsm : ∀ j, j < 32 → ∀ x, SmCell g (splice hs b [(1, (k : Int), 0)]) j x ↔ SmCell g hs j x ∨ (j = k ∧ ∃ i, i < cn k ∧ x = cellN b k i) := by
  intro j hj x
  constructor
  ·rintro ⟨b', i, h1, h2, h3, h4, rfl⟩
   rw [hhd] at h3
   by_cases e : b' = b
   ·subst e
    rw [if_pos rfl] at h3
    simp only [Prod.mk.injEq] at h3
    have : j = k := by omega
    subst this
    exact .inr ⟨rfl, i, h4, rfl⟩
   ·rw [if_neg e] at h3
    exact .inl ⟨b', i, h1, h2, h3, h4, rfl⟩
  ·rintro (⟨b', i, h1, h2, h3, h4, rfl⟩ | ⟨rfl, i, h4, rfl⟩)
   ·refine ⟨b', i, h1, h2, ?_, h4, rfl⟩
    rw [hhd, if_neg]
    ·exact h3
    ·intro e; subst e; rw [h3] at h0; simp at h0
   ·exact ⟨b, i, hb, hb2, by rw [hhd, if_pos rfl], h4, rfl⟩
 refine ⟨hno, hun, ⟨by rw [Yah hfit]; exact hl, h.two, h.big, fun x hx => ?_, ?_, fun b0 hb0 => ?_, fun b0 hb0 => ?_, fun x hx => ?_, ⟨fun j hj => ?_, fun j hj y => ?_⟩⟩, ?_⟩
 ·unfold splice at hx
  simp only [List.mem_append, List.mem_singleton] at hx
  rcases hx with (hx | rfl) | hx
  ·exact h.right x (List.mem_of_mem_take hx)
  ·exact .inr (.inl ⟨rfl, by simp only; omega, by simp only; omega, rfl⟩)
  ·exact h.right x (List.mem_of_mem_drop hx)
 ·rw [hhd, if_neg (by omega)]; exact h.zero
 ·rw [hhd] at hb0
  by_cases e : b0 = b
  ·rw [if_pos e] at hb0; simp at hb0
  ·rw [if_neg e] at hb0
   obtain ⟨n, hw⟩ := h.whole b0 hb0
   exact ⟨n, hw' hw⟩
 ·rw [hhd] at hb0
  by_cases e : b0 = b
  ·rw [if_pos e] at hb0; simp at hb0
  ·rw [if_neg e] at hb0
   obtain ⟨b1, n, hw, h1, h2⟩ := h.cont b0 hb0
   exact ⟨b1, n, hw' hw, h1, h2⟩
 ·rcases h.used x hx with ⟨j, hj, hc⟩ | ⟨b0, n, h1, hw, h2⟩
  ·exact .inl ⟨j, hj, (hsm j hj x).2 (.inl hc)⟩
  ·exact .inr ⟨b0, n, h1, hw' hw, h2⟩
 ·rw [(hacc j hj).nodup_iff]
  by_cases e : j = k
  ·subst e
   rw [if_pos rfl, List.nodup_append]
   refine ⟨h.free.nd j hj, Vc5 hj (by omega), fun y hy z hz => ?_⟩
   obtain ⟨i, h1, h2, h3, _⟩ := (Yvs (by omega)).1 hz
   intro e
   rw [e, h3] at hy
   exact hno i h2 (Yvr.1 hy)
  ·rw [if_neg e]; exact h.free.nd j hj
 ·rw [(hacc j hj).mem_iff]
  by_cases e : j = k
  ·subst e
   rw [if_pos rfl, List.mem_append, h.free.mem j hj, Yvs (by omega)]
   constructor
   ·rintro (⟨x, rfl, h1, h2⟩ | ⟨i, h1, h2, rfl, h3⟩)
    ·exact ⟨x, rfl, (hsm j hj x).2 (.inl h1), h2⟩
    ·exact ⟨_, rfl, (hsm j hj _).2 (.inr ⟨rfl, i, h2, rfl⟩), h3⟩
   ·rintro ⟨x, rfl, h1, h2⟩
    rcases (hsm j hj x).1 h1 with h1 | ⟨_, i, h3, rfl⟩
    ·exact .inl ⟨x, rfl, h1, h2⟩
    ·exact .inr ⟨i, by omega, h3, rfl, h2⟩
  ·rw [if_neg e, h.free.mem j hj]
   constructor
   ·rintro ⟨x, rfl, h1, h2⟩
    exact ⟨x, rfl, (hsm j hj x).2 (.inl h1), h2⟩
   ·rintro ⟨x, rfl, h1, h2⟩
    rcases (hsm j hj x).1 h1 with h1 | ⟨h3, _⟩
    ·exact ⟨x, rfl, h1, h2⟩
    ·exact absurd h3 e
 ·have := hacc k hk
  rw [if_pos rfl] at this
  exact this
theorem Yxq (L : Nat → List Int) {m : Nat} (hm : m < 4) {j : Nat} (hj : j < 32) : (accL (drF L m 32) j 4).Perm (accL L j 4) := by
 rw [List.perm_iff_count]
 intro y
 rw [Ypu, Ypu]
 have hg := fun x hx => Yr8 L hm 32 (by omega) x hx
 have h0 : drF L m 32 j = L j ++ L (ix m j) := by rw [hg j (by omega), if_pos hj, if_pos hj]
 have hc : ∀ m', m' < 4 → drF L m 32 (ix m' j) = if m' = m then [] else L (ix m' j) := by
  intro m' hm'
  rw [hg (ix m' j) (by unfold ix; omega), if_neg (by unfold ix; omega)]
  by_cases e : m' = m
  ·subst e; rw [if_pos (by unfold ix; omega), if_pos rfl]
  ·rw [if_neg (by unfold ix; omega), if_neg e]
 rw [h0, hc 0 (by omega), hc 1 (by omega), hc 2 (by omega), hc 3 (by omega), List.count_append]
 have : m = 0 ∨ m = 1 ∨ m = 2 ∨ m = 3 := by omega
 rcases this with rfl | rfl | rfl | rfl <;> simp <;> omega
section
variable {B : World} {P R : SL} {t : K}
theorem Vgq {a d g m0 k : Nat} {s : St} (hL : ∀ i, i < 160 → (s.L i).length ≤ 2 ^ 29) (hm : m0 < 4) (hk : k < 32) (he : s.L k = []) {kk : Int × Int → K}
  (h0 : accL s.L k 4 = [] → T B (R * Al a d g s) (kk (0, 4)))
  (h1 : ∀ x L', (accL s.L k 4).Perm (x :: accL L' k 4) → (∀ j, j < 32 → j ≠ k → (accL L' j 4).Perm (accL s.L j 4)) → T B (R * Al a d g { s with L := L' }) (kk (x, 0))) :
  T B (R * Al a d g s) (Yb5 (da a) m0 k kk) := by
 refine Yaq (Yid _ m0 k kk) ?_
 (dsimp only [Yf2, Zem0, Zem1, Zem2, Zem3, Zem4, Zem5, Zem6, Zem7, Zem8])
 refine Ycz (fun _ _ => R * Al a d g s) (fun n (z : Int × Unit) => ∃ i : Nat, z.1 = i ∧ i ≤ 4 ∧ n = 4 - i ∧ ∀ m, m < i → s.L (ix m k) = []) 4 rfl ⟨0, rfl, by omega, rfl, fun m h => by omega⟩ ?_
 rintro n ⟨z, u⟩ c ⟨i, e1, e2, e3, e4⟩ hc
 simp only at e1
 subst e1 e3
 (repeat' (with_reducible refine Yai (fun _ => ?_) (fun _ => ?_)))
 ·have hi : i < 4 := by omega
  refine Ycu fun m u f => ?_
  unfold da
  (repeat (first | with_reducible refine Yam ?_ | ((with_reducible apply Yaj); (focus rfl); (focus exact hasA); (focus rfl))))
  refine Yaa (X := Fl f s.L) (.init .last) ?_
  refine Vbs hi hk ?_
  (repeat' (first | with_reducible refine Yam ?_ | ((with_reducible apply Yaj); (focus rfl); (focus exact hasA); (focus rfl)) | with_reducible refine Yai (fun _ => ?_) (fun _ => ?_)))
  ·rename_i hpos
   have hne : s.L (ix i k) ≠ [] := fun h => by rw [h] at hpos; simp at hpos
   refine Yxo (fun j hj => by have := hL j hj; omega) hi ?_
   (repeat (first | with_reducible refine Yam ?_ | ((with_reducible apply Yaj); (focus rfl); (focus exact hasA); (focus rfl))))
   have hlen : ∀ j, j < 160 → (drF s.L i 32 j).length ≤ 2 ^ 30 := by
    intro j hj
    rw [Yr8 s.L hi 32 (by omega) j hj]
    split
    ·rw [List.length_append]
     have h1 := hL j hj
     have h2 := hL (ix i j) (by unfold ix; omega)
     omega
    ·split
     ·simp
     ·have h1 := hL j hj; omega
   have hdk : drF s.L i 32 k = s.L (ix i k) := by rw [Yr8 s.L hi 32 (by omega) k (by omega), if_pos hk, if_pos hk, he, List.nil_append]
   refine Yni hlen hm hk (fun h _ => ?_) (fun x L' ht hp => ?_)
   ·exfalso; rw [hdk] at h; exact hne h
   ·skip
    obtain ⟨p1, p2⟩ := Yf5 (L := drF s.L i 32) (L' := L') hm hk ht (l := []) (l' := [x]) (by rw [List.append_nil]; exact hp.trans (List.perm_append_singleton x _).symm)
    rw [List.append_nil] at p1
    have := h1 x L' (((Yxq s.L hi hk).symm.trans p1).trans (List.perm_append_singleton x _)) (fun j hj hjk => by rw [p2 j hj hjk]; exact Yxq s.L hi hj)
    exact T.perm (by unfold da; ac_rfl) (Yax (a := a) (m := m) (u := u) (f := f) (d := d) (g := g) (R := R) (s := { s with L := L' }) this)
  ·rename_i hpos
   have hz : s.L (ix i k) = [] := List.eq_nil_of_length_eq_zero (by omega)
   refine T.perm ?_ (Yax (a := a) (m := m) (u := u) (f := f) (d := d) (g := g) (R := R) (s := s) (hc (4 - (i + 1)) (IntKind.wrap .i64 ((i : Int) + 1), ()) (by omega) ⟨i + 1, w64 (by omega) (by omega), by omega, rfl, fun m' hm' => ?_⟩))
   ·unfold da; ac_rfl
   ·by_cases e : m' = i
    ·subst e; exact hz
    ·exact e4 m' (by omega)
 ·refine h0 ?_
  show (((s.L k ++ s.L (ix 0 k)) ++ s.L (ix 1 k)) ++ s.L (ix 2 k)) ++ s.L (ix 3 k) = []
  rw [he, e4 0 (by omega), e4 1 (by omega), e4 2 (by omega), e4 3 (by omega)]; rfl
end
section
set_option maxHeartbeats 1000000
theorem Vex {U : Nat → Bool} {b k : Nat} (h : ∀ i, i < cn k → U (cellN b k i) = false) : ∀ t, t ≤ cn k → (cvN U b k t).length = t := by
 intro t
 induction t with
 |zero => intro _; rfl
 |succ t ih =>
  intro ht
  simp only [cvN, List.length_append, ih (by omega)]
  rw [if_neg (by rw [h _ (by omega)]; simp)]; rfl
/-- a small object's cell: where it came from -/
structure RoomS (g : Nat) (s s' : St) (k x : Nat) : Prop where
 inv : Inv g s'.hs (uAdd s.U x) s'.L
 cell : SmCell g s'.hs k x
 un : s.U x = false
 u : s'.U = s.U
 other : ∀ j, j < 32 → j ≠ k → (accL s'.L j 4).length = (accL s.L j 4).length
 from_ : (s'.hs = s.hs ∧ s'.F = s.F ∧ s'.c = s.c ∧ (accL s.L k 4).length = (accL s'.L k 4).length + 1) ∨
  (∃ (b : Nat) (q : Int), 1 ≤ b ∧ b < g ∧ s.F b = some q ∧ 1 ≤ q ∧ (hd s.hs b).1 = 0 ∧ s'.hs = splice s.hs b [(1, (k : Int), 0)] ∧ s'.F = takeF s.F b 1 q ∧ s'.c = wrH s.c b [(1, (k : Int), 0)] ∧ (accL s'.L k 4).length + 1 = (accL s.L k 4).length + cn k)
section
variable {B : World} {P R : SL} {t : K}
theorem Yxr {a d g m0 k : Nat} {s : St} (inv : Inv g s.hs s.U s.L) (hm : m0 < 4) (hk : k < 32) {o : Ob} (ho : kOf (oSize o) = ((k : Int), true)) {kk : Int × Int → K}
  (h0 : accL s.L k 4 = [] → (∀ q r, s.F q = some r → r < 1) → T B (R * Al a d g s) (kk (0, 4)))
  (h1 : ∀ (x : Nat) s', RoomS g s s' k x → T B (R * Al a d g s') (kk ((x : Int), 0))) :
  T B (R * Al a d g s) (Yci (da a) m0 o kk) := by
 refine Yaq (Yff _ m0 o kk) ?_
 have hL := inv.free.lens inv.big
 have hL30 : ∀ i, i < 160 → (s.L i).length ≤ 2 ^ 30 := fun i hi => by have := hL i hi; omega
 (repeat (first | ((with_reducible apply Yaf); (focus rfl); (focus exact hasA); (focus rfl)) | (with_reducible refine Ya7 ?_; intro _)))
 rename_i bo
 refine Yfc ?_
 rw [show ((o.1, o.2) : Ob) = o from rfl, ho]
 (dsimp only [Yeh, Zef0, Zef1, Zef2, Zef3, Zef4, Zef5, Zef6, Zef7, Zef8, Zef9, Zef10, Zef11, Zef12, Zef13, Zef14, Zef15, Zef16, Zef17, Zef18, Zef19, Zef20, Zef21, Zef22])
 simp only [Bool.not_true]
 refine Yac .last ?_
 refine Ycu fun m u f => ?_
 unfold da
 (repeat (first | with_reducible refine Yam ?_ | with_reducible refine Yau ?_ | ((with_reducible apply Yaj); (focus rfl); (focus exact hasA); (focus rfl))))
 refine Yaa (X := Fl f s.L) (.init .last) ?_
 refine Yni hL30 hm hk (fun e1 e2 => ?_) (fun x L' ht hp => ?_)
 ·(repeat' (first | with_reducible refine Yam ?_ | ((with_reducible apply Yaj); (focus rfl); (focus exact hasA); (focus rfl)) | with_reducible refine Ybr (fun _ => ?_) (fun _ => ?_)))
  ·rename_i h; exact absurd h (by decide)
  refine Yaa (X := LDx d (64 * g) s.c) (.init (.init (.init (.init .last)))) ?_
  refine Yaa (X := Mg m d g s.hs s.F) (.init (.init (.init (.init .last)))) ?_
  refine Vc2 fun tie => ?_
  refine Yxl (n := 64 * g) rfl (by omega) (fun hno => ?_) (fun b q hb hb1 hb2 hq => ?_)
  ·(repeat' (first | with_reducible refine Ybr (fun _ => ?_) (fun _ => ?_) | with_reducible refine Yar (fun _ => ?_) (fun _ => ?_)))
   ·rename_i h; exact absurd h (by decide)
   ·rename_i h; exact absurd rfl h
   refine T.perm ?_ (Yax (a := a) (m := m) (u := u) (f := f) (d := d) (g := g) (R := R) (s := s) (t := Yb5 (da a) m0 k fun x86 => kk (x86.1, x86.2)) ?_)
   ·unfold da; ac_rfl
   refine Vgq hL hm hk e1 (fun he => ?_) (fun x L' hp ho => ?_)
   ·exact h0 he hno
   ·obtain ⟨n, rfl, q1, q2, q3⟩ := inv.take hk hp ho
    exact h1 n { s with L := L' } ⟨q3, q1, q2, rfl, fun j hj hjk => (ho j hj hjk).length_eq, .inl ⟨rfl, rfl, rfl, by rw [hp.length_eq]; rfl⟩⟩
  ·(repeat' (first | with_reducible refine Ybr (fun _ => ?_) (fun _ => ?_) | with_reducible refine Yar (fun _ => ?_) (fun _ => ?_)))
   ·have hfree : (hd s.hs b).1 = 0 := by
     have := (tie.fr b).1 ⟨(b : Int), q, hb, by omega, by omega⟩
     rw [Int.toNat_natCast] at this; exact this.2.2
    obtain ⟨g1, g2, g3, g4⟩ := inv.block hk hb1 hb2 hfree
    refine T.perm ?_ (Yax (a := a) (m := m) (u := u) (f := f) (d := d) (g := g) (R := R) (s := { s with hs := splice s.hs b [(1, (k : Int), 0)], F := takeF s.F b 1 q, c := wrH s.c b [(1, (k : Int), 0)] }) (t := Ybh (da a) b k fun x70 => Zef3 (da a) m0 kk k) ?_)
    ·unfold da; ac_rfl
    refine Vgp (s := { s with hs := splice s.hs b [(1, (k : Int), 0)], F := takeF s.F b 1 q, c := wrH s.c b [(1, (k : Int), 0)] }) inv.big hb1 hb2 hk hL g1 ?_
    refine Ycu fun m2 u2 f2 => ?_
    unfold da
    (repeat (first | with_reducible refine Yam ?_ | ((with_reducible apply Yaj); (focus rfl); (focus exact hasA); (focus rfl))))
    refine Yaa (X := Fl f2 (setN s.L k (s.L k ++ cvN s.U b k (cn k)))) (.init .last) ?_
    have hL' := g3.free.lens g3.big
    have hcv := Vex (U := s.U) (b := b) (k := k) g2 (cn k) (by omega)
    obtain ⟨_, _, _, _, _, hc2, _, _⟩ := Yjf k hk
    refine Yni (fun i hi => by have := hL' i hi; omega) hm hk (fun h _ => ?_) (fun x L' ht hp => ?_)
    ·exfalso
     rw [Yao] at h
     have := congrArg List.length h
     rw [List.length_append, hcv] at this
     simp at this; omega
    ·skip
     obtain ⟨p1, p2⟩ := Yf5 (L := setN s.L k (s.L k ++ cvN s.U b k (cn k))) (L' := L') hm hk ht (l := []) (l' := [x]) (by rw [List.append_nil]; exact hp.trans (List.perm_append_singleton x _).symm)
     rw [List.append_nil] at p1
     have p1 := p1.trans (List.perm_append_singleton x _)
     obtain ⟨n, rfl, q1, q2, q3⟩ := g3.take hk p1 (fun j hj hjk => by rw [p2 j hj hjk])
     have h2 := h1 n { hs := splice s.hs b [(1, (k : Int), 0)], F := takeF s.F b 1 q, c := wrH s.c b [(1, (k : Int), 0)], U := s.U, L := L' } ⟨q3, q1, q2, rfl, fun j hj hjk => by
       simp only
       rw [p2 j hj hjk]
       have := (Yf5 (L := s.L) (L' := setN s.L k (s.L k ++ cvN s.U b k (cn k))) (m := 0) (by omega) hk (fun i h1 _ => Yas _ _ h1) (l := cvN s.U b k (cn k)) (l' := []) (by
        rw [Yao, Yas _ _ (show ix 0 k ≠ k by unfold ix; omega), List.append_nil, List.append_assoc, List.append_assoc]
        exact List.Perm.append_left _ List.perm_append_comm)).2 j hj hjk
       rw [this], .inr ⟨b, q, hb1, hb2, hb, hq, hfree, rfl, rfl, rfl, by
       have e1 := p1.length_eq
       have e2 := g4.length_eq
       rw [List.length_append, hcv] at e2
       simp only [List.length_cons] at e1
       simp only; omega⟩⟩
     exact T.perm (by unfold da; ac_rfl) (Yax (a := a) (m := m2) (u := u2) (f := f2) (d := d) (g := g) (R := R) h2)
   all_goals (rename_i h h2; first | exact absurd rfl h | exact absurd rfl h2)
 ·obtain ⟨p1, p2⟩ := Yf5 (L := s.L) (L' := L') hm hk ht (l := []) (l' := [x]) (by rw [List.append_nil]; exact hp.trans (List.perm_append_singleton x _).symm)
  rw [List.append_nil] at p1
  have p1 := p1.trans (List.perm_append_singleton x _)
  obtain ⟨n, rfl, q1, q2, q3⟩ := inv.take hk p1 (fun j hj hjk => by rw [p2 j hj hjk])
  (repeat' (first | with_reducible refine Yam ?_ | ((with_reducible apply Yaj); (focus rfl); (focus exact hasA); (focus rfl)) | with_reducible refine Ybr (fun _ => ?_) (fun _ => ?_)))
  ·have h2 := h1 n { s with L := L' } ⟨q3, q1, q2, rfl, fun j hj hjk => by simp only; rw [p2 j hj hjk], .inl ⟨rfl, rfl, rfl, by rw [p1.length_eq]; rfl⟩⟩
   exact T.perm (by unfold da; ac_rfl) (Yax (a := a) (m := m) (u := u) (f := f) (d := d) (g := g) (R := R) h2)
  ·rename_i h; exact absurd rfl h
end
end
section
set_option maxHeartbeats 1000000
theorem Vgr : ∀ w : Nat, w < 257 → 1 ≤ w → ∃ k : Nat, k < 32 ∧ kOf (w : Int) = ((k : Int), true) ∧ w ≤ cw k := by decide +kernel
theorem Ysa {w : Int} (h1 : 1 ≤ w) (h2 : w ≤ 256) : ∃ k : Nat, k < 32 ∧ kOf w = ((k : Int), true) ∧ w ≤ cw k := by
 obtain ⟨n, rfl⟩ := Int.eq_ofNat_of_zero_le (show 0 ≤ w by omega)
 obtain ⟨k, a, b, c⟩ := Vgr n (by omega) (by omega)
 exact ⟨k, a, b, by omega⟩
theorem Yxs {w : Int} (h : ¬ (1 ≤ w ∧ w ≤ 256)) : kOf w = (0, false) := if_neg h
/-- a large object's blocks, taken -/
theorem Inv.large {g : Nat} {hs : List Hd} {U : Nat → Bool} {L : Nat → List Int} (h : Inv g hs U L) {b n : Nat} (hb : 1 ≤ b) (hn : 1 ≤ n) (hn2 : n < 256) (hb2 : b + n ≤ g) (h0 : ∀ i, b ≤ i → i < b + n → (hd hs i).1 = 0) :
  WholeP (splice hs b (runH n)) b n ∧ Inv g (splice hs b (runH n)) (uAdd U (b * 512)) L ∧ U (b * 512) = false := by
 have hl := h.len
 have hrl := Ycy n
 have hfit : b + (runH n).length ≤ hs.length := by omega
 have hhd : ∀ i, hd (splice hs b (runH n)) i = if b ≤ i ∧ i < b + n then (if i = b then (2, 0, (n : Int)) else (3, 0, ((i - b : Nat) : Int))) else hd hs i := by
  intro i
  unfold hd
  rw [Ycc hfit, hrl]
  by_cases e : b ≤ i ∧ i < b + n
  ·rw [if_pos e, if_pos e, List.getD_eq_getElem?_getD, Yq4 n (by omega)]
   by_cases e2 : i = b
   ·rw [if_pos (by omega), if_pos e2]; rfl
   ·rw [if_neg (by omega), if_neg e2]; rfl
  ·rw [if_neg e, if_neg e]
 have hwn : WholeP (splice hs b (runH n)) b n := by
  refine ⟨hn, by rw [Yah hfit]; omega, ?_, ?_, fun i h1 h2 => ?_⟩
  ·have := hhd b; unfold hd at this; rw [this, if_pos (by omega), if_pos rfl]
  ·have := hhd b; unfold hd at this; rw [this, if_pos (by omega), if_pos rfl]
  ·have := hhd (b + i); unfold hd at this; rw [this, if_pos (by omega), if_neg (by omega)]
   congr 2; omega
 have hw' : ∀ {b0 n0}, WholeP hs b0 n0 → WholeP (splice hs b (runH n)) b0 n0 := by
  intro b0 n0 hw
  refine hw.keep (Yah hfit) fun i h1 h2 => ?_
  rw [hhd, if_neg]
  intro e
  have := h0 i e.1 e.2
  rcases hw.kind h1 h2 with ⟨_, h3⟩ | ⟨_, h3⟩ <;> omega
 have hsm : ∀ j x, SmCell g (splice hs b (runH n)) j x ↔ SmCell g hs j x := by
  intro j x
  constructor
  ·rintro ⟨b', i, h1, h2, h3, h4, rfl⟩
   rw [hhd] at h3
   by_cases e : b ≤ b' ∧ b' < b + n
   ·rw [if_pos e] at h3
    split at h3 <;> simp at h3
   ·rw [if_neg e] at h3
    exact ⟨b', i, h1, h2, h3, h4, rfl⟩
  ·rintro ⟨b', i, h1, h2, h3, h4, rfl⟩
   refine ⟨b', i, h1, h2, ?_, h4, rfl⟩
   rw [hhd, if_neg]
   ·exact h3
   ·intro e
    have := h0 b' e.1 e.2
    rw [h3] at this; simp at this
 have hun : U (b * 512) = false := h.free_unused (.inl (h0 b (by omega) (by omega))) (by omega)
 refine ⟨hwn, ⟨by rw [Yah hfit]; exact hl, h.two, h.big, fun x hx => ?_, ?_, fun b0 hb0 => ?_, fun b0 hb0 => ?_, fun x hx => ?_, ⟨h.free.nd, fun j hj y => ?_⟩⟩, hun⟩
 ·unfold splice at hx
  simp only [List.mem_append] at hx
  rcases hx with (hx | hx) | hx
  ·exact h.right x (List.mem_of_mem_take hx)
  ·exact (Yps hn2 x hx).1
  ·exact h.right x (List.mem_of_mem_drop hx)
 ·rw [hhd, if_neg (by omega)]; exact h.zero
 ·rw [hhd] at hb0
  by_cases e : b ≤ b0 ∧ b0 < b + n
  ·rw [if_pos e] at hb0
   by_cases e2 : b0 = b
   ·subst e2; exact ⟨n, hwn⟩
   ·rw [if_neg e2] at hb0; simp at hb0
  ·rw [if_neg e] at hb0
   obtain ⟨n', hw⟩ := h.whole b0 hb0
   exact ⟨n', hw' hw⟩
 ·rw [hhd] at hb0
  by_cases e : b ≤ b0 ∧ b0 < b + n
  ·rw [if_pos e] at hb0
   by_cases e2 : b0 = b
   ·rw [if_pos e2] at hb0; simp at hb0
   ·exact ⟨b, n, hwn, by omega, by omega⟩
  ·rw [if_neg e] at hb0
   obtain ⟨b1, n', hw, h1, h2⟩ := h.cont b0 hb0
   exact ⟨b1, n', hw' hw, h1, h2⟩
 ·unfold uAdd at hx
  simp only [Bool.or_eq_true, beq_iff_eq] at hx
  rcases hx with rfl | hx
  ·exact .inr ⟨b, n, hb, hwn, rfl⟩
  ·rcases h.used x hx with ⟨j, hj, hc⟩ | ⟨b0, n0, h1, hw, h2⟩
   ·exact .inl ⟨j, hj, (hsm j x).2 hc⟩
   ·exact .inr ⟨b0, n0, h1, hw' hw, h2⟩
 ·rw [h.free.mem j hj]
  constructor
  ·rintro ⟨x, rfl, h1, h2⟩
   refine ⟨x, rfl, (hsm j x).2 h1, ?_⟩
   unfold uAdd
   have : x ≠ b * 512 := by
    intro e
    obtain ⟨b', i, g1, g2, g3, g4, g5⟩ := h1
    have e3 := Ybi (b := b') hj g4
    have : b' = b := by omega
    subst this
    have := h0 b' (by omega) (by omega)
    rw [g3] at this; simp at this
   simp [this, h2]
  ·rintro ⟨x, rfl, h1, h2⟩
   unfold uAdd at h2
   simp only [Bool.or_eq_false_iff] at h2
   exact ⟨x, rfl, (hsm j x).1 h1, h2.2⟩
/-- a large object's blocks: where they came from -/
structure RoomL (g : Nat) (s s' : St) (n x : Nat) : Prop where
 inv : Inv g s'.hs (uAdd s.U x) s'.L
 un : s.U x = false
 u : s'.U = s.U
 l : s'.L = s.L
 from_ : ∃ (b : Nat) (q : Int), x = b * 512 ∧ 1 ≤ b ∧ b + n ≤ g ∧ WholeP s'.hs b n ∧ s.F b = some q ∧ (n : Int) ≤ q ∧ (∀ r q', s.F r = some q' → (n : Int) ≤ q' → q < q' ∨ q = q' ∧ (b : Int) ≤ r) ∧
  s'.hs = splice s.hs b (runH n) ∧ s'.F = takeF s.F b n q ∧ s'.c = wrH s.c b (runH n)
section
variable {B : World} {P R : SL} {t : K}
theorem Yxt {a d g : Nat} {m0 : Int} {n : Nat} {s : St} (inv : Inv g s.hs s.U s.L) {o : Ob} (ho : kOf (oSize o) = (0, false)) (hn : oBlocks o = n) (hn1 : 1 ≤ n) (hn2 : n < 256) {kk : Int × Int → K}
  (h0 : (∀ q r, s.F q = some r → r < n) → T B (R * Al a d g s) (kk (0, 4)))
  (h1 : ∀ (x : Nat) s', RoomL g s s' n x → T B (R * Al a d g s') (kk ((x : Int), 0))) :
  T B (R * Al a d g s) (Yci (da a) m0 o kk) := by
 refine Yaq (Yff _ m0 o kk) ?_
 have hg := inv.big
 (repeat (first | ((with_reducible apply Yaf); (focus rfl); (focus exact hasA); (focus rfl)) | (with_reducible refine Ya7 ?_; intro _)))
 rename_i bo
 refine Yfc ?_
 rw [show ((o.1, o.2) : Ob) = o from rfl, ho]
 (dsimp only [Yeh, Zef0, Zef1, Zef2, Zef3, Zef4, Zef5, Zef6, Zef7, Zef8, Zef9, Zef10, Zef11, Zef12, Zef13, Zef14, Zef15, Zef16, Zef17, Zef18, Zef19, Zef20, Zef21, Zef22])
 simp only [Bool.not_false]
 refine Yaa (X := Al a d g s) (.init .last) ?_
 refine Ycu fun m u f => ?_
 unfold da
 (repeat (first | with_reducible refine Yam ?_ | with_reducible refine Yak ?_ | with_reducible refine Yal ?_ | ((with_reducible apply Yaf); (focus rfl); (focus exact hasA); (focus rfl)) | ((with_reducible apply Yaj); (focus rfl); (focus exact hasA); (focus rfl))))
 refine Yme ?_
 rw [show ((o.1, o.2) : Ob) = o from rfl, hn]
 (repeat (first | with_reducible refine Ybe ?_ | ((with_reducible apply Ycm); (focus rfl); (focus exact hasA); (focus rfl))))
 refine Yaa (X := LDx d (64 * g) s.c) (.init (.init (.init (.init .last)))) ?_
 refine Yaa (X := Mg m d g s.hs s.F) (.init (.init (.init (.init .last)))) ?_
 refine Vc2 fun tie => ?_
 refine Yxm (n := 64 * g) rfl ⟨hn1, hn2⟩ (fun hno => ?_) (fun b q hb hq hmin hb1 hb2 => ?_)
 ·(repeat' (first | with_reducible refine Yam ?_ | ((with_reducible apply Yaf); (focus rfl); (focus exact hasA); (focus rfl)) | with_reducible refine Yar (fun _ => ?_) (fun _ => ?_)))
  ·refine Yac (.init (.init (.init (.init (.init .last))))) ?_
   exact T.perm (by unfold da; ac_rfl) (Yax (a := a) (m := m) (u := u) (f := f) (d := d) (g := g) (R := R) (s := s) (h0 hno))
  ·rename_i h; exact absurd h (by decide)
 ·(repeat' (first | with_reducible refine Yam ?_ | ((with_reducible apply Yaf); (focus rfl); (focus exact hasA); (focus rfl)) | with_reducible refine Yar (fun _ => ?_) (fun _ => ?_)))
  ·rename_i h; exact absurd rfl h
  refine Yhd (by omega) ?_
  have hf : first g (b : Int) = ((b * 512 : Nat) : Int) := by unfold first; rw [if_neg (by omega)]; omega
  rw [hf]
  have hfree : ∀ i, b ≤ i → i < b + n → (hd s.hs i).1 = 0 := by
   intro i h1 h2
   have := (tie.fr i).1 ⟨(b : Int), q, hb, by omega, by omega⟩
   rw [Int.toNat_natCast] at this; exact this.2.2
  obtain ⟨w1, w2, w3⟩ := inv.large hb1 hn1 hn2 hb2 hfree
  have h2 := h1 (b * 512) { s with hs := splice s.hs b (runH n), F := takeF s.F b n q, c := wrH s.c b (runH n) } ⟨w2, w3, rfl, rfl, b, q, rfl, hb1, hb2, w1, hb, hq, hmin, rfl, rfl, rfl⟩
  refine Yac (.init (.init (.init (.init (.init .last))))) ?_
  exact T.perm (by unfold da; ac_rfl) (Yax (a := a) (m := m) (u := u) (f := f) (d := d) (g := g) (R := R) h2)
end
end
section
set_option maxHeartbeats 1000000
def RoomR (g : Nat) (s : St) (o : Ob) (s1 : St) (x : Nat) : Prop :=
 (∃ k : Nat, k < 32 ∧ kOf (oSize o) = ((k : Int), true) ∧ oSize o ≤ cw k ∧ RoomS g s s1 k x) ∨ (∃ n : Nat, kOf (oSize o) = (0, false) ∧ oBlocks o = n ∧ 1 ≤ n ∧ n < 256 ∧ RoomL g s s1 n x)
def made (s1 : St) (o : Ob) (x : Nat) : St := { s1 with c := (zerN s1.c x (oSize o).toNat).set x (oenc x o), U := uAdd s1.U x }
def NoRoom (s : St) (o : Ob) : Prop :=
 (∃ k : Nat, k < 32 ∧ kOf (oSize o) = ((k : Int), true) ∧ accL s.L k 4 = [] ∧ ∀ q r, s.F q = some r → r < 1) ∨ (∃ n : Nat, kOf (oSize o) = (0, false) ∧ oBlocks o = n ∧ 1 ≤ n ∧ n < 256 ∧ ∀ q r, s.F q = some r → r < n)
theorem RoomR.inv {g : Nat} {s s1 : St} {o : Ob} {x : Nat} (h : RoomR g s o s1 x) : Inv g s1.hs (uAdd s.U x) s1.L ∧ s.U x = false ∧ s1.U = s.U := by
 rcases h with ⟨k, _, _, _, h⟩ | ⟨n, _, _, _, _, h⟩
 ·exact ⟨h.inv, h.un, h.u⟩
 ·exact ⟨h.inv, h.un, h.u⟩
theorem RoomR.fits {g : Nat} {s s1 : St} {o : Ob} {x : Nat} (h : RoomR g s o s1 x) (h1 : oSize o ≠ 0) : (x : Int) + oSize o ≤ 512 * g ∧ 512 ≤ x := by
 have hr := Yem o
 rcases h with ⟨k, hk, hko, hs, h⟩ | ⟨n, hk, hb, _, _, h⟩
 ·obtain ⟨b, i, h1, h2, h3, h4, rfl⟩ := h.cell
  have := Yep (b := b) hk h4
  omega
 ·obtain ⟨b, q, rfl, h1, h2, h3, _⟩ := h.from_
  unfold oBlocks at hb
  have : ¬ (1 ≤ oSize o ∧ oSize o ≤ 256) := by
   intro hh
   unfold kOf at hk
   rw [if_pos hh] at hk
   simp at hk
  rw [if_neg this] at hb
  omega
theorem HLs.made {n x z : Nat} {v : Int} {c la : List Int} (hx : 512 ≤ x) (hn : n / 64 ≤ 256) (h : HLs n c la) : HLs n ((zerN c x z).set x v) la := by
 intro i h1 h2
 rw [h i h1 h2, List.getElem?_set, if_neg (by omega), Yq2, if_neg (by omega)]
section
variable {B : World} {P R : SL} {t : K}
theorem Vgs {a d g : Nat} {s : St} (inv : Inv g s.hs s.U s.L) {m p q : Int} {kk : Int × Int → K} (hg8 : (g - 1 : Nat) * 512 < 255 * 512)
  (hA : ¬ (0 ≤ m ∧ m < 4) → T B (R * Al a d g s) (kk (0, 1)))
  (hS : 0 ≤ m → m < 4 → (oSize (p, q) = 0 ∨ ((g : Int) - 1) * 512 < oSize (p, q)) → T B (R * Al a d g s) (kk (0, 5)))
  (h0 : 0 ≤ m → m < 4 → oSize (p, q) ≠ 0 → oSize (p, q) ≤ ((g : Int) - 1) * 512 → NoRoom s (p, q) → T B (R * Al a d g s) (kk (0, 4)))
  (h1 : 0 ≤ m → m < 4 → oSize (p, q) ≠ 0 → oSize (p, q) ≤ ((g : Int) - 1) * 512 → ∀ (x : Nat) s1, RoomR g s (p, q) s1 x → T B (R * Al a d g (made s1 (p, q) x)) (kk ((x : Int), 0))) :
  T B (R * Al a d g s) (Yb3 (da a) m p q kk) := by
 refine Yaq (Yia _ m p q kk) ?_
 have hg := inv.big
 have hg2 := inv.two
 have hr := Yem (p, q)
 (repeat' (first | with_reducible refine Yak ?_ | with_reducible refine Yal ?_ | ((with_reducible apply Yaf); (focus rfl); (focus exact hasA); (focus rfl)) | (with_reducible refine Ya7 ?_; intro _) | ((with_reducible apply Ybc); (focus rfl); (focus exact updA); (focus simp); simp only [List.set, Nat.zero_add, Nat.reduceAdd]) | with_reducible refine Yai (fun _ => ?_) (fun _ => ?_)))
 ·refine Yac .last ?_
  exact hA (by omega)
 ·refine Yac .last ?_
  exact hA (by omega)
 rename_i b hm1 hm2
 refine Ydw ?_
 (repeat' (first | with_reducible refine Yal ?_ | ((with_reducible apply Yaf); (focus rfl); (focus exact hasA); (focus rfl)) | with_reducible refine Ybr (fun _ => ?_) (fun _ => ?_)))
 ·rename_i hz
  refine Yac .last ?_
  exact hS (by omega) (by omega) (.inl hz)
 rename_i hz
 refine Yaa (X := Al a d g s) (.init .last) ?_
 -- the heap's geometry
 have rest : T B (R * pt b (.cells [.int .i64 p, .int .i64 q].toArray 68) * Al a d g s) (Zdz12 (da a) m kk ⟨b, 0, none⟩ (decide (oSize (p, q) > max 0 ((g : Int) - 1) * 512))) := by
  (repeat' (first | ((with_reducible apply Yaf); (focus rfl); (focus exact hasA); (focus rfl)) | with_reducible refine Yai (fun _ => ?_) (fun _ => ?_)))
  ·rename_i hgt
   refine Yac (.init .last) ?_
   exact hS (by omega) (by omega) (.inr (by omega))
  rename_i hle
  have hle2 : oSize (p, q) ≤ ((g : Int) - 1) * 512 := by omega
  obtain ⟨m0, rfl⟩ := Int.eq_ofNat_of_zero_le (show 0 ≤ m by omega)
  have h0' := h0 (by omega) (by omega) hz hle2
  have h1' := h1 (by omega) (by omega) hz hle2
  -- behind the room
  have fin : ∀ (x : Nat) s1, RoomR g s (p, q) s1 x → T B (R * pt b (.cells [.int .i64 p, .int .i64 q].toArray 68) * Al a d g s1) (Zdz8 (da a) kk ⟨b, 0, none⟩ (x : Int) 0) := by
   intro x s1 hrr
   have hkk := h1' x s1 hrr
   obtain ⟨f1, f2⟩ := hrr.fits hz
   obtain ⟨_, hun, hu⟩ := hrr.inv
   (repeat' (first | with_reducible refine Yak ?_ | with_reducible refine Yar (fun _ => ?_) (fun _ => ?_)))
   ·rename_i h; exact absurd rfl h
   refine Yaa (X := Al a d g s1) .last ?_
   refine Ycu fun mm u f => ?_
   unfold da
   (repeat (first | with_reducible refine Yam ?_ | ((with_reducible apply Yaf); (focus rfl); (focus exact hasA); (focus rfl)) | ((with_reducible apply Yaj); (focus rfl); (focus exact hasA); (focus rfl))))
   refine Yaa (X := LDx d (64 * g) s1.c) (.init (.init (.init (.init .last)))) ?_
   refine Ygq fun la hla => ?_
   refine Yvm (o := (p, q)) hz (by omega) ?_
   (repeat' (first | with_reducible refine Yam ?_ | ((with_reducible apply Yaj); (focus rfl); (focus exact hasA); (focus rfl)) | with_reducible refine Yar (fun _ => ?_) (fun _ => ?_)))
   ·rename_i h; exact absurd rfl h
   refine Yg6 (hla.made (by omega) (by omega)) ?_
   refine Yaa (X := Bm u (512 * g) s1.U) (.init (.init (.init .last))) ?_
   refine Yf0 (fun h => ?_) (fun _ _ _ => ?_)
   ·exact absurd ⟨by omega, by omega, by rw [Int.toNat_natCast, hu]; exact hun⟩ h
   rw [Int.toNat_natCast]
   refine Yac (.init (.init (.init (.init (.init .last))))) ?_
   exact T.perm (by unfold da; ac_rfl) (Yax (a := a) (m := mm) (u := u) (f := f) (d := d) (g := g) (R := R) (s := made s1 (p, q) x) hkk)
  skip
  by_cases hsm : oSize (p, q) ≤ 256
  ·obtain ⟨k, k1, k2, k3⟩ := Ysa (w := oSize (p, q)) (by omega) hsm
   refine Yxr inv (by omega) k1 k2 (fun e1 e2 => ?_) (fun x s1 h => ?_)
   ·(repeat' (first | with_reducible refine Yak ?_ | with_reducible refine Yar (fun _ => ?_) (fun _ => ?_)))
    ·refine Yac (.init .last) ?_
     exact h0' (.inl ⟨k, k1, k2, e1, e2⟩)
    ·rename_i h; exact absurd h (by decide)
   ·exact fin x s1 (.inl ⟨k, k1, k2, k3, h⟩)
  ·have k2 := Yxs (w := oSize (p, q)) (by omega)
   obtain ⟨n, hn⟩ := Int.eq_ofNat_of_zero_le (show 0 ≤ oBlocks (p, q) by unfold oBlocks; split <;> omega)
   have hb : oBlocks (p, q) = (oSize (p, q) + 511) / 512 := by unfold oBlocks; rw [if_neg (by omega)]
   refine Yxt (n := n) inv k2 hn (by omega) (by omega) (fun e1 => ?_) (fun x s1 h => ?_)
   ·(repeat' (first | with_reducible refine Yak ?_ | with_reducible refine Yar (fun _ => ?_) (fun _ => ?_)))
    ·refine Yac (.init .last) ?_
     exact h0' (.inr ⟨n, k2, hn, by omega, by omega, e1⟩)
    ·rename_i h; exact absurd h (by decide)
   ·exact fin x s1 (.inr ⟨n, k2, hn, by omega, by omega, h⟩)
 refine Ycu fun mm u f => ?_
 unfold da
 (repeat (first | with_reducible refine Yam ?_ | ((with_reducible apply Yaf); (focus rfl); (focus exact hasA); (focus rfl))))
 refine Ydw ?_
 (repeat (first | with_reducible refine Ybe ?_ | ((with_reducible apply Ycm); (focus rfl); (focus exact hasA); (focus rfl))))
 refine Yy1 (by omega) (by omega) ?_
 exact T.perm (by unfold da; ac_rfl) (Yax (a := a) (m := mm) (u := u) (f := f) (d := d) (g := g) (s := s) rest)
end
end
section
set_option maxHeartbeats 1000000
/-- an object stands at an address -/
def PlOk (c : List Int) (n : Nat) (hs : List Hd) (g at_ : Int) (o : Ob) : Prop := oHead c n at_ = (o, 0) ∧ 1 ≤ blockOf g at_ ∧ blockOf g at_ < hs.length ∧
 ((∃ k : Nat, k < 32 ∧ kOf (oSize o) = ((k : Int), true) ∧ (cellOf g k at_).2 = true ∧ hd hs (blockOf g at_).toNat = (1, (k : Int), 0)) ∨
  (kOf (oSize o) = (0, false) ∧ ∃ m : Nat, WholeP hs (blockOf g at_).toNat m ∧ at_ = first g (blockOf g at_) ∧ (m : Int) = oBlocks o))
section
variable {B : World} {P R : SL} {t : K}
theorem Vey {d n : Nat} {c : List Int} {g at_ : Int} {hs : List Hd} {x : Sl} (hg : 0 ≤ g) (hg2 : g ≤ 2 ^ 20) (hl : hs.length ≤ 2 ^ 20) (hx : Rd R x 3 (hds hs)) {kk : Ob × Bool → K}
  (h1 : ∀ o, PlOk c n hs g at_ o → T B (R * LDx d n c) (kk (o, true))) (h0 : (∀ o, ¬ PlOk c n hs g at_ o) → ∀ o, T B (R * LDx d n c) (kk (o, false))) :
  T B (R * LDx d n c) (Yhk (da d) g x at_ kk) := by
 refine Yaq (Yrv _ g x at_ kk) ?_
 refine Ya1 hx.init fun hxn => ?_
 rw [Ydo] at hxn
 have hxl : x.n = hs.length := by omega
 (repeat (first | ((with_reducible apply Yaf); (focus rfl); (focus exact hasA); (focus rfl)) | (with_reducible refine Ya7 ?_; intro _)))
 refine Yfp (by omega) (by omega) ?_
 (repeat' (first | with_reducible refine Yal ?_ | ((with_reducible apply Yaf); (focus rfl); (focus exact hasA); (focus rfl)) | ((with_reducible apply Ybc); (focus rfl); (focus exact updA); (focus simp); simp only [List.set, Nat.zero_add, Nat.reduceAdd]) | with_reducible refine Yai (fun _ => ?_) (fun _ => ?_)))
 ·rename_i b3 b4 hlt
  refine Yac .last (Yac .last ?_)
  exact h0 (fun o ho => by have := ho.2.1; omega) _
 ·rename_i b3 b4 hn1 hlt
  refine Yac .last (Yac .last ?_)
  exact h0 (fun o ho => by have := ho.2.2.1; omega) _
 rename_i b3 b4 hb1 hb2
 obtain ⟨b, hb⟩ := Int.eq_ofNat_of_zero_le (show 0 ≤ blockOf g at_ by omega)
 have hlt : b < hs.length := by omega
 have hhd : hd hs b = hs[b] := Ynf hlt _
 refine Yaa (X := LDx d n c) (.init (.init .last)) ?_
 refine Ygq fun la hla => ?_
 refine Yjc ?_
 refine Yg6 hla ?_
 generalize hoh : oHead c n at_ = oe
 obtain ⟨⟨o1, o2⟩, e⟩ := oe
 simp only
 (repeat' (first | ((with_reducible apply Yaf); (focus rfl); (focus exact hasA); (focus rfl)) | (with_reducible refine Ya7 ?_; intro _) | ((with_reducible apply Ybc); (focus rfl); (focus exact updA); (focus simp); simp only [List.set, Nat.zero_add, Nat.reduceAdd]) | with_reducible refine Yar (fun _ => ?_) (fun _ => ?_)))
 ·rename_i b2 hne
  refine Yac .last ?_
  refine Yac (.init .last) (Yac (.init .last) ?_)
  exact h0 (fun o ho => by rw [ho.1] at hoh; simp only [Prod.mk.injEq] at hoh; exact hne hoh.2.symm) _
 rename_i b2 he
 subst he
 rw [hb]
 refine Ys8 (l := hs) hx.init.init.init.init (by omega) (by rw [Int.toNat_natCast]; exact hlt) fun a ha => ?_
 simp only [Int.toNat_natCast] at ha
 refine Ycv ha rfl ?_
 refine Ycv ha rfl ?_
 refine Ycv ha rfl ?_
 (repeat (first | ((with_reducible apply Yaf); (focus rfl); (focus exact hasA); (focus rfl)) | (with_reducible refine Ya7 ?_; intro _) | ((with_reducible apply Ybc); (focus rfl); (focus exact updA); (focus simp); simp only [List.set, Nat.zero_add, Nat.reduceAdd])))
 refine Yfc ?_
 by_cases hs1 : 1 ≤ oSize (o1, o2) ∧ oSize (o1, o2) ≤ 256
 ·obtain ⟨k, k1, k2, k3⟩ := Ysa hs1.1 hs1.2
  rw [k2]
  (repeat (first | with_reducible refine Yal ?_ | ((with_reducible apply Yaf); (focus rfl); (focus exact hasA); (focus rfl))))
  refine Vbh (by omega) (by omega) ?_
  generalize hce : cellOf g k at_ = ce
  obtain ⟨⟨c1, c2⟩, cb⟩ := ce
  have hno : (cb = true → hs[b] = (1, (k : Int), 0) → False) → ∀ o, ¬ PlOk c n hs g at_ o := by
   intro hn o ho
   obtain ⟨g1, g2, g3, g4⟩ := ho
   rw [hoh] at g1
   simp only [Prod.mk.injEq, and_true] at g1
   subst g1
   rcases g4 with ⟨k', h1', h2', h3', h4'⟩ | ⟨h2', _⟩
   ·rw [k2] at h2'
    simp only [Prod.mk.injEq, Int.natCast_inj, and_true] at h2'
    subst h2'
    rw [hce] at h3'
    rw [hb, Int.toNat_natCast, hhd] at h4'
    exact hn h3' h4'
   ·rw [k2] at h2'; simp at h2'
  cases cb
  ·(repeat (first | with_reducible refine Yak ?_ | with_reducible refine Yau ?_ | ((with_reducible apply Yaf); (focus rfl); (focus exact hasA); (focus rfl)) | (with_reducible refine Ya7 ?_; intro _) | ((with_reducible apply Ybc); (focus rfl); (focus exact updA); (focus simp); simp only [List.set, Nat.zero_add, Nat.reduceAdd])))
   refine Yaa (X := LDx d n c) (by exact frmA) ?_
   repeat refine Yac (.init .last) ?_
   exact h0 (hno fun h => by cases h) _
  ·(repeat (first | with_reducible refine Yak ?_ | with_reducible refine Yal ?_ | with_reducible refine Ybe ?_ | ((with_reducible apply Yaf); (focus rfl); (focus exact hasA); (focus rfl)) | (with_reducible refine Ya7 ?_; intro _) | ((with_reducible apply Ybc); (focus rfl); (focus exact updA); (focus simp); simp only [List.set, Nat.zero_add, Nat.reduceAdd]) | ((with_reducible apply Ycm); (focus rfl); (focus exact hasA); (focus rfl))))
   refine Yaa (X := LDx d n c) (by exact frmA) ?_
   repeat refine Yac (.init .last) ?_
   by_cases hq : hs[b] = (1, (k : Int), 0)
   ·rw [hq]
    simp only [BEq.rfl, Bool.and_true]
    exact h1 (o1, o2) ⟨hoh, by omega, by omega, .inl ⟨k, k1, k2, by rw [hce], by rw [hb, Int.toNat_natCast, hhd, hq]⟩⟩
   ·have : (hs[b].1 == 1 && (hs[b].2.1 == (k : Int) && (hs[b].2.2 == 0 && true))) = false := by
     cases hc2 : (hs[b].1 == 1 && (hs[b].2.1 == (k : Int) && (hs[b].2.2 == 0 && true))) with
     |false => rfl
     |true =>
      simp only [Bool.and_eq_true, beq_iff_eq, Bool.and_true] at hc2
      exact absurd (Prod.ext hc2.1 (Prod.ext hc2.2.1 hc2.2.2)) hq
    rw [this]
    exact h0 (hno fun _ h => hq h) _
 ·have k2 := Yxs hs1
  rw [k2]
  (repeat (with_reducible refine Yau ?_))
  have hno : (∀ m : Nat, WholeP hs b m → at_ = first g (b : Int) → (m : Int) = oBlocks (o1, o2) → False) → ∀ o, ¬ PlOk c n hs g at_ o := by
   intro hn o ho
   obtain ⟨g1, g2, g3, g4⟩ := ho
   rw [hoh] at g1
   simp only [Prod.mk.injEq, and_true] at g1
   subst g1
   rcases g4 with ⟨k', h1', h2', h3', h4'⟩ | ⟨h2', m, h3', h4', h5'⟩
   ·rw [k2] at h2'; simp at h2'
   ·rw [hb] at h3' h4'
    exact hn m h3' h4' h5'
  refine Yvp (hs := hs) (by omega) (by omega) hx.init.init.init.init.init (fun bb m e1 hw => ?_) (fun hw => ?_)
  ·have e2 : bb = b := by omega
   subst e2
   (repeat (first | with_reducible refine Yak ?_ | with_reducible refine Yal ?_ | ((with_reducible apply Yaf); (focus rfl); (focus exact hasA); (focus rfl))))
   refine Yhd (by omega) ?_
   (repeat' (first | with_reducible refine Ybe ?_ | ((with_reducible apply Yaf); (focus rfl); (focus exact hasA); (focus rfl)) | ((with_reducible apply Ybc); (focus rfl); (focus exact updA); (focus simp); simp only [List.set, Nat.zero_add, Nat.reduceAdd]) | ((with_reducible apply Ycm); (focus rfl); (focus exact hasA); (focus rfl)) | with_reducible refine Ybr (fun _ => ?_) (fun _ => ?_)))
   ·rename_i hf
    refine Yme ?_
    (repeat (first | with_reducible refine Ybe ?_ | ((with_reducible apply Yaf); (focus rfl); (focus exact hasA); (focus rfl)) | ((with_reducible apply Ybc); (focus rfl); (focus exact updA); (focus simp); simp only [List.set, Nat.zero_add, Nat.reduceAdd]) | ((with_reducible apply Ycm); (focus rfl); (focus exact hasA); (focus rfl))))
    refine Yaa (X := LDx d n c) (by exact frmA) ?_
    repeat refine Yac (.init .last) ?_
    by_cases hq : (m : Int) = oBlocks (o1, o2)
    ·rw [← hq]
     simp only [BEq.rfl]
     exact h1 (o1, o2) ⟨hoh, by omega, by omega, .inr ⟨k2, m, by rw [hb]; exact hw, by rw [hb]; exact hf, hq⟩⟩
    ·have : ((m : Int) == oBlocks (o1, o2)) = false := by simpa using hq
     rw [this]
     exact h0 (hno fun m' h1' h2' h3' => hq (by have := hw.uniq h1'; subst this; exact h3')) _
   ·rename_i hf
    refine Yaa (X := LDx d n c) (by exact frmA) ?_
    repeat refine Yac (.init .last) ?_
    exact h0 (hno fun m' h1' h2' h3' => hf h2') _
  ·(repeat (first | with_reducible refine Yak ?_ | with_reducible refine Yau ?_ | ((with_reducible apply Yaf); (focus rfl); (focus exact hasA); (focus rfl)) | ((with_reducible apply Ybc); (focus rfl); (focus exact updA); (focus simp); simp only [List.set, Nat.zero_add, Nat.reduceAdd])))
   refine Yaa (X := LDx d n c) (by exact frmA) ?_
   repeat refine Yac (.init .last) ?_
   exact h0 (hno fun m' h1' h2' h3' => hw b m' rfl h1') _
theorem Vgt {a d g : Nat} {s : St} {at_ : Int} (inv : Inv g s.hs s.U s.L) {kk : Ob × Bool → K}
  (h1 : ∀ o, PlOk s.c (64 * g) s.hs g at_ o → T B (R * Al a d g s) (kk (o, true))) (h0 : (∀ o, ¬ PlOk s.c (64 * g) s.hs g at_ o) → ∀ o, T B (R * Al a d g s) (kk (o, false))) :
  T B (R * Al a d g s) (Yb4 (da a) at_ kk) := by
 refine Yaq (Yib _ at_ kk) ?_
 have hg := inv.big
 have hl := inv.len
 refine Ycu fun m u f => ?_
 unfold da
 (repeat (first | with_reducible refine Yam ?_ | with_reducible refine Yak ?_ | ((with_reducible apply Yaf); (focus rfl); (focus exact hasA); (focus rfl)) | ((with_reducible apply Yaj); (focus rfl); (focus exact hasA); (focus rfl)) | (with_reducible refine Ya7 ?_; intro _)))
 rename_i b0
 refine Yaa (X := Mg m d g s.hs s.F) (by exact frmA) ?_
 refine Yhu fun tt x tie => ?_
 unfold da
 (repeat (((with_reducible apply Yaj); (focus rfl); (focus exact hasA); (focus rfl))))
 refine Yaa (X := Tab tt d g s.hs) (by exact frmA) ?_
 refine Yp8 (by omega) fun sl => ?_
 (repeat (first | with_reducible refine Ybe ?_ | ((with_reducible apply Ycm); (focus rfl); (focus exact hasA); (focus rfl))))
 refine Yaa (X := LDx d (64 * g) s.c) (by exact frmA) ?_
 have cl : ∀ (o : Ob) (b : Bool), T B (R * Al a d g s) (kk (o, b)) → T B (R * Bm u (512 * g) s.U * Fl f s.L * pt a (.cells [.pointer (some ⟨m, 0, none⟩), .pointer (some ⟨d, 0, none⟩), .int .i64 g, .pointer (some ⟨u, 0, none⟩), .pointer (some ⟨f, 0, none⟩)].toArray 47) * pt b0 (.cells [.int .i64 o.1, .int .i64 o.2].toArray 68) * Idx x g s.F * pt m (.cells [.pointer (some ⟨tt, 0, none⟩), .pointer (some ⟨x, 0, none⟩), .int .i64 g].toArray 51) * Tab tt d g s.hs * vec 143 3 sl (hds s.hs) * LDx d (64 * g) s.c) (kk (o, b)) := by
  intro o b h
  have h2 := Yax (m := m) (u := u) (f := f) h
  have h3 : T B (R * LDx d (64 * g) s.c * Bm u (512 * g) s.U * Fl f s.L * pt a (.cells [.pointer (da m), .pointer (da d), .int .i64 g, .pointer (da u), .pointer (da f)].toArray 47) * Mg m d g s.hs s.F) (kk (o, b)) := T.perm (by ac_rfl) h2
  have h4 := Yfq (a := tt) (x := x) tie h3
  refine Yac (.init .last) ?_
  refine Yac (by exact frmA : Frm _ (pt b0 (.cells [.int .i64 o.1, .int .i64 o.2].toArray 68)) _) ?_
  exact T.perm (by unfold da; ac_rfl) h4
 refine Vey (by omega) (by omega) (by omega) (Rd.vec (E := 143) (s := sl) .last) (fun o ho => ?_) (fun hno o => ?_)
 ·(repeat (first | ((with_reducible apply Yaf); (focus rfl); (focus exact hasA); (focus rfl)) | ((with_reducible apply Ybc); (focus rfl); (focus exact updA); (focus simp); simp only [List.set, Nat.zero_add, Nat.reduceAdd])))
  exact T.perm (by ac_rfl) (cl o true (h1 o ho))
 ·(repeat (first | ((with_reducible apply Yaf); (focus rfl); (focus exact hasA); (focus rfl)) | ((with_reducible apply Ybc); (focus rfl); (focus exact updA); (focus simp); simp only [List.set, Nat.zero_add, Nat.reduceAdd])))
  exact T.perm (by ac_rfl) (cl o false (h0 hno o))
end
end
section
set_option maxHeartbeats 1000000
theorem Inv.freeS {g : Nat} {hs : List Hd} {U : Nat → Bool} {L L' : Nat → List Int} (h : Inv g hs U L) {k x : Nat} (hk : k < 32) (hc : SmCell g hs k x) (hu : U x = true) (hp : (accL L' k 4).Perm ((x : Int) :: accL L k 4)) (ho : ∀ j, j < 32 → j ≠ k → (accL L' j 4).Perm (accL L j 4)) :
  Inv g hs (uDrop U x) L' := by
 refine ⟨h.len, h.two, h.big, h.right, h.zero, h.whole, h.cont, fun z hz => ?_, ⟨fun j hj => ?_, fun j hj y => ?_⟩⟩
 ·unfold uDrop at hz
  simp only [Bool.and_eq_true] at hz
  exact h.used z hz.2
 ·by_cases e : j = k
  ·subst e
   rw [hp.nodup_iff, List.nodup_cons]
   refine ⟨fun hm => ?_, h.free.nd j hj⟩
   obtain ⟨x', e1, _, h2⟩ := (h.free.mem j hj _).1 hm
   have : x = x' := by omega
   subst this
   rw [hu] at h2; cases h2
  ·exact (ho j hj e).nodup_iff.2 (h.free.nd j hj)
 ·by_cases e : j = k
  ·subst e
   rw [hp.mem_iff, List.mem_cons, h.free.mem j hj]
   constructor
   ·rintro (rfl | ⟨x', rfl, h1, h2⟩)
    ·exact ⟨x, rfl, hc, by unfold uDrop; simp⟩
    ·exact ⟨x', rfl, h1, by unfold uDrop; simp [h2]⟩
   ·rintro ⟨x', rfl, h1, h2⟩
    by_cases e : x' = x
    ·subst e; exact .inl rfl
    ·right
     refine ⟨x', rfl, h1, ?_⟩
     unfold uDrop at h2
     simpa [e] using h2
  ·rw [(ho j hj e).mem_iff, h.free.mem j hj]
   constructor
   ·rintro ⟨x', rfl, h1, h2⟩
    exact ⟨x', rfl, h1, by unfold uDrop; simp [h2]⟩
   ·rintro ⟨x', rfl, h1, h2⟩
    refine ⟨x', rfl, h1, ?_⟩
    have hne : x' ≠ x := fun e2 => e (SmCell.k hj hk h1 (e2 ▸ hc))
    unfold uDrop at h2
    simpa [hne] using h2
theorem Inv.freeL {g : Nat} {hs : List Hd} {U : Nat → Bool} {L : Nat → List Int} (h : Inv g hs U L) {b n : Nat} (hb : 1 ≤ b) (hw : WholeP hs b n) : Inv g (splice hs b (List.replicate n (0, 0, 0))) (uDrop U (b * 512)) L := by
 have hl := h.len
 have hfit : b + (List.replicate n ((0, 0, 0) : Hd)).length ≤ hs.length := by simp; exact hw.2.1
 have hhd : ∀ i, hd (splice hs b (List.replicate n (0, 0, 0))) i = if b ≤ i ∧ i < b + n then (0, 0, 0) else hd hs i := by
  intro i
  unfold hd
  rw [Ycc hfit, List.length_replicate]
  by_cases e : b ≤ i ∧ i < b + n
  ·rw [if_pos e, if_pos e, List.getD_eq_getElem?_getD, List.getElem?_replicate]; split <;> rfl
  ·rw [if_neg e, if_neg e]
 have hw' : ∀ {b0 n0}, WholeP hs b0 n0 → b0 ≠ b → WholeP (splice hs b (List.replicate n (0, 0, 0))) b0 n0 := by
  intro b0 n0 hw0 hne
  refine hw0.keep (Yah hfit) fun i h1 h2 => ?_
  rw [hhd, if_neg]
  intro e
  rcases hw0.kind h1 h2 with ⟨h3, h4⟩ | ⟨h3, h4⟩ <;> rcases hw.kind e.1 e.2 with ⟨h5, h6⟩ | ⟨h5, h6⟩
  ·omega
  ·omega
  ·omega
  ·have e1 := hw0.2.2.2.2 (i - b0) (by omega) (by omega)
   have e2 := hw.2.2.2.2 (i - b) (by omega) (by omega)
   rw [show b0 + (i - b0) = i by omega] at e1
   rw [show b + (i - b) = i by omega] at e2
   rw [e1] at e2
   simp only [Prod.mk.injEq] at e2
   omega
 have hsm : ∀ j x, SmCell g (splice hs b (List.replicate n (0, 0, 0))) j x ↔ SmCell g hs j x := by
  intro j x
  constructor
  ·rintro ⟨b', i, h1, h2, h3, h4, rfl⟩
   rw [hhd] at h3
   by_cases e : b ≤ b' ∧ b' < b + n
   ·rw [if_pos e] at h3; simp at h3
   ·rw [if_neg e] at h3; exact ⟨b', i, h1, h2, h3, h4, rfl⟩
  ·rintro ⟨b', i, h1, h2, h3, h4, rfl⟩
   refine ⟨b', i, h1, h2, ?_, h4, rfl⟩
   rw [hhd, if_neg]
   ·exact h3
   ·intro e
    rcases hw.kind e.1 e.2 with ⟨_, h6⟩ | ⟨_, h6⟩ <;> (rw [h3] at h6; simp at h6)
 refine ⟨by rw [Yah hfit]; exact hl, h.two, h.big, fun x hx => ?_, ?_, fun b0 hb0 => ?_, fun b0 hb0 => ?_, fun x hx => ?_, ⟨h.free.nd, fun j hj y => ?_⟩⟩
 ·unfold splice at hx
  simp only [List.mem_append] at hx
  rcases hx with (hx | hx) | hx
  ·exact h.right x (List.mem_of_mem_take hx)
  ·rw [List.eq_of_mem_replicate hx]; exact .inl rfl
  ·exact h.right x (List.mem_of_mem_drop hx)
 ·rw [hhd, if_neg (by omega)]; exact h.zero
 ·rw [hhd] at hb0
  by_cases e : b ≤ b0 ∧ b0 < b + n
  ·rw [if_pos e] at hb0; simp at hb0
  ·rw [if_neg e] at hb0
   obtain ⟨n', hw0⟩ := h.whole b0 hb0
   exact ⟨n', hw' hw0 (fun e2 => e (by have := hw.1; omega))⟩
 ·rw [hhd] at hb0
  by_cases e : b ≤ b0 ∧ b0 < b + n
  ·rw [if_pos e] at hb0; simp at hb0
  ·rw [if_neg e] at hb0
   obtain ⟨b1, n', hw0, h1, h2⟩ := h.cont b0 hb0
   refine ⟨b1, n', hw' hw0 (fun e2 => ?_), h1, h2⟩
   subst e2
   have := hw.uniq hw0
   omega
 ·unfold uDrop at hx
  simp only [Bool.and_eq_true, bne_iff_ne, ne_eq] at hx
  rcases h.used x hx.2 with ⟨j, hj, hc⟩ | ⟨b0, n0, h1, hw0, h2⟩
  ·exact .inl ⟨j, hj, (hsm j x).2 hc⟩
  ·exact .inr ⟨b0, n0, h1, hw' hw0 (fun e => hx.1 (by omega)), h2⟩
 ·rw [h.free.mem j hj]
  constructor
  ·rintro ⟨x, rfl, h1, h2⟩
   exact ⟨x, rfl, (hsm j x).2 h1, by unfold uDrop; simp [h2]⟩
  ·rintro ⟨x, rfl, h1, h2⟩
   have h1 := (hsm j x).1 h1
   refine ⟨x, rfl, h1, ?_⟩
   have hne : x ≠ b * 512 := by
    intro e
    obtain ⟨b', i, g1, g2, g3, g4, g5⟩ := h1
    have e3 := Ybi (b := b') hj g4
    have : b' = b := by omega
    subst this
    have := hw.2.2.1
    unfold hd at g3
    rw [g3] at this; simp at this
   unfold uDrop at h2
   simpa [hne] using h2
/-- what a giving back turns -/
structure FreeR (g : Nat) (s s' : St) (x : Nat) : Prop where
 inv : Inv g s'.hs s'.U s'.L
 was : s.U x = true
 u : s'.U = uDrop s.U x
 from_ : (∃ k : Nat, k < 32 ∧ SmCell g s.hs k x ∧ s'.hs = s.hs ∧ s'.F = s.F ∧ s'.c = s.c ∧ (accL s'.L k 4).Perm ((x : Int) :: accL s.L k 4) ∧ ∀ j, j < 32 → j ≠ k → (accL s'.L j 4).Perm (accL s.L j 4)) ∨
  (∃ b n : Nat, x = b * 512 ∧ 1 ≤ b ∧ WholeP s.hs b n ∧ s'.hs = splice s.hs b (List.replicate n (0, 0, 0)) ∧ s'.c = wrH s.c b (List.replicate n (0, 0, 0)) ∧ s'.L = s.L)
theorem Yjg {g a : Int} (h : 1 ≤ blockOf g a) : ∃ x : Nat, a = x ∧ blockOf g a = ((x / 512 : Nat) : Int) ∧ a < g * 512 ∧ 512 ≤ x := by
 unfold blockOf at h ⊢
 split at h
 ·omega
 ·rename_i hh
  obtain ⟨x, rfl⟩ := Int.eq_ofNat_of_zero_le (show 0 ≤ a by omega)
  refine ⟨x, rfl, by rw [if_neg hh]; omega, by omega, by omega⟩
theorem Yxu {g : Nat} {hs : List Hd} {k : Nat} {a : Int} (hk : k < 32) (hb : 1 ≤ blockOf g a) (hc : (cellOf g k a).2 = true) (hh : hd hs (blockOf g a).toNat = (1, (k : Int), 0)) : ∃ x : Nat, a = x ∧ SmCell g hs k x := by
 obtain ⟨x, rfl, h1, h2, h3⟩ := Yjg hb
 obtain ⟨t1, t2, t3, t4, t5, t6, t7, t8⟩ := Yjf k hk
 refine ⟨x, rfl, ?_⟩
 unfold cellOf at hc
 rw [if_neg (by omega)] at hc
 simp only [decide_eq_true_eq] at hc
 rw [h1] at hc hh
 rw [Int.toNat_natCast] at hh
 unfold cellAt at hc
 split at hc
 ·omega
 ·rename_i hn
  simp only [t1, t2] at hc hn
  have e : (x : Int) % 512 / (cw k : Int) = ((x % 512 / cw k : Nat) : Int) := by simp
  rw [e] at hc hn
  refine ⟨x / 512, x % 512 / cw k, by omega, by omega, hh, by omega, ?_⟩
  unfold cellN
  have : ((x / 512 : Nat) : Int) * 512 + ((x % 512 / cw k : Nat) : Int) * (cw k : Int) = ((x / 512 * 512 + x % 512 / cw k * cw k : Nat) : Int) := by simp
  rw [this] at hc
  omega
section
variable {B : World} {P R : SL} {t : K}
theorem Vft {a d g : Nat} {s : St} (inv : Inv g s.hs s.U s.L) {m x : Int} {kk : Int → K}
  (hM : ((∀ o, ¬ PlOk s.c (64 * g) s.hs g x o) ∨ has s.U x = false) → T B (R * Al a d g s) (kk 42))
  (h1 : ∀ (n : Nat) s' o, x = n → PlOk s.c (64 * g) s.hs g x o → FreeR g s s' n → T B (R * Al a d g s') (kk 0)) :
  T B (R * Al a d g s) (Ybo (da a) m x kk) := by
 refine Yaq (Yi8 _ m x kk) ?_
 have hg := inv.big
 have hl := inv.len
 refine Vgt inv (fun o ho => ?_) (fun hno o => ?_)
 ·(repeat (first | (with_reducible refine Ya7 ?_; intro _) | ((with_reducible apply Ybc); (focus rfl); (focus exact updA); (focus simp); simp only [List.set, Nat.zero_add, Nat.reduceAdd])))
  rename_i b0
  (dsimp only [Yb1, Zdx0, Zdx1, Zdx2, Zdx3, Zdx4, Zdx5, Zdx6, Zdx7, Zdx8, Zdx9, Zdx10, Zdx11, Zdx12, Zdx13, Zdx14, Zdx15, Zdx16, Zdx17, Zdx18, Zdx19])
  simp only [Bool.not_true]
  (repeat (with_reducible refine Yau ?_))
  refine Yaa (X := Al a d g s) (.init .last) ?_
  refine Ycu fun mm u f => ?_
  unfold da
  (repeat (first | with_reducible refine Yam ?_ | ((with_reducible apply Yaj); (focus rfl); (focus exact hasA); (focus rfl))))
  refine Yaa (X := Bm u (512 * g) s.U) (.init (.init .last)) ?_
  refine Yc7 ?_
  have cl : ∀ t, T B (R * Al a d g s) t → T B (R * pt b0 (.cells [.int .i64 o.1, .int .i64 o.2].toArray 68) * LDx d (64 * g) s.c * Mg mm d g s.hs s.F * Fl f s.L * pt a (.cells [.pointer (some ⟨mm, 0, none⟩), .pointer (some ⟨d, 0, none⟩), .int .i64 g, .pointer (some ⟨u, 0, none⟩), .pointer (some ⟨f, 0, none⟩)].toArray 47) * Bm u (512 * g) s.U) t := by
   intro t h
   refine Yac (by exact frmA : Frm _ (pt b0 (.cells [.int .i64 o.1, .int .i64 o.2].toArray 68)) _) ?_
   exact T.perm (by unfold da; ac_rfl) (Yax (m := mm) (u := u) (f := f) h)
  cases hu : has s.U x
  ·simp only [Bool.not_false]
   (repeat (with_reducible refine Yal ?_))
   exact cl _ (hM (.inr hu))
  simp only [Bool.not_true]
  (repeat (first | with_reducible refine Yau ?_ | ((with_reducible apply Yaf); (focus rfl); (focus exact hasA); (focus rfl))))
  refine Yfc ?_
  rw [show ((o.1, o.2) : Ob) = o from rfl]
  obtain ⟨g1, g2, g3, g4⟩ := ho
  have hhu := hu
  unfold has at hu
  simp only [Bool.and_eq_true, decide_eq_true_eq] at hu
  rcases g4 with ⟨k, k1, k2, k3, k4⟩ | ⟨k2, n, k3, k4, k5⟩
  ·obtain ⟨n, rfl, hc⟩ := Yxu k1 g2 k3 k4
   rw [Int.toNat_natCast] at hu
   rw [k2]
   (dsimp only [Yb1, Zdx0, Zdx1, Zdx2, Zdx3, Zdx4, Zdx5, Zdx6, Zdx7, Zdx8, Zdx9, Zdx10, Zdx11, Zdx12, Zdx13, Zdx14, Zdx15, Zdx16, Zdx17, Zdx18, Zdx19])
   simp only [Bool.not_true]
   (repeat (first | with_reducible refine Yam ?_ | with_reducible refine Yau ?_ | ((with_reducible apply Yaj); (focus rfl); (focus exact hasA); (focus rfl))))
   have hL : ∀ i, i < 160 → (s.L i).length ≤ 2 ^ 30 := fun i hi => by have := inv.free.lens hg i hi; omega
   have hnf : ¬ FHas s.L k ((n : Nat) : Int) := by
    intro hf
    obtain ⟨x', e1, _, h2⟩ := (inv.free.mem k k1 _).1 (Yvr.2 hf)
    have : n = x' := by omega
    subst this
    rw [hu.2] at h2; cases h2
   refine Ygp (fun h => by rw [hhu] at h; cases h) (fun _ _ => ?_)
   rw [Int.toNat_natCast]
   have fin : ∀ L', (accL L' k 4).Perm ((n : Int) :: accL s.L k 4) → (∀ j, j < 32 → j ≠ k → (accL L' j 4).Perm (accL s.L j 4)) →
     T B (R * pt b0 (.cells [.int .i64 o.1, .int .i64 o.2].toArray 68) * LDx d (64 * g) s.c * Mg mm d g s.hs s.F * pt a (.cells [.pointer (some ⟨mm, 0, none⟩), .pointer (some ⟨d, 0, none⟩), .int .i64 g, .pointer (some ⟨u, 0, none⟩), .pointer (some ⟨f, 0, none⟩)].toArray 47) * Bm u (512 * g) (uDrop s.U n) * Fl f L') (kk 0) := by
    intro L' hp ho
    have h2 := h1 n { s with U := uDrop s.U n, L := L' } o rfl ⟨g1, g2, g3, .inl ⟨k, k1, k2, k3, k4⟩⟩ ⟨inv.freeS k1 hc hu.2 hp ho, hu.2, rfl, .inl ⟨k, k1, hc, rfl, rfl, rfl, hp, ho⟩⟩
    refine Yac (by exact frmA : Frm _ (pt b0 (.cells [.int .i64 o.1, .int .i64 o.2].toArray 68)) _) ?_
    exact T.perm (by unfold da; ac_rfl) (Yax (m := mm) (u := u) (f := f) h2)
   have push : T B (R * pt b0 (.cells [.int .i64 o.1, .int .i64 o.2].toArray 68) * LDx d (64 * g) s.c * Mg mm d g s.hs s.F * pt a (.cells [.pointer (some ⟨mm, 0, none⟩), .pointer (some ⟨d, 0, none⟩), .int .i64 g, .pointer (some ⟨u, 0, none⟩), .pointer (some ⟨f, 0, none⟩)].toArray 47) * Bm u (512 * g) (uDrop s.U n) * Fl f s.L) (Yc4 (da f) k n fun x74 => kk x74) := by
    refine Yr7 hL k1 (fun h => absurd h hnf) fun _ => ?_
    obtain ⟨p1, p2⟩ := Yf5 (L := s.L) (L' := setN s.L k (s.L k ++ [(n : Int)])) (m := 0) (by omega) k1 (fun i h1 _ => Yas _ _ h1) (l := [(n : Int)]) (l' := []) (by
     rw [Yao, Yas _ _ (show ix 0 k ≠ k by unfold ix; omega), List.append_nil, List.append_assoc, List.append_assoc]
     exact List.Perm.append_left _ List.perm_append_comm)
    rw [List.append_nil] at p1
    exact fin _ (p1.symm.trans (List.perm_append_singleton _ _)) (fun j hj hjk => by rw [p2 j hj hjk])
   (repeat' (first | with_reducible refine Yam ?_ | with_reducible refine Yal ?_ | ((with_reducible apply Yaj); (focus rfl); (focus exact hasA); (focus rfl)) | with_reducible refine Yai (fun _ => ?_) (fun _ => ?_)))
   ·refine T.perm (by ac_rfl) push
   ·refine T.perm (by ac_rfl) push
   ·rename_i hm1 hm2
    obtain ⟨m0, rfl⟩ := Int.eq_ofNat_of_zero_le (show 0 ≤ m by omega)
    refine Yaa (X := Fl f s.L) (by exact frmA) ?_
    refine Vbv hL (by omega) k1 (fun h => absurd h hnf) fun _ L' ht hp => ?_
    obtain ⟨p1, p2⟩ := Yf5 (L := s.L) (L' := L') (by omega) k1 ht (l := [(n : Int)]) (l' := []) (by
     rw [List.append_nil]
     exact (List.perm_append_singleton _ _).trans hp.symm)
    rw [List.append_nil] at p1
    exact T.perm (by ac_rfl) (fin _ (p1.symm.trans (List.perm_append_singleton _ _)) (fun j hj hjk => by rw [p2 j hj hjk]))
  ·obtain ⟨y, rfl, hb1, hb2, hb3⟩ := Yjg g2
   rw [Int.toNat_natCast] at hu
   rw [hb1, Int.toNat_natCast] at k3
   have hyb : y = y / 512 * 512 := by
    rw [hb1] at k4
    unfold first at k4
    split at k4 <;> omega
   have hyb1 : 1 ≤ y / 512 := by omega
   rw [k2]
   (dsimp only [Yb1, Zdx0, Zdx1, Zdx2, Zdx3, Zdx4, Zdx5, Zdx6, Zdx7, Zdx8, Zdx9, Zdx10, Zdx11, Zdx12, Zdx13, Zdx14, Zdx15, Zdx16, Zdx17, Zdx18, Zdx19])
   simp only [Bool.not_false]
   (repeat (first | with_reducible refine Yam ?_ | with_reducible refine Yak ?_ | with_reducible refine Yal ?_ | ((with_reducible apply Yaf); (focus rfl); (focus exact hasA); (focus rfl)) | ((with_reducible apply Yaj); (focus rfl); (focus exact hasA); (focus rfl))))
   refine Yfp (by omega) (by omega) ?_
   rw [hb1]
   (repeat (first | with_reducible refine Ybe ?_ | ((with_reducible apply Ycm); (focus rfl); (focus exact hasA); (focus rfl))))
   refine Yaa (X := LDx d (64 * g) s.c) (by exact frmA) ?_
   refine Yaa (X := Mg mm d g s.hs s.F) (by exact frmA) ?_
   refine Ymk (nn := n) rfl hyb1 (.inr k3) fun F' tie' => ?_
   (repeat' (first | with_reducible refine Yam ?_ | ((with_reducible apply Yaj); (focus rfl); (focus exact hasA); (focus rfl)) | with_reducible refine Yar (fun _ => ?_) (fun _ => ?_)))
   ·rename_i h; exact absurd rfl h
   refine Yaa (X := Bm u (512 * g) s.U) (by exact frmA) ?_
   refine Ygp (fun h => by rw [hhu] at h; cases h) (fun _ _ => ?_)
   rw [Int.toNat_natCast]
   have hinv := inv.freeL hyb1 k3
   rw [← hyb] at hinv
   have h2 := h1 y { s with hs := splice s.hs (y / 512) (List.replicate n (0, 0, 0)), F := F', c := wrH s.c (y / 512) (List.replicate n (0, 0, 0)), U := uDrop s.U y } o rfl ⟨g1, g2, g3, .inr ⟨k2, n, by rw [hb1, Int.toNat_natCast]; exact k3, k4, k5⟩⟩ ⟨hinv, hu.2, rfl, .inr ⟨y / 512, n, hyb, hyb1, k3, rfl, rfl, rfl⟩⟩
   refine Yac (by exact frmA : Frm _ (pt b0 (.cells [.int .i64 o.1, .int .i64 o.2].toArray 68)) _) ?_
   exact T.perm (by unfold da; ac_rfl) (Yax (m := mm) (u := u) (f := f) h2)
 ·(repeat (first | (with_reducible refine Ya7 ?_; intro _) | ((with_reducible apply Ybc); (focus rfl); (focus exact updA); (focus simp); simp only [List.set, Nat.zero_add, Nat.reduceAdd])))
  (dsimp only [Yb1, Zdx0, Zdx1, Zdx2, Zdx3, Zdx4, Zdx5, Zdx6, Zdx7, Zdx8, Zdx9, Zdx10, Zdx11, Zdx12, Zdx13, Zdx14, Zdx15, Zdx16, Zdx17, Zdx18, Zdx19])
  simp only [Bool.not_false]
  (repeat (with_reducible refine Yal ?_))
  refine Yac .last ?_
  exact hM (.inl hno)
end
end
def Nxt (U : Nat → Bool) (lim : Nat) (a : Int) (r : Int × Bool) : Prop :=
 (r = (0, false) ∧ ∀ x : Nat, a ≤ x → U x = false) ∨ (∃ x : Nat, r = ((x : Int), true) ∧ a ≤ x ∧ x < lim ∧ U x = true ∧ ∀ y : Nat, a ≤ y → y < x → U y = false)
/-- the addresses of a set below one -/
def uBel (U : Nat → Bool) (n : Nat) : List Int := ((List.range n).filter fun x => U x).map fun (x : Nat) => (x : Int)
theorem Yxv {U : Nat → Bool} {a : Nat} : ∀ {n : Nat}, a ≤ n → (∀ y, a ≤ y → y < n → U y = false) → uBel U n = uBel U a := by
 intro n
 induction n with
 |zero =>
  intro h _
  have : a = 0 := by omega
  subst this; rfl
 |succ n ih =>
  intro h hy
  by_cases e : a = n + 1
  ·rw [e]
  ·rw [← ih (by omega) fun y h1 h2 => hy y h1 (by omega)]
   unfold uBel
   rw [List.range_succ, List.filter_append]
   simp [hy n (by omega) (by omega)]
theorem Ylz {U : Nat → Bool} {n : Nat} : (uBel U n).length ≤ n := by
 unfold uBel
 rw [List.length_map]
 exact Nat.le_trans (List.length_filter_le _ _) (by simp)
theorem Vez {U : Nat → Bool} {x : Nat} (h : U x = true) : uBel U (x + 1) = uBel U x ++ [(x : Int)] := by
 unfold uBel
 rw [List.range_succ, List.filter_append]
 simp [h]
section
variable {B : World} {P R : SL} {t : K}
theorem Vgu {s lim : Nat} {U : Nat → Bool} (h : lim ≤ 2 ^ 40 → (∀ x, lim ≤ x → U x = false) → T B (R * Bm s lim U) t) : T B (R * Bm s lim U) t :=
 Yi6 fun q ws m ok => Yes ok (h ok.big ok.off)
theorem Vhs {s lim : Nat} {U : Nat → Bool} {a : Int} {k : Int × Bool → K} (h : ∀ r, Nxt U lim a r → T B (R * Bm s lim U) (k r)) : T B (R * Bm s lim U) (Yap (da s) a k) :=
 Yd4 (fun hz => h _ (.inl ⟨rfl, hz⟩)) (fun x h1 h2 h3 h4 => h _ (.inr ⟨x, rfl, h1, h3, h2, h4⟩))
def okU (U : Nat → Bool) (lim : Nat) (pre : List Int) (x : Int) : Prop := ∃ n : Nat, x = n ∧ n < lim ∧ pre = uBel U n
theorem Ytl {l s lim bx : Nat} {U : Nat → Bool} {ty : TypeId} {I Z : List Int → SL} {J : SL} (hI : ∀ pre, I pre = Z pre * Bm s lim U) (hb : ∀ pre, Has (I pre) bx (.cells [.pointer (da s)].toArray ty))
  (hy : Yld B Tryz.prog l (fun x : Int => #[.int .i64 x]) (okU U lim) I J) {kk : Unit → K} (h1 : T B (I (uBel U lim)) (kk ())) (h0 : T B J (kk ())) : T B (I []) (Yhb ⟨.yield l, #[], #[]⟩ ⟨bx, 0, none⟩ kk) := by
 refine Yaq (Yna _ _ kk) ?_
 have hnext : ∀ (pre : List Int) (a : Int) (k : Int × Bool → K), (∀ r, lim ≤ 2 ^ 40 → Nxt U lim a r → T B (I pre) (k r)) → T B (I pre) (ldP ⟨bx, 0, none⟩ fun x => Yap x a k) := by
  intro pre a k h
  refine Yaj (n := da s) rfl (hb pre) rfl ?_
  rw [hI]
  refine Vgu fun hlim _ => Vhs fun r hr => ?_
  have := h r hlim hr
  rw [hI] at this
  exact this
 refine hnext [] 0 _ fun r hlim hr => ?_
 refine Ycz (fun m _ => I (uBel U (lim - m))) (fun m (z : Int × Bool × Unit) => m ≤ lim ∧ Nxt U lim ((lim - m : Nat) : Int) (z.1, z.2.1)) lim (by rw [Nat.sub_self]; rfl) ⟨Nat.le_refl _, by rw [Nat.sub_self]; exact hr⟩ ?_
 rintro m ⟨z1, z2, u⟩ c ⟨hm, hz⟩ hc
 rcases hz with ⟨e, hz⟩ | ⟨x, e, g1, g2, g3, g4⟩
 ·obtain ⟨rfl, rfl⟩ := Prod.mk.inj e
  refine Yau ?_
  rw [← Yxv (a := lim - m) (n := lim) (by omega) fun y h1 h2 => hz y (by omega)]
  exact h1
 ·obtain ⟨rfl, rfl⟩ := Prod.mk.inj e
  refine Yal ?_
  rw [← Yxv (a := lim - m) (n := x) (by omega) fun y h1 h2 => g4 y (by omega) (by omega)]
  refine Vf4 (x := (x : Int)) hy ⟨x, rfl, g2, rfl⟩ ?_ ?_
  ·refine Yau ?_
   (dsimp only [Yjo, Zdk0, Zdk1, Zdk2, Zdk3, Zdk4, Zdk5])
   rw [w64 (n := (x : Int) + 1) (by omega) (by omega), ← Vez g3]
   refine hnext _ _ _ fun r _ hr => ?_
   have e1 : lim - (lim - (x + 1)) = x + 1 := by omega
   have := hc (lim - (x + 1)) (r.1, r.2, ()) (by omega) ⟨by omega, by rw [e1]; exact hr⟩
   rw [e1] at this
   exact this
  ·exact Yal h0
theorem Yxw {s : Nat} {k : Fv → K} (hk : ∀ bx, T B (R * pt bx (.cells [.pointer (da s)].toArray 44)) (k ⟨.func 188, #[], #[.pointer (some ⟨bx, 0, none⟩)]⟩)) : T B R (Ygb (da s) k) := by
 refine Yaq (Ypl _ k) ?_
 (repeat ((with_reducible refine Ya7 ?_; intro _)))
 exact hk _
end
section
variable {B : World} {P R : SL} {t : K}
theorem Yqu {s lim : Nat} {U : Nat → Bool} {a b : Int} (hl : lim ≤ 2 ^ 40) {k : Int → K}
  (hk : ∀ n : Nat, (n = 0 ↔ ∀ x : Nat, a ≤ x → (x : Int) < b → U x = false) → T B (R * Bm s lim U) (k n)) : T B (R * Bm s lim U) (Yee (da s) a b k) := by
 refine Yaq (Yk4 _ a b k) ?_
 have loop : ∀ r : Int × Bool, Nxt U lim a r → T B (R * Bm s lim U) (Zdc5 (da s) b k 0 r.1 r.2) := by
  intro r hr
  refine Ycz (fun _ _ => R * Bm s lim U) (fun m (z : Int × Int × Bool × Unit) => ∃ (n : Nat) (c : Int), z.1 = n ∧ a ≤ c ∧ Nxt U lim c (z.2.1, z.2.2.1) ∧ m = (if z.2.2.1 then lim - z.2.1.toNat else 0) ∧ (n : Int) ≤ max 0 c ∧ (n = 0 ↔ ∀ x : Nat, a ≤ x → (x : Int) < c → (x : Int) < b → U x = false)) _ rfl ⟨0, a, rfl, by omega, hr, rfl, by omega, ?_⟩ ?_
  ·exact ⟨fun _ x h1 h2 => by omega, fun _ => rfl⟩
  rintro m ⟨z1, z2, z3, u⟩ cc ⟨n, c, e1, e2, e3, e4, e5, e6⟩ hc
  simp only at e1 e3 e4
  subst e1 e4
  rcases e3 with ⟨e3, hz⟩ | ⟨x, e3, h1, h2, h3, h4⟩
  ·obtain ⟨rfl, rfl⟩ := Prod.mk.inj e3
   (repeat (with_reducible refine Yau ?_))
   refine hk n ?_
   rw [e6]
   exact ⟨fun h x g1 g2 => if hx : (x : Int) < c then h x g1 hx g2 else hz x (by omega), fun h x g1 _ g3 => h x g1 g3⟩
  ·obtain ⟨rfl, rfl⟩ := Prod.mk.inj e3
   (repeat' (first | with_reducible refine Yal ?_ | with_reducible refine Yai (fun _ => ?_) (fun _ => ?_)))
   ·rename_i hlt
    simp only at hlt
    (dsimp only [Yhf, Zdc0, Zdc1, Zdc2, Zdc3, Zdc4, Zdc5, Zdc6])
    rw [w64 (n := (x : Int) + 1) (by omega) (by omega), w64 (n := (n : Int) + 1) (by omega) (by omega)]
    have nx : ∀ r : Int × Bool, Nxt U lim ((x : Int) + 1) r → T B (R * Bm s lim U) (cc ((n : Int) + 1, r.1, r.2, ())) := by
     intro r hr
     refine hc (if r.2 then lim - r.1.toNat else 0) _ ?_ ⟨n + 1, (x : Int) + 1, by simp, by omega, hr, rfl, by omega, ?_⟩
     ·simp only [if_true]
      rcases hr with ⟨rfl, _⟩ | ⟨y, rfl, g1, g2, _⟩
      ·simp; omega
      ·simp; omega
     ·constructor
      ·intro h; omega
      ·intro h
       have := h x (by omega) (by omega) (by omega)
       rw [h3] at this; cases this
    refine Yd4 (fun hz => nx (0, false) (.inl ⟨rfl, hz⟩)) (fun y g1 g2 g3 g4 => nx ((y : Int), true) (.inr ⟨y, rfl, g1, g3, g2, g4⟩))
   ·rename_i hge
    simp only at hge
    refine hk n ?_
    rw [e6]
    exact ⟨fun h y g1 g2 => if hy : (y : Int) < c then h y g1 hy g2 else h4 y (by omega) (by omega), fun h y g1 _ g3 => h y g1 g3⟩
 refine Yd4 (fun hz => loop (0, false) (.inl ⟨rfl, hz⟩)) (fun y g1 g2 g3 g4 => loop ((y : Int), true) (.inr ⟨y, rfl, g1, g3, g2, g4⟩))
theorem Ve0 {s : Sl} {l : List Int} {ty o : Nat} {d : Sl} (hd : d = ⟨cutP s.p o s.c 1, s.n - o, s.c - o⟩) (ho : o ≤ l.length) {k : Unit → K}
  (hk : ∀ l' : List Int, l'.length = l.length → l'.take o = l.take o → T B (R * vec 3 1 s (ints l')) (k ())) :
  T B (R * vec 3 1 s (ints l)) (semT Tryz.prog (Builtin.clear_ #[27] ty #[d.v]) (.tup []) k) := by
 intro w hw
 have hlen : s.n = l.length := by
  have := (Rd.vec (E := 3) (s := s) (vs := ints l) (P := R * vec 3 1 s (ints l)) .last B w hw).1
  rw [Yag] at this; omega
 have hz : zeroP Tryz.prog 3 = some (.int .i64 0) := by kernel_rfl
 subst hd
 unfold semT
 by_cases h0 : s.n - o = 0
 ·have hrun : (Builtin.clear_ #[27] ty #[Sl.v ⟨cutP s.p o s.c 1, s.n - o, s.c - o⟩]).run Tryz.prog w = .ok (.tuple #[]) w := by
   rw [h0]
   cases hp : cutP s.p o s.c 1 with
   |none => simp [Builtin.clear_, Sl.v, Ycl Yeo.und]
   |some a => simp [Builtin.clear_, Sl.v, Ycl Yeo.und]
  rw [hrun]
  exact ⟨(), rfl, hk l rfl rfl w hw⟩
 ·rcases Yei hw with ⟨h1, h2, h3, _⟩ | ⟨b, rest, h1, h2, h3, h4, hR⟩
  ·omega
  ·have hdp : cutP s.p o s.c 1 = some ⟨b, o, none⟩ := by
    unfold cutP
    rw [if_neg (by rw [Yag] at h2 h3; omega), h1]; simp [Yay]
   obtain ⟨w', hr, hs'⟩ := Ynw (Pg := Tryz.prog) (B := B) (b := b) (o := o) (ty := 3) (P' := fun l => R * pt b (.cells l.toArray 3)) (fun _ _ => Upd.last) (new := List.replicate (s.n - o) (.int .i64 0)) (l := ints l ++ rest) (i := 0) (w := w) rfl (by simp [scal]) (by rw [List.length_append, Yag]; simp; omega) hR
   obtain ⟨q, hq⟩ : ∃ q, s.n - o = q + 1 := ⟨s.n - o - 1, by omega⟩
   have hzc : (Builtin.zeroCells #[Value.int .i64 0] (s.n - o)).toList = List.replicate (s.n - o) (.int .i64 0) := by
    generalize s.n - o = j
    simp only [Builtin.zeroCells]
    rw [List.eq_replicate_iff]
    refine ⟨by simp, fun x hx => ?_⟩
    simp only [List.size_toArray, List.length_singleton, Nat.mul_one, Nat.mod_one] at hx
    simp at hx
    exact hx.2.symm
   have hrun : (Builtin.clear_ #[27] ty #[Sl.v ⟨cutP s.p o s.c 1, s.n - o, s.c - o⟩]).run Tryz.prog w = .ok (.tuple #[]) w' := by
    rw [hdp]
    have hzc' := hzc
    rw [hq] at hzc' hr ⊢
    rw [← hzc'] at hr
    simp [Builtin.clear_, Sl.v, Ycl Yeo.und, Yns hz, Value.cells, hr]
   rw [hrun]
   rw [Nat.add_zero, Ynx (by simp [Yag]; omega)] at hs'
   have e : splice (ints l) o (List.replicate (s.n - o) (Value.int .i64 0)) = ints (splice l o (List.replicate (s.n - o) 0)) := by
    unfold ints; rw [Yt1]; simp
   rw [e] at hs'
   refine ⟨(), rfl, hk (splice l o (List.replicate (s.n - o) 0)) (Yah (by simp; omega)) ?_ w' (Yp1 h1 ?_ ?_ h4 hs')⟩
   ·unfold splice
    rw [List.append_assoc, List.take_append_of_le_length (by simp; omega), List.take_take, Nat.min_self]
   ·rw [Yag, Yah (by simp; omega), ← Yag]; exact h2
   ·rw [Yag, Yah (by simp; omega), ← Yag]; exact h3
end
end Go.Proofs.YtdgcbapclnnkkaaGreat.X
