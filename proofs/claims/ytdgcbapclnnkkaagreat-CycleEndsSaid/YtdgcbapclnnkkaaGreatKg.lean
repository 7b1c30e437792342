/- Part 7 of the proof that the law holds for every input: the theorems of this part. Conditions: each theorem bears its own; the last has none. -/
import Derived.Test.YtdgcbapclnnkkaaGreatKf
import Derived.Test.YtdgcbapclnnkkaaGreatRows
import Derived.WalkKit
import Derived.ProofKit
import Derived.OpenShut
import Derived.JoinedCond
import Derived.ReadAgain
import Derived.Carry
set_option linter.all false
set_option maxRecDepth 4000
namespace Go.Proofs.YtdgcbapclnnkkaaGreat.X
open Go
section
set_option maxHeartbeats 2000000
/-- a cycle under way, or ended -/
def Und (g : Nat) (c : Cy) (D : Nat → Prop) (cy : Int) : Prop := J g c ∧ ((c.cyc = cy ∧ c.ph ≠ 0 ∧ ∃ E, DD g c D E) ∨ (c.cyc = cy + 1 ∧ c.gone.length ≤ 512 * g * g ∧ ∀ x, D x → (x : Int) ∈ c.gone))
theorem Und.eff {g : Nat} {c c' : Cy} {D : Nat → Prop} {cy : Int} (h : Und g c D cy) (hc : c.cyc = cy) (he : Eff g c c') : Und g c' D cy := by
 obtain ⟨hJ, h⟩ := h
 obtain ⟨e1, e2, e3, e4⟩ := he
 rcases h with ⟨q1, q2, E, q3⟩ | ⟨q, _⟩
 ·rcases e4 D E q3 q2 with ⟨r1, r2, r3⟩ | ⟨_, r2, r3, r4⟩
  ·exact ⟨e1, .inl ⟨by omega, r1, r3⟩⟩
  ·exact ⟨e1, .inr ⟨by omega, r3, r4⟩⟩
 ·omega
section
variable {B : World} {P R : SL} {t : K}
theorem Vdv {g b : Nat} {y : Lay} {most cy : Int} {c3 : Option Addr} {c : Cy} {D : Nat → Prop} {x13 : Sl} {dead : List Int} (hu : Und g c D cy) (hcy0 : 0 ≤ cy) (hcy1 : cy < 2 ^ 61) (hg : g ≤ 16) (hdl : dead.length ≤ 2 ^ 30) (hds : dead.Pairwise (· < ·)) (hd : ∀ v ∈ dead, ∃ n : Nat, v = n ∧ D n) {k : Bool → K} (hk : T B R (k true)) :
  T B (R * pt b (.cells (rmC y).toArray 33) * vec 3 1 x13 (ints dead) * CW g y most c3 c) (Zgk7 k ⟨b, 0, none⟩ x13 cy) := by
 have last : ∀ c', c'.cyc = cy + 1 → c'.gone.length ≤ 512 * g * g → (∀ x, D x → (x : Int) ∈ c'.gone) → T B (R * pt b (.cells (rmC y).toArray 33) * vec 3 1 x13 (ints dead) * CW g y most c3 c') (Zgk1 k ⟨b, 0, none⟩ x13 cy) := by
  intro c' h1 h2 h3
  refine Vdu h1 hcy0 (by omega) hg h2 hdl hds (fun v hv => ?_) hk
  obtain ⟨n, rfl, hn⟩ := hd v hv
  exact h3 n hn
 rw [Zgk7]
 unfold rmC at *
 refine Yaj (i := 3) (n := da y.cl) rfl (by exact hasA) rfl ?_
 refine Yo3 ?_
 rw [Zgk6]
 obtain ⟨hJ, hu2⟩ := hu
 refine Ybo (fun hc => ?_) (fun hc => ?_)
 ·rw [Zgk5]
  refine Yak ?_
  refine Yaj (i := 3) (n := da y.cl) rfl (by exact hasA) rfl ?_
  refine Yaj (i := 3) (n := da y.cl) rfl (by exact hasA) rfl ?_
  refine Ysx hJ.gc ?_
  refine Yb9 (i := 3) rfl (by exact hasA) rfl ?_
  refine Ybd ?_
  refine Va3 hJ hg (by omega) (by omega) fun m c1 c' w hs he hcc hp => ?_
  have hu' := (show Und g c D cy from ⟨hJ, hu2⟩).eff hc he
  rw [Zgk4]
  refine Yas ?_
  rw [Zgk3]
  refine Yar (fun h => absurd rfl h) (fun _ => ?_)
  rcases hu'.2 with ⟨q, _⟩ | ⟨q1, q2, q3⟩
  ·omega
  ·exact last c' q1 q2 q3
 ·rcases hu2 with ⟨q, _⟩ | ⟨q1, q2, q3⟩
  ·exact absurd q hc
  ·exact last c q1 q2 q3
theorem Vb5 {g b : Nat} {y : Lay} {most cy : Int} {c3 : Option Addr} {c : Cy} {D : Nat → Prop} {x2 x13 : Sl} {dead : List Int} (hx2 : Scr5 B x2) (hu : Und g c D cy) (hcy0 : 0 ≤ cy) (hcy1 : cy < 2 ^ 61) (hg : g ≤ 16) (hdl : dead.length ≤ 2 ^ 30) (hds : dead.Pairwise (· < ·)) (hd : ∀ v ∈ dead, ∃ n : Nat, v = n ∧ D n) {k : Bool → K} (hk : T B R (k true)) :
  T B (R * pt b (.cells (rmC y).toArray 33) * vec 3 1 x13 (ints dead) * CW g y most c3 c) (Zgk18 x2 k ⟨b, 0, none⟩ x13 cy) := by
 rw [Zgk18, Zgk17]
 refine Yj9 (fun _ (z : Int × Unit) => ex fun c1 : Cy => R * pt b (.cells (rmC y).toArray 33) * vec 3 1 x13 (ints dead) * CW g y most c3 c1 * pu (Und g c1 D cy)) (fun n (z : Int × Unit) => ∃ i : Nat, z.1 = i ∧ i ≤ 30 ∧ n = 30 - i) 30 (fun t ht => ?_) ⟨0, rfl, by omega, rfl⟩ ?_
 ·intro w hw
  exact ht w (Yde c (Sat.puI hu hw))
 rintro n ⟨z, uu⟩ cc ⟨i, e1, e2, e3⟩ hcc
 simp only at e1
 subst e1 e3
 dsimp only
 refine Yrf fun c1 hu1 => ?_
 have fin := Vdv (R := R) (B := B) (b := b) (y := y) (most := most) (c3 := c3) (x13 := x13) hu1 hcy0 hcy1 hg hdl hds hd hk
 rw [Zgk16]
 refine Yai (fun hlt => Yai (fun h30 => ?_) (fun _ => Yas fin)) (fun _ => Yas fin)
 have h1 : T B (R * pt b (.cells (rmC y).toArray 33) * vec 3 1 x13 (ints dead) * CW g y most c3 c1) (Zgk15 x2 k ⟨b, 0, none⟩ x13 cy i cc (c1.cyc == cy)) := by
  rw [Zgk15]
  refine Ybo (fun hc => ?_) (fun _ => fin)
  rw [Zgk14]
  refine Va2 hx2 (by omega) (by omega) fun a kd m p q d e0 e1 e2 e3 e4 => ?_
  refine Yfu e0 ?_
  refine Yfu e1 ?_
  refine Yfu e2 ?_
  refine Yfu e3 ?_
  refine Yfu e4 ?_
  refine Ya7 fun b5 => ?_
  refine Ybb (i := 0) rfl Upd.last (by show _ < 5; omega) ?_
  refine Ybb (i := 1) rfl Upd.last (by show _ < 5; omega) ?_
  refine Ybb (i := 2) rfl Upd.last (by show _ < 5; omega) ?_
  refine Ybb (i := 3) rfl Upd.last (by show _ < 5; omega) ?_
  refine Ybb (i := 4) rfl Upd.last (by show _ < 5; omega) ?_
  rw [Zgk13]
  refine Yag (i := 0) (n := kd) rfl Has.last rfl ?_
  rw [Zgk12]
  have hs10 : ∀ q' : Int, T B (R * pt b (.cells (rmC y).toArray 33) * vec 3 1 x13 (ints dead) * CW g y most c3 c1 * pt b5 (.cells [.int .i64 kd, .int .i64 m, .int .i64 p, .int .i64 q', .int .i64 d].toArray 38)) (Zgk10 k ⟨b, 0, none⟩ i cc ⟨b5, 0, none⟩) := by
   intro q'
   rw [Zgk10]
   unfold rmC
   refine Yaj (i := 0) (n := da y.a) rfl (by exact hasA) rfl ?_
   refine Yaj (i := 1) (n := da y.d) rfl (by exact hasA) rfl ?_
   refine Yaz (i := 2) (n := nilS) rfl (by exact hasA) rfl ?_
   refine Yaj (i := 3) (n := da y.cl) rfl (by exact hasA) rfl ?_
   refine Yaj (i := 4) (n := da y.pb) rfl (by exact hasA) rfl ?_
   refine Yag (i := 0) (n := kd) rfl Has.last rfl ?_
   refine Yag (i := 1) (n := m) rfl Has.last rfl ?_
   refine Yag (i := 2) (n := p) rfl Has.last rfl ?_
   refine Yag (i := 3) (n := q') rfl Has.last rfl ?_
   refine Yag (i := 4) (n := d) rfl Has.last rfl ?_
   refine Yaa (X := CW g y most c3 c1) (by exact frmA) ?_
   refine do_c (op := (kd, m, p, q', d)) hu1.1 hg (by omega) (by omega) fun c' he => ?_
   rw [Zgk9]
   refine Yey (Yal ?_)
   refine Yac (by exact frmA : Frm _ (pt b5 _) _) ?_
   intro w hw
   exact hcc (30 - (i + 1)) (IntKind.wrap .i64 ((i : Int) + 1), ()) (by omega) ⟨i + 1, w64 (by omega) (by omega), by omega, rfl⟩ w (Yde c' (Sat.puI (hu1.eff hc he) hw))
  refine Ybo (fun _ => ?_) (fun _ => hs10 q)
  rw [Zgk11]
  refine Ybb (i := 3) rfl Upd.last (by show _ < 5; omega) ?_
  exact hs10 1
 unfold rmC at h1 ⊢
 refine Yaj (i := 3) (n := da y.cl) rfl (by exact hasA) rfl ?_
 exact Yo3 h1
/-- from where a cycle begins -/
theorem Vb6 {g b : Nat} {y : Lay} {most : Int} {c3 : Option Addr} {c : Cy} {x2 : Sl} (hx2 : Scr5 B x2) (hJ : J g c) (hp : c.ph = 0) (hc0 : 0 ≤ c.cyc) (hc1 : c.cyc < 2 ^ 61) (hg : g ≤ 16) {k : Bool → K} (hk : T B R (k true)) :
  T B (R * pt b (.cells (rmC y).toArray 33) * CW g y most c3 c) (Zgk23 x2 k ⟨b, 0, none⟩) := by
 have hoff : ∀ x, c.s.U x = true → x < 512 * g := fun x hx => (hJ.off hx).2
 have ub := @Ylx c.s.U (512 * g)
 have hll : (liveL g c.s c.pl).length ≤ 512 * g := Nat.le_trans (List.length_filter_le _ _) ub
 rw [Zgk23]
 unfold rmC
 refine Yak ?_
 refine Yaj (i := 0) (n := da y.a) (by rw [Ya0, Ya0]) (by exact hasA) rfl ?_
 refine Yaj (i := 0) (n := da y.a) rfl (by exact hasA) rfl ?_
 refine Yaj (i := 1) (n := da y.d) rfl (by exact hasA) rfl ?_
 refine Yaz (i := 2) (n := nilS) rfl (by exact hasA) rfl ?_
 refine Yaj (i := 3) (n := da y.cl) rfl (by exact hasA) rfl ?_
 refine Yaj (i := 4) (n := da y.pb) rfl (by exact hasA) rfl ?_
 refine Vhc fun x92 => ?_
 refine Yb9 (i := 0) rfl (by exact hasA) rfl ?_
 refine Yb9 (i := 1) rfl (by exact hasA) rfl ?_
 refine Yb9 (i := 2) rfl (by exact hasA) rfl ?_
 refine Yb9 (i := 3) rfl (by exact hasA) rfl ?_
 refine Yb9 (i := 4) rfl (by exact hasA) rfl ?_
 refine Ybd ?_
 refine Yaa (X := CW g y most c3 c) (by exact frmA) ?_
 refine Vhz hJ hg fun x94 => ?_
 refine Vds (l := uBel c.s.U (512 * g)) (m := liveL g c.s c.pl) (by omega) (by omega) (Rd.vec (by exact frmA)) (Rd.vec .last) fun x95 => ?_
 refine Yac (by exact frmA : Frm _ (vec 3 1 x94 _) _) ?_
 refine Yac (by exact frmA : Frm _ (vec 3 1 x92 _) _) ?_
 have hdead : ∀ v ∈ (uBel c.s.U (512 * g)).filter (fun v => !decide (v ∈ liveL g c.s c.pl)), ∃ n : Nat, v = n ∧ (c.s.U n = true ∧ ¬ LiveP g c.s c.pl n) := by
  intro v hv
  rw [List.mem_filter] at hv
  obtain ⟨n, _, h2, rfl⟩ := Yo0.1 hv.1
  refine ⟨n, rfl, h2, fun hl => ?_⟩
  have := (Vdq (pl := c.pl) hoff).2 ⟨n, rfl, hl⟩
  simp [this] at hv
 have hdl : ((uBel c.s.U (512 * g)).filter (fun v => !decide (v ∈ liveL g c.s c.pl))).length ≤ 2 ^ 30 := Nat.le_trans (List.length_filter_le _ _) (by omega)
 have hds : ((uBel c.s.U (512 * g)).filter (fun v => !decide (v ∈ liveL g c.s c.pl))).Pairwise (· < ·) := (Vha _ _).filter _
 generalize (uBel c.s.U (512 * g)).filter (fun v => !decide (v ∈ liveL g c.s c.pl)) = dead at *
 rw [Zgk22]
 refine Yaj (i := 3) (n := da y.cl) rfl (by exact hasA) rfl ?_
 refine Yaa (X := CW g y most c3 c) (by exact frmA) ?_
 refine Vay hJ.gc fun c' hs => ?_
 have hJ' := hJ.step hs
 have hb : c'.ph = 1 ∧ c'.cyc = c.cyc ∧ DD g c' (fun x => c.s.U x = true ∧ ¬ LiveP g c.s c.pl x) (fun x => c.s.U x = true ∧ ¬ LiveP g c.s c.pl x) := by
  cases hs with
  |begin m' st' h hm hst => exact ⟨rfl, rfl, DD.begin hJ hm⟩
  |mark m' st' h hm hst => rw [hp] at h; cases h
  |more m' st' h hn hm hst => rw [hp] at h; cases h
  |last st' h hn hall hst => rw [hp] at h; cases h
  |sweep s' l st' h hw hS hll hb hst => rw [hp] at h; cases h
  |done s' l st' h hw hS hll hb hst => rw [hp] at h; cases h
 refine Yar (fun h => absurd rfl h) (fun _ => ?_)
 refine Yaj (i := 3) (n := da y.cl) rfl (by exact hasA) rfl ?_
 refine Yzw ?_
 rw [Zgk21]
 refine Yar (fun h => absurd hb.1 h) (fun _ => ?_)
 rw [Zgk19]
 refine Yaj (i := 3) (n := da y.cl) rfl (by exact hasA) rfl ?_
 refine Yo3 ?_
 have hu : Und g c' (fun x => c.s.U x = true ∧ ¬ LiveP g c.s c.pl x) c'.cyc := ⟨hJ', .inl ⟨rfl, by rw [hb.1]; decide, _, hb.2.2⟩⟩
 have h9 := Vb5 (R := R) (b := b) (y := y) (most := most) (c3 := c3) (x13 := x95) hx2 hu (by omega) (by omega) hg hdl hds hdead hk
 unfold rmC at h9
 exact h9
end
end
section
set_option maxHeartbeats 2000000
section
variable {B : World} {P R : SL} {t : K}
theorem Vb7 {g b : Nat} {y : Lay} {most : Int} {c3 : Option Addr} {c : Cy} {x2 : Sl} (hx2 : Scr5 B x2) (hJ : J g c) (hc0 : 0 ≤ c.cyc) (hc1 : c.cyc < 2 ^ 60) (hg : g ≤ 16) {k : Bool → K} (hk : T B R (k true)) :
  T B (R * pt b (.cells (rmC y).toArray 33) * CW g y most c3 c) (Zgk29 x2 k ⟨b, 0, none⟩) := by
 rw [Zgk29]
 have next : ∀ c', J g c' → c'.ph = 0 → 0 ≤ c'.cyc → c'.cyc < 2 ^ 61 → T B (R * pt b (.cells (rmC y).toArray 33) * CW g y most c3 c') (Zgk23 x2 k ⟨b, 0, none⟩) := fun c' h1 h2 h3 h4 => Vb6 hx2 h1 h2 h3 h4 hg hk
 unfold rmC at *
 refine Yaj (i := 3) (n := da y.cl) rfl (by exact hasA) rfl ?_
 refine Yzw ?_
 rw [Zgk28]
 refine Yar (fun hp => ?_) (fun hp => next c hJ hp hc0 (by omega))
 rw [Zgk27]
 refine Yak ?_
 refine Yaj (i := 3) (n := da y.cl) rfl (by exact hasA) rfl ?_
 refine Yaj (i := 3) (n := da y.cl) rfl (by exact hasA) rfl ?_
 refine Ysx hJ.gc ?_
 refine Yb9 (i := 3) rfl (by exact hasA) rfl ?_
 refine Ybd ?_
 refine Va3 hJ hg hc0 (by omega) fun m c1 c' w hs he hcc hp0 => ?_
 rw [Zgk26]
 refine Yas ?_
 rw [Zgk25]
 refine Yar (fun h => absurd rfl h) (fun _ => ?_)
 exact next c' he.1 hp0 (by omega) (by omega)
theorem Vb8 {g b : Nat} {y : Lay} {most : Int} {c3 : Option Addr} {c : Cy} {x2 : Sl} (hx2 : Scr5 B x2) (hJ : J g c) (hc0 : 0 ≤ c.cyc) (hc1 : c.cyc < 2 ^ 60) (hg : g ≤ 16) {k : Bool → K} (hk : T B R (k true)) :
  T B (R * pt b (.cells (rmC y).toArray 33) * CW g y most c3 c) (Zgk33 x2 k ⟨b, 0, none⟩) := by
 have ub := @Ylx c.s.U (512 * g)
 have next : T B (R * pt b (.cells (rmC y).toArray 33) * CW g y most c3 c) (Zgk32 x2 k ⟨b, 0, none⟩ (bndC g c)) := by
  have h9 := Vb7 (R := R) (b := b) (y := y) (most := most) (c3 := c3) hx2 hJ hc0 hc1 hg hk
  rw [Zgk32]
  unfold rmC at *
  refine Yaj (i := 3) (n := da y.cl) rfl (by exact hasA) rfl ?_
  refine Ysx hJ.gc ?_
  rw [Zgk31]
  refine Yai (fun h => ?_) (fun _ => h9)
  unfold bndC at h
  omega
 rw [Zgk33]
 unfold rmC at *
 refine Yak ?_
 refine Yaj (i := 0) (n := da y.a) (by rw [Ya0, Ya0]) (by exact hasA) rfl ?_
 refine Yaj (i := 0) (n := da y.a) (by rw [Ya0, Ya0]) (by exact hasA) rfl ?_
 have close := @Ybw B (R * pt b (.cells [.pointer (da y.a), .pointer (da y.d), nilS.v, .pointer (da y.cl), .pointer (da y.pb)].toArray 33)) _ g y most c3 c.s c.m c.blk c.gone c.pl c.ph c.cyc c.st next
 refine Ycw ?_
 refine Yaa (X := Al y.a y.d g c.s) (by exact frmA) ?_
 refine Ycl fun mm u f => ?_
 have cl2 : ∀ t, T B (R * pt b (.cells [.pointer (da y.a), .pointer (da y.d), nilS.v, .pointer (da y.cl), .pointer (da y.pb)].toArray 33) * Mkr y.mr y.a (512 * g) most c.m * Swr y.sw y.a y.mr c.blk c.gone * RootsR y c3 c.pl * pt y.cl (.cells (colC y c.ph c.cyc c.st).toArray 129) * Al y.a y.d g c.s) t → _ := fun t ht => Yax (m := mm) (u := u) (f := f) ht
 refine Yaa (X := Mg mm y.d g c.s.hs c.s.F) (by exact frmA) ?_
 refine Yg6 fun tt xx tie => ?_
 have cl3 : ∀ t, T B (R * pt b (.cells [.pointer (da y.a), .pointer (da y.d), nilS.v, .pointer (da y.cl), .pointer (da y.pb)].toArray 33) * Mkr y.mr y.a (512 * g) most c.m * Swr y.sw y.a y.mr c.blk c.gone * RootsR y c3 c.pl * pt y.cl (.cells (colC y c.ph c.cyc c.st).toArray 129) * LDx y.d (64 * g) c.s.c * Bm u (512 * g) c.s.U * Fl f c.s.L * pt y.a (.cells [.pointer (da mm), .pointer (da y.d), .int .i64 g, .pointer (da u), .pointer (da f)].toArray 47) * Mg mm y.d g c.s.hs c.s.F) t → _ := fun t ht => Yfg (a := tt) (x := xx) tie ht
 unfold da at *
 refine Yam ?_
 refine Yaj (i := 0) (n := some ⟨mm, 0, none⟩) rfl (by exact hasA) rfl ?_
 refine Yam ?_
 refine Yaj (i := 0) (n := some ⟨tt, 0, none⟩) rfl (by exact hasA) rfl ?_
 refine Yaa (X := pt y.a _) (by exact frmA) ?_
 refine Yaa (X := Bm u (512 * g) c.s.U) (by exact frmA) ?_
 refine Ymk fun sl => ?_
 refine Ycj .last fun hn => ?_
 rw [Yae, Nat.mul_one] at hn
 refine Yb9 (i := 0) rfl (by exact hasA) rfl ?_
 refine Yb9 (i := 0) rfl (by exact hasA) rfl ?_
 refine Yb9 (i := 0) (by rw [Ya0, Ya0]) (by exact hasA) rfl ?_
 refine Ybd ?_
 refine Yaa (X := Tab tt y.d g c.s.hs) (by exact frmA) ?_
 refine Yhg ?_
 have eb : IntKind.wrap .i64 (IntKind.wrap .i64 (IntKind.wrap .i64 (8 * ((sl.n : Nat) : Int)) + IntKind.wrap .i64 (2 * ((c.s.hs.length : Nat) : Int))) + 16) = bndC g c := by
  unfold bndC
  rw [hJ.gc.inv.len, hn, w64 (n := 8 * ((uBel c.s.U (512 * g)).length : Int)) (by omega) (by omega), w64 (n := 2 * ((g : Nat) : Int)) (by omega) (by omega), w64 (n := 8 * ((uBel c.s.U (512 * g)).length : Int) + 2 * ((g : Nat) : Int)) (by omega) (by omega), w64 (by omega) (by omega)]
  omega
 rw [eb]
 refine Yac (by exact frmA : Frm _ (vec 3 1 sl _) _) ?_
 have h9 := cl2 _ (T.perm (by ac_rfl) close)
 have h10 := cl3 _ (T.perm (by ac_rfl) h9)
 exact T.perm (by ac_rfl) h10
theorem Yzy {x0 : Int} {x1 x2 : Sl} (h0 : -128 ≤ x0) (h1 : x0 ≤ 127) (hx1 : Scr5 B x1) (hx2 : Scr5 B x2) {k : Bool → K} (hk : T B R (k true)) : T B R (Yfl x0 x1 x2 k) := by
 refine Yaq (Yos x0 x1 x2 k) ?_
 rw [Ylm, Zgk46]
 refine Ywb ?_
 rw [Zgk45]
 refine Yey (Yal ?_)
 rw [Zgk43, w64 (n := x0) (by omega) (by omega)]
 refine Vdt (g := 5) (by omega) (by omega) (by omega) fun y F => ?_
 have hJ0 : J 5 (c00 5 F) := J.begun (by omega) (by omega)
 refine Ya7 fun b => ?_
 refine Ybb (i := 0) rfl Upd.last (by show _ < 5; omega) ?_
 refine Ybb (i := 1) rfl Upd.last (by show _ < 5; omega) ?_
 refine Ybb (i := 2) rfl Upd.last (by show _ < 5; omega) ?_
 refine Ybb (i := 3) rfl Upd.last (by show _ < 5; omega) ?_
 refine Ybb (i := 4) rfl Upd.last (by show _ < 5; omega) ?_
 rw [Zgk42, Zgk41]
 refine Yey (Yal ?_)
 rw [Zgk39]
 refine Yaa (X := CW 5 y _ _ _) (.init .last) ?_
 refine Yj9 (fun _ (z : Int × Unit) => ex fun c1 : Cy => R * pt b (.cells (rmC y).toArray 33) * CW 5 y (max2I x0 0) (da y.cl) c1 * pu (J 5 c1 ∧ 0 ≤ c1.cyc ∧ c1.cyc ≤ z.1)) (fun n (z : Int × Unit) => ∃ i : Nat, z.1 = i ∧ i ≤ 60 ∧ n = 60 - i) 60 (fun t ht => ?_) ⟨0, rfl, by omega, rfl⟩ ?_
 ·intro w hw
  exact ht w (Yde (c00 5 F) (Sat.puI ⟨hJ0, Int.le_refl 0, Int.le_refl 0⟩ hw))
 rintro n ⟨z, uu⟩ cc ⟨i, e1, e2, e3⟩ hcc
 simp only at e1
 subst e1 e3
 dsimp only
 refine Yrf fun c1 hc1 => ?_
 obtain ⟨hJ, q0, q1⟩ := hc1
 have fin := Vb8 (R := R) (b := b) (y := y) (most := max2I x0 0) (c3 := da y.cl) hx2 hJ q0 (by omega) (by omega) hk
 rw [Zgk38]
 refine Yai (fun hlt => ?_) (fun _ => ?_)
 ·rw [Zgk37]
  refine Yai (fun h60 => ?_) (fun _ => fin)
  rw [Zgk36]
  unfold rmC
  refine Yak ?_
  refine Yaj (i := 0) (n := da y.a) rfl (by exact hasA) rfl ?_
  refine Yaj (i := 1) (n := da y.d) rfl (by exact hasA) rfl ?_
  refine Yaz (i := 2) (n := nilS) rfl (by exact hasA) rfl ?_
  refine Yaj (i := 3) (n := da y.cl) rfl (by exact hasA) rfl ?_
  refine Yaj (i := 4) (n := da y.pb) rfl (by exact hasA) rfl ?_
  refine Va2 hx1 (by omega) (by omega) fun a kd m p q d e0 e1 e2 e3 e4 => ?_
  refine Yfu e0 ?_
  refine Yfu e1 ?_
  refine Yfu e2 ?_
  refine Yfu e3 ?_
  refine Yfu e4 ?_
  refine do_c (op := (kd, m, p, q, d)) hJ (by omega) q0 (by omega) fun c' he => ?_
  rw [Zgk35]
  refine Yey (Yal ?_)
  intro w hw
  have hw64 : IntKind.wrap .i64 ((i : Int) + 1) = (i : Int) + 1 := w64 (by omega) (by omega)
  have := he.2.1
  have := he.2.2.1
  exact hcc (60 - (i + 1)) (IntKind.wrap .i64 ((i : Int) + 1), ()) (by omega) ⟨i + 1, hw64, by omega, rfl⟩ w (Yde c' (Sat.puI ⟨he.1, by omega, by simp only [hw64]; omega⟩ hw))
 ·rw [Zgk37]
  exact Yas fin
end
end
section
open Go Go.ChangeShapes Go.WideShapes Go.ChangeAt Go.RowKit
theorem own : ownKnob Tryz.prog.godebug = none := by kernel_rfl
theorem kids : Kids Tryz.prog (· < Tryz.prog.types.size) := kids_rows (by kernel_rfl) (by kernel_rfl)
theorem full : ∀ t e, t < Tryz.prog.types.size → Tryz.prog.underlying t = some (.slice e) → 0 < Tryz.prog.cellsOf e := slices_full_of Tryz.prog (by kernel_rfl)
theorem cells3 : Tryz.prog.cellsOf 3 = 1 := by kernel_rfl
section
variable {H : Type} {enc : TypeId × Value → H} {P : Program} {W W' : World} {b : Nat} {sp : Nat → Bool} {hd : Bool}
theorem carryAll : ∀ {ts : List TypeId} {vs : List Value} {ds : List (DataW H)} {ps : List MemPlace}, DataW.TrodAll enc P W b sp hd ts vs ds ps → (∀ p ∈ ps, W.sameAt W' p) → DataW.TrodAll enc P W' b sp hd ts vs ds ps
 |[], [], [], _, h, _ => h
 |_ :: _, _ :: _, _ :: _, _, ⟨_, _, ⟨n, hn⟩, h2, e⟩, hs =>
  ⟨_, _, ⟨n, DataW.trod_carry n _ _ _ hn (fun x hx => hs x (by rw [e]; exact List.mem_append_left _ hx))⟩, carryAll h2 (fun x hx => hs x (by rw [e]; exact List.mem_append_right _ hx)), e⟩
theorem Yyg {fs : Array Field} {t : TypeId} {m : Nat} {cs : List Value} {x : DataW H × List MemPlace} (ht : Tryz.prog.underlying t = some (.struct fs)) (h : DataW.trod enc Tryz.prog W b sp hd m t cs = some x) (j : Nat) {f : Field}
  (hf : fs[j]? = some f) (h3 : f.type = 3) : ∃ n : Int, cs[f.offset]? = some (.int .i64 n) ∧ (Lit.int .i64 n).wf = true := by
 obtain ⟨xs, n, _, _, _, hxl, hfld⟩ := DataW.trod_struct ht h
 have hj : j < fs.size := (Array.getElem?_eq_some_iff.1 hf).1
 have h1 := hfld j f hf
 rw [List.getElem?_eq_getElem (by omega), h3] at h1
 obtain ⟨n, hn, _, hw⟩ := DataW.trod_int Tryz.underlying3 h1
 rw [cells3] at hn
 refine ⟨n, ?_, hw⟩
 have : ((cs.drop f.offset).take 1)[0]? = some (.int .i64 n) := by rw [hn]; rfl
 simpa using this
theorem Vdw {f : Func} {s : ChangeSpec} {fresh handsOn again : Bool} {args : Array Value} {ds : List (DataW H)} {before : List MemPlace}
  (hW : DataW.Whole enc Tryz.prog f.params.toList s.vars false W args.toList ds [] before) (hA : DataW.TrodAll enc Tryz.prog W 0 (fun _ => true) true f.params.toList args.toList ds before)
  (hb : Below W.heap.size W W') (hv : s.vars = []) (hp : ∀ t ∈ f.params.toList, t < Tryz.prog.types.size) (hr : f.resultTypes = #[4]) (hfn : s.fn H ds = { results := [.lit (.bool true)], args := ds }) :
  s.post enc Tryz.prog f false fresh handsOn again W args (.bool true) W' := by
 have hold : ∀ p ∈ before, (fun b => decide (b < W.heap.size)) p.block = true := fun p hp => by simpa using hW.lt p hp
 have hT : ∀ sp : Nat → Bool, (∀ p ∈ before, sp p.block = true) → DataW.TrodAll enc Tryz.prog W' 0 sp true f.params.toList args.toList ds before :=
  fun sp hsp => carryAll (DataW.TrodAll.respare kids full hp hA hsp) (fun p hp => hb.same (hW.lt p hp))
 have hRes : ∀ (b : Nat) (sp : Nat → Bool) (hd : Bool), DataW.TrodAll enc Tryz.prog W' b sp hd f.resultTypes.toList ((Value.bool true).resultList f.resultTypes.size) [DataW.lit (.bool true)] [] := by
  intro b sp hd
  rw [hr]
  exact trodAll_cons_mk (shut_bool Tryz.underlying4 _) trodAll_mk0
 have hVar : ∀ sp, DataW.TrodVars enc Tryz.prog W' sp s.vars ([] : List (DataW H)) [] := fun sp => by rw [hv]; rfl
 have hlt := hW.lt
 have hfn' : s.fn H (ds ++ []) = { results := [.lit (.bool true)], args := ds } := by rw [List.append_nil]; exact hfn
 have hR : ∀ (b : Nat) (sp : Nat → Bool) (hd : Bool), DataW.TrodAll enc Tryz.prog W' b sp hd f.resultTypes.toList ((Value.bool true).resultList f.resultTypes.size) (s.fn H (ds ++ [])).results [] := by
  rw [hfn']; exact hRes
 have hAr : ∀ sp : Nat → Bool, (∀ p ∈ before, sp p.block = true) → DataW.TrodAll enc Tryz.prog W' 0 sp true f.params.toList args.toList (s.fn H (ds ++ [])).args before := by
  rw [hfn']; exact hT
 have hVr : ∀ sp, DataW.TrodVars enc Tryz.prog W' sp s.vars (s.fn H (ds ++ [])).vars [] := by
  rw [hfn']; exact hVar
 refine ⟨ds, [], before, [], before, [], hW, hR _ _ _, hAr _ hold, hVr _, World.keptBut_mono (fun p hp => ⟨hp, ?_⟩) (hb.frame (· ∈ before)), fun _ => ?_⟩
 ·exact Or.inr (Or.inl hp)
 ·obtain ⟨_, _, _, _, hq, hz, hn⟩ := hW
  refine ⟨ok_one (by rw [hr]) rfl (okWide_bool_mk Tryz.underlying4 _), _, _, ([] ++ before) ++ [], ⟨[] ++ before, [], trodAll_append (hAr _ (fun _ _ => rfl)) (hR _ _ _), hVr _, rfl, ?_, ?_⟩, ?_⟩
  ·intro b off hp
   have hp : MemPlace.cell b off ∈ before := by simpa using hp
   rw [hb.frozen (p := ⟨b, off, none⟩) (hlt _ hp)]
   exact hz b off hp
  ·intro ha
   simpa using hn ha
  ·intro p hp _
   simpa using hp
end
end
section
open Go Go.ChangeShapes Go.WideShapes Go.ChangeAt Go.RowKit
section
variable {H : Type} {enc : TypeId × Value → H} {W : World} {b : Nat} {sp : Nat → Bool} {hd : Bool}
theorem Vfq : Sat W emp W := ⟨⟨fun _ => none, rfl, fun _ _ h => by cases h⟩, Below.refl _ _⟩
end
end
section
open Go Go.ChangeShapes Go.WideShapes Go.ChangeAt Go.RowKit
theorem cells38 : Tryz.prog.cellsOf 38 = 5 := by kernel_rfl
theorem bounds_i8' {n : Int} (h : (Lit.int .i8 n).wf = true) : -128 ≤ n ∧ n ≤ 127 := by
 simp [Lit.wf, IntKind.min, IntKind.max, IntKind.signed, IntKind.bits] at h
 omega
section
variable {H : Type} {enc : TypeId × Value → H} {W : World} {b : Nat} {sp : Nat → Bool} {hd : Bool}
theorem Vdx {a : Option Addr} {len cap : Nat} {d : DataW H} {ps : List MemPlace} (h : DataW.Trod enc Tryz.prog W b sp hd 23 (.slice a len cap) d ps) : Scr5 W ⟨a, len, cap⟩ := by
 obtain ⟨fuel, hf⟩ := h
 rcases DataW.trod_slice (show Tryz.prog.underlying 23 = some (.slice 38) by kernel_rfl) hf with ⟨hcs, _⟩ | ⟨a', len', cap', elems, rest, n, _, hcs, _, _, _, _, hlen, hel, _, _⟩
 ·simp [Value.cells] at hcs
  obtain ⟨rfl, rfl, rfl⟩ := hcs
  intro i hi
  exact absurd hi (Nat.not_lt_zero i)
 ·simp [Value.cells] at hcs
  obtain ⟨rfl, rfl, rfl⟩ := hcs
  intro i hi
  refine ⟨a', rfl, ?_⟩
  have hi' : i < len := hi
  have h := hel i hi'
  rw [List.getElem?_eq_getElem (by omega), cells38] at h
  obtain ⟨cs, hc, hd⟩ := Option.bind_eq_some_iff.1 h
  obtain ⟨_, hl, hcell⟩ := World.cells?_some hc
  obtain ⟨n0, e0, _⟩ := Yyg Tryz.underlying38 hd 0 rfl rfl
  obtain ⟨n1, e1, _⟩ := Yyg Tryz.underlying38 hd 1 rfl rfl
  obtain ⟨n2, e2, _⟩ := Yyg Tryz.underlying38 hd 2 rfl rfl
  obtain ⟨n3, e3, _⟩ := Yyg Tryz.underlying38 hd 3 rfl rfl
  obtain ⟨n4, e4, _⟩ := Yyg Tryz.underlying38 hd 4 rfl rfl
  exact ⟨n0, n1, n2, n3, n4, (hcell 0 (by omega)).trans e0, (hcell 1 (by omega)).trans e1, (hcell 2 (by omega)).trans e2, (hcell 3 (by omega)).trans e3, (hcell 4 (by omega)).trans e4⟩
theorem ends {x0 : Int} {x1 x2 : Sl} (h0 : -128 ≤ x0) (h1 : x0 ≤ 127) (hx1 : Scr5 W x1) (hx2 : Scr5 W x2) :
  Calls Tryz.prog 3 #[.int .i8 x0, x1.v, x2.v] W fun e w' => e = .returned (.bool true) ∧ Below W.heap.size W w' := by
 have h : Yfl x0 x1 x2 (fun b w' => b = true ∧ Below W.heap.size W w') W :=
  Yzy (B := W) (R := emp) h0 h1 hx1 hx2 (k := fun b w' => b = true ∧ Below W.heap.size W w') (fun w hw => ⟨rfl, hw.2⟩) W Vfq
 refine Calls.mono h fun e w' ⟨x, he, hx, hb⟩ => ⟨?_, hb⟩
 rw [he, hx]
end
theorem Ywc (H : Type) (enc : TypeId × Value → H) (W : World) (base : Nat) (args : Array Value) (ds gs : List (DataW H)) (before : List MemPlace)
  (hval : ∀ (j : Nat) t v, Tryz.f3.params[j]? = some t → args[j]? = some v → Value.okWide Tryz.prog W .any base t v)
  (hW : DataW.Whole enc Tryz.prog Tryz.f3.params.toList Rows.cycleEndsSpec.vars false W args.toList ds gs before) :
  Calls Tryz.prog 3 args W fun e W' => ∃ v, e = .returned v ∧ Rows.cycleEndsSpec.post enc Tryz.prog Tryz.f3 false true false false W args v W' := by
 have hW' := hW
 obtain ⟨p, q, hA0, hV, rfl, hfz, hnd⟩ := hW
 have hA : DataW.TrodAll enc Tryz.prog W 0 (fun _ => true) true Tryz.f3.params.toList args.toList ds p := hA0
 have hAk := hA
 rw [Tryz.params3] at hA hval
 obtain ⟨v0, v1, v2, d0, d1, d2, p0, p1, p2, rfl, rfl, rfl, h0, h1, h2⟩ := trodAll_three hA
 obtain ⟨rfl, rfl⟩ := trodVars_none hV
 obtain ⟨a0, rfl, rfl, rfl, w0⟩ := open_int (show Tryz.prog.underlying 22 = some (.int .i8) by kernel_rfl) (hval 0 22 v0 (by simp) (by simp)) h0
 obtain ⟨a, len, cap, rfl⟩ := okWide_slice (show Tryz.prog.underlying 23 = some (.slice 38) by kernel_rfl) (hval 1 23 v1 (by simp) (by simp))
 obtain ⟨a', len', cap', rfl⟩ := okWide_slice (show Tryz.prog.underlying 23 = some (.slice 38) by kernel_rfl) (hval 2 23 v2 (by simp) (by simp))
 have hb := bounds_i8' w0
 simp only [List.append_nil] at hW'
 refine (ends (x1 := ⟨a, len, cap⟩) (x2 := ⟨a', len', cap'⟩) hb.1 hb.2 (Vdx h1) (Vdx h2)).mono fun e W' ⟨he, hg⟩ => ?_
 subst he
 exact ⟨_, rfl, Vdw hW' hAk hg rfl (by rw [Tryz.params3]; decide) (by kernel_rfl) rfl⟩
set_option maxRecDepth 100000 in
theorem Yzz (os : Os) (started : os.Started) (H : Type) (enc : TypeId × Value → H) :
  ReturnsInHanded {} Tryz.checked os 3 .any (Rows.cycleEndsSpec.pre6 enc Tryz.prog Tryz.f3 Rows.cycleEndsRow.domain false) (Rows.cycleEndsSpec.post enc Tryz.prog Tryz.f3 false true false false) := by
 refine returnsInHanded_of_change (C := Tryz.checked) own started (by kernel_rfl) Tryz.func3
  (ChangeSpec.witness6 (enc := enc) (C := Tryz.checked) false ⟨#[], #[.int .i8 0, .slice none 0 0, .slice none 0 0], []⟩ 8 (by kernel_rfl) (by kernel_rfl) (by kernel_rfl) (by kernel_rfl)) ?_
 intro W base args ds gs before hval hW _ _
 exact Ywc H enc W base args ds gs before hval hW
theorem endsSaid : Rows.CycleEndsSaid :=
 OpenClaim.holds_of_wide 3 Tryz.f3 rfl rfl rfl rfl rfl rfl rfl ⟨rfl, rfl, rfl, rfl, rfl⟩ rfl rfl rfl rfl rfl (by kernel_rfl) Tryz.func3 (by kernel_rfl)
  (of_decide_eq_true (by kernel_rfl)) (by unfold Func.isWrapper; first | (rw [if_pos (by decide +kernel)]; kernel_rfl) | (rw [if_neg (by decide +kernel)]; exact ⟨rfl, rfl⟩))
  (fun os started H enc _ => Yzz os started H enc)
#print axioms endsSaid
end
end Go.Proofs.YtdgcbapclnnkkaaGreat.X
