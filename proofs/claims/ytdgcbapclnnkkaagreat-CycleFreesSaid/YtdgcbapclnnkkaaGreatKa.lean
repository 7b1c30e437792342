/- Part 1 of the proof that the law holds for every input: the theorems of this part. Conditions: each theorem bears its own; the last has none. -/
import Derived.Orders
import Derived.OrdersIn
import Derived.OwnWalkIn
import Derived.KernelRfl
import Derived.Laws.Sem
import Derived.Laws.StructEq
import Derived.RangeFuncSeq
import Derived.Below
import Derived.Laws.AppendOwn
import Derived.RangeFuncNested
import Derived.RangeFuncBound
import Derived.RangeFuncCalls
import Derived.RangeFuncLeaves
import Derived.Test.YtdgcbapclnnkkaaGreatProg
set_option linter.all false
set_option maxRecDepth 4000
namespace Go.Proofs.YtdgcbapclnnkkaaGreat.X
open Go
def Ext (w w' : World) : Prop := w.heap.size ≤ w'.heap.size ∧ ∀ b, b < w.heap.size → w'.heap[b]? = w.heap[b]?
theorem Ext.refl (w : World) : Ext w w := ⟨Nat.le_refl _, fun _ _ => rfl⟩
theorem Ext.trans {a b c : World} (h : Ext a b) (h' : Ext b c) : Ext a c :=
 ⟨Nat.le_trans h.1 h'.1, fun x hx => (h'.2 x (Nat.lt_of_lt_of_le hx h.1)).trans (h.2 x hx)⟩
theorem Ext.push (w : World) (o : Obj) : Ext w { w with heap := w.heap.push o } :=
 ⟨by simp, fun b hb => by simp [Array.getElem?_push, Nat.ne_of_lt hb]⟩

def runsPure (P : Program) (s : Sem Next) (v : Value) : Prop := ∀ w, s.run P w = .ok (.value v) w
def runsRead (P : Program) (s : Sem Next) (v : Value) (w : World) : Prop := ∀ w', Ext w w' → s.run P w' = .ok (.value v) w'
def runsAlloc (P : Program) (s : Sem Next) (f : Nat → Value) (o : Obj) : Prop :=
 ∀ w : World, s.run P w = .ok (.value (f w.heap.size)) { w with heap := w.heap.push o }
def effTo (P : Program) (s : Sem Next) (w : World) (R : Value → World → Prop) : Prop :=
 match s.run P w with
 |.ok (.value v) w' => R v w'
 |.ok .skip w' => R undef w'
 |.ok (.enter f args) w' => Calls P f args w' fun e w'' => ∃ v, e = .returned v ∧ R v w''
 |.ok (.round l f tmps assign body) w' => RoundIn Fence.wide 0 P l f tmps assign body w' fun e w'' => ∃ v, e = .returned v ∧ R v w''
 |_ => False
theorem effTo.mono {P : Program} {s : Sem Next} {w : World} {R R' : Value → World → Prop} (h : ∀ v w, R v w → R' v w) (hh : effTo P s w R) : effTo P s w R' := by
 unfold effTo at *
 split at hh
 ·exact h _ _ hh
 ·exact h _ _ hh
 ·exact hh.mono fun e w'' ⟨v, he, hr⟩ => ⟨v, he, h _ _ hr⟩
 ·exact hh.mono fun e w'' ⟨v, he, hr⟩ => ⟨v, he, h _ _ hr⟩
 ·exact hh.elim
theorem runsRead.push {P : Program} {s : Sem Next} {v : Value} {w w' : World} (h : runsRead P s v w) (he : Ext w w') : runsRead P s v w' :=
 fun w'' h'' => h w'' (he.trans h'')

inductive Cls where
 |pure | read | alloc | eff
 deriving DecidableEq
def clsOf (o : Oper) : Cls :=
 match o.op with
 |.move _ | .assign _ | .pick .. | .build .. | .nilCheck _ | .binOp .. | .unOp .. | .convert .. | .fieldAddr .. | .field .. | .indexAddr .. | .index .. | .extract .. | .makeFunc .. | .slice .. => .pure
 |.load .. | .lookup .. => .read
 |.alloc _ | .box .. | .buildSlice .. | .makeSlice .. | .makeMap .. => .alloc
 |.call c => match c.callee with
  |.builtin .len => .read
  |.builtin .min | .builtin .max => .pure
  |_ => .eff
 |_ => .eff

abbrev Pend := List (Nat × Sem Next × Value)
def Chk (P : Program) (B : Nat → Nat → Bool) (i : Nat) (pend : Pend) (w : World) : Prop :=
 ∀ x ∈ pend, B i x.1 = false → runsRead P x.2.1 x.2.2 w

section
variable (P : Program) (ops : Array Oper) (B : Nat → Nat → Bool)
abbrev wants (o : Oper) (a : Act) : Bool := Region.wanted o (yielded ops a.tmps)

def st1 (pend : Pend) (i : Nat) (K : Pend → Act → World → Prop) (a : Act) (w : World) : Prop :=
 ∃ o, ops[i]? = some o ∧
 ((wants ops o a = false ∧ K pend (a.put o.dst undef) w) ∨
  (wants ops o a = true ∧
  ((clsOf o = .pure ∧ ∃ v, runsPure P (execOp a.eval o) v ∧ K pend (a.put o.dst v) w) ∨
   (clsOf o = .read ∧ ∃ v, runsRead P (execOp a.eval o) v w ∧ K ((i, execOp a.eval o, v) :: pend) (a.put o.dst v) w) ∨
   (clsOf o = .alloc ∧ ∃ f ob, runsAlloc P (execOp a.eval o) f ob ∧ K pend (a.put o.dst (f w.heap.size)) { w with heap := w.heap.push ob }) ∨
   (clsOf o = .eff ∧ effTo P (execOp a.eval o) w fun v w' => Chk P B i pend w' ∧ K pend (a.put o.dst v) w'))))

def EV (Q : Act → World → Prop) : List Nat → Pend → Act → World → Prop
 |[], _, a, w => Q a w
 |i :: rest, pend, a, w => st1 P ops B pend i (EV Q rest) a w
end

section
variable {P : Program} {ops : Array Oper} {B : Nat → Nat → Bool}
theorem Chk.anti {i : Nat} {p p' : Pend} {w : World} (hp : ∀ x ∈ p', x ∈ p) (h : Chk P B i p w) : Chk P B i p' w := fun x hx hb => h x (hp x hx) hb

theorem st1.anti {i : Nat} {K K' : Pend → Act → World → Prop} {p p' : Pend} {a : Act} {w : World} (hp : ∀ x ∈ p', x ∈ p)
  (hK : ∀ p p' a w, (∀ x ∈ p', x ∈ p) → K p a w → K' p' a w) (h : st1 P ops B p i K a w) : st1 P ops B p' i K' a w := by
 obtain ⟨o, ho, h⟩ := h
 refine ⟨o, ho, ?_⟩
 rcases h with ⟨hw, h⟩ | ⟨hw, ⟨hc, v, hv, h⟩ | ⟨hc, v, hv, h⟩ | ⟨hc, f, ob, hv, h⟩ | ⟨hc, h⟩⟩
 ·exact .inl ⟨hw, hK _ _ _ _ hp h⟩
 ·exact .inr ⟨hw, .inl ⟨hc, v, hv, hK _ _ _ _ hp h⟩⟩
 ·refine .inr ⟨hw, .inr (.inl ⟨hc, v, hv, hK _ _ _ _ ?_ h⟩)⟩
  intro x hx
  rcases List.mem_cons.1 hx with rfl | hx
  ·exact List.mem_cons_self
  ·exact List.mem_cons_of_mem _ (hp x hx)
 ·exact .inr ⟨hw, .inr (.inr (.inl ⟨hc, f, ob, hv, hK _ _ _ _ hp h⟩))⟩
 ·exact .inr ⟨hw, .inr (.inr (.inr ⟨hc, h.mono fun v w' ⟨h1, h2⟩ => ⟨h1.anti hp, hK _ _ _ _ hp h2⟩⟩))⟩

theorem EV.anti {Q : Act → World → Prop} : ∀ {l : List Nat} {p p' : Pend} {a : Act} {w : World}, (∀ x ∈ p', x ∈ p) → EV P ops B Q l p a w → EV P ops B Q l p' a w := by
 intro l
 induction l with
 |nil => exact fun _ h => h
 |cons i rest ih => exact fun hp h => st1.anti hp (fun _ _ _ _ hp h => ih hp h) h

theorem EV.mono {Q Q' : Act → World → Prop} (hQ : ∀ a w, Q a w → Q' a w) : ∀ {l : List Nat} {p : Pend} {a : Act} {w : World}, EV P ops B Q l p a w → EV P ops B Q' l p a w := by
 intro l
 induction l with
 |nil => exact fun h => hQ _ _ h
 |cons i rest ih => exact fun h => st1.anti (fun _ h => h) (fun _ _ _ _ hp h => EV.anti hp (ih h)) h

/-- may the second be moved ahead of the first? -/
def indep (ops : Array Oper) (j i : Nat) : Bool :=
 match ops[j]?, ops[i]? with
 |some x, some y => x.apart ops y && (match clsOf x, clsOf y with
  |.pure, _ | _, .pure | .read, _ => true
  |_, _ => false) && (match x.op with | .select .. => false | _ => true) && (match y.op with | .select .. => false | _ => true)
 |_, _ => false

theorem effTo.wit {P : Program} {s : Sem Next} {w : World} {R : Value → World → Prop} (h : effTo P s w R) : ∃ v w', R v w' := by
 unfold effTo at h
 split at h
 ·exact ⟨_, _, h⟩
 ·exact ⟨_, _, h⟩
 ·obtain ⟨e, w', fr, ⟨v, _, hr⟩, _⟩ := h []
  exact ⟨v, w', hr⟩
 ·obtain ⟨e, w', ⟨v, _, hr⟩, _⟩ := h.2 default [] (room_wide _)
  exact ⟨v, w', hr⟩
 ·exact h.elim
theorem runsPure.uniq {P : Program} {s : Sem Next} {u v : Value} (w : World) (h : runsPure P s u) (h' : runsPure P s v) : u = v := by
 have := (h w).symm.trans (h' w)
 simpa using this

theorem st1.swap {i j : Nat} {K : Pend → Act → World → Prop} {p : Pend} {a : Act} {w : World} (hi : indep ops j i = true) (hB : B i j = false)
  (hK : ∀ p p' a w, (∀ x ∈ p', x ∈ p) → K p a w → K p' a w)
  (h : st1 P ops B p j (fun p => st1 P ops B p i K) a w) : st1 P ops B p i (fun p => st1 P ops B p j K) a w := by
 obtain ⟨x, hx, h⟩ := h
 unfold indep at hi
 simp only [hx] at hi
 cases hy : ops[i]? with
 |none => simp [hy] at hi
 |some y =>
 simp only [hy, Bool.and_eq_true] at hi
 obtain ⟨⟨⟨hap, hcl⟩, hsx⟩, hsy⟩ := hi
 obtain ⟨h1, h2, h3⟩ := Oper.apart_spec hap
 have selx : ∀ cs b, x.op ≠ .select cs b := by intro cs b e; simp [e] at hsx
 have sely : ∀ cs b, y.op ≠ .select cs b := by intro cs b e; simp [e] at hsy
 have ey : ∀ v, execOp (a.put x.dst v).eval y = execOp a.eval y := fun v => execOp_put y sely a x.dst v h1
 have wy : ∀ v, wants ops y (a.put x.dst v) = wants ops y a := fun v => wanted_put y a x.dst v h1
 have ex : ∀ v, execOp (a.put y.dst v).eval x = execOp a.eval x := fun v => execOp_put x selx a y.dst v h3
 have wx : ∀ v, wants ops x (a.put y.dst v) = wants ops x a := fun v => wanted_put x a y.dst v h3
 have pc : ∀ v u, (a.put x.dst v).put y.dst u = (a.put y.dst u).put x.dst v := fun v u => Act.put_comm a v u h2
 -- the first, as something that only puts a value
 have pureLike : ∀ v, (∀ a', execOp a'.eval x = execOp a.eval x → wants ops x a' = wants ops x a → ∀ p' w' K', K' p' (a'.put x.dst v) w' → st1 P ops B p' j K' a' w') →
   st1 P ops B p i K (a.put x.dst v) w → st1 P ops B p i (fun p => st1 P ops B p j K) a w := by
  intro v hst hh
  obtain ⟨y', hy', hh⟩ := hh
  obtain rfl : y = y' := by rw [hy] at hy'; exact Option.some.inj hy'
  rw [ey, wy] at hh
  refine ⟨y, hy, ?_⟩
  rcases hh with ⟨hw, hh⟩ | ⟨hw, ⟨hc, u, hv, hh⟩ | ⟨hc, u, hv, hh⟩ | ⟨hc, f, ob, hv, hh⟩ | ⟨hc, hh⟩⟩
  ·exact .inl ⟨hw, hst _ (ex _) (wx _) _ _ _ (by rw [← pc]; exact hh)⟩
  ·exact .inr ⟨hw, .inl ⟨hc, u, hv, hst _ (ex _) (wx _) _ _ _ (by rw [← pc]; exact hh)⟩⟩
  ·exact .inr ⟨hw, .inr (.inl ⟨hc, u, hv, hst _ (ex _) (wx _) _ _ _ (by rw [← pc]; exact hh)⟩)⟩
  ·exact .inr ⟨hw, .inr (.inr (.inl ⟨hc, f, ob, hv, hst _ (ex _) (wx _) _ _ _ (by rw [← pc]; exact hh)⟩))⟩
  ·exact .inr ⟨hw, .inr (.inr (.inr ⟨hc, hh.mono fun u w' ⟨c1, c2⟩ => ⟨c1, hst _ (ex _) (wx _) _ _ _ (by rw [← pc]; exact c2)⟩⟩))⟩
 rcases h with ⟨hwx, h⟩ | ⟨hwx, ⟨hcx, v, hvx, h⟩ | ⟨hcx, v, hvx, h⟩ | ⟨hcx, f, ob, hvx, h⟩ | ⟨hcx, h⟩⟩
 ·exact pureLike undef (fun a' he hw' p' w' K' hk => ⟨x, hx, .inl ⟨by rw [hw']; exact hwx, hk⟩⟩) h
 ·exact pureLike v (fun a' he hw' p' w' K' hk => ⟨x, hx, .inr ⟨by rw [hw']; exact hwx, .inl ⟨hcx, v, by rw [he]; exact hvx, hk⟩⟩⟩) h
 ·-- a read
  obtain ⟨y', hy', h⟩ := h
  obtain rfl : y = y' := by rw [hy] at hy'; exact Option.some.inj hy'
  rw [ey, wy] at h
  have back : ∀ (u : Value) (p' : Pend) (w' : World), runsRead P (execOp a.eval x) v w' → K ((j, execOp a.eval x, v) :: p') ((a.put x.dst v).put y.dst u) w' →
    st1 P ops B p' j K (a.put y.dst u) w' := fun u p' w' hr hk =>
   ⟨x, hx, .inr ⟨by rw [wx]; exact hwx, .inr (.inl ⟨hcx, v, by rw [ex]; exact hr, by rw [ex, ← pc]; exact hk⟩)⟩⟩
  refine ⟨y, hy, ?_⟩
  rcases h with ⟨hw, hh⟩ | ⟨hw, ⟨hc, u, hv, hh⟩ | ⟨hc, u, hv, hh⟩ | ⟨hc, f, ob, hv, hh⟩ | ⟨hc, hh⟩⟩
  ·exact .inl ⟨hw, back _ _ _ hvx hh⟩
  ·exact .inr ⟨hw, .inl ⟨hc, u, hv, back _ _ _ hvx hh⟩⟩
  ·refine .inr ⟨hw, .inr (.inl ⟨hc, u, hv, back _ _ _ hvx (hK _ _ _ _ ?_ hh)⟩)⟩
   intro z hz
   simp only [List.mem_cons] at hz ⊢
   rcases hz with h | h | h
   ·exact .inr (.inl h)
   ·exact .inl h
   ·exact .inr (.inr h)
  ·exact .inr ⟨hw, .inr (.inr (.inl ⟨hc, f, ob, hv, back _ _ _ (hvx.push (Ext.push w ob)) hh⟩))⟩
  ·refine .inr ⟨hw, .inr (.inr (.inr ⟨hc, ?_⟩))⟩
   exact hh.mono fun u w' ⟨c1, c2⟩ => ⟨c1.anti fun z hz => List.mem_cons_of_mem _ hz, back _ _ _ (c1 _ List.mem_cons_self hB) c2⟩
 ·-- an allocation: the other is pure
  have hcy : clsOf y = .pure := by rw [hcx] at hcl; revert hcl; cases clsOf y <;> simp
  obtain ⟨y', hy', h⟩ := h
  obtain rfl : y = y' := by rw [hy] at hy'; exact Option.some.inj hy'
  rw [ey, wy] at h
  have back : ∀ (u : Value) (p' : Pend), K p' ((a.put x.dst (f w.heap.size)).put y.dst u) { w with heap := w.heap.push ob } →
    st1 P ops B p' j K (a.put y.dst u) w := fun u p' hk =>
   ⟨x, hx, .inr ⟨by rw [wx]; exact hwx, .inr (.inr (.inl ⟨hcx, f, ob, by rw [ex]; exact hvx, by rw [← pc]; exact hk⟩))⟩⟩
  refine ⟨y, hy, ?_⟩
  rcases h with ⟨hw, hh⟩ | ⟨hw, ⟨hc, u, hv, hh⟩ | ⟨hc, _⟩ | ⟨hc, _⟩ | ⟨hc, _⟩⟩
  ·exact .inl ⟨hw, back _ _ hh⟩
  ·exact .inr ⟨hw, .inl ⟨hc, u, hv, back _ _ hh⟩⟩
  ·rw [hcy] at hc; cases hc
  ·rw [hcy] at hc; cases hc
  ·rw [hcy] at hc; cases hc
 ·-- an effect: the other is pure
  have hcy : clsOf y = .pure := by rw [hcx] at hcl; revert hcl; cases clsOf y <;> simp
  obtain ⟨v0, w0, hc0, h0⟩ := effTo.wit h
  obtain ⟨y', hy', h0⟩ := h0
  obtain rfl : y = y' := by rw [hy] at hy'; exact Option.some.inj hy'
  rw [ey, wy] at h0
  refine ⟨y, hy, ?_⟩
  rcases h0 with ⟨hw, _⟩ | ⟨hw, ⟨hc, u, hv, _⟩ | ⟨hc, _⟩ | ⟨hc, _⟩ | ⟨hc, _⟩⟩
  ·refine .inl ⟨hw, x, hx, .inr ⟨by rw [wx]; exact hwx, .inr (.inr (.inr ⟨hcx, ?_⟩))⟩⟩
   rw [ex]
   refine h.mono fun v w' ⟨c1, c2⟩ => ⟨c1, ?_⟩
   obtain ⟨y', hy', c2⟩ := c2
   obtain rfl : y = y' := by rw [hy] at hy'; exact Option.some.inj hy'
   rw [ey, wy] at c2
   rcases c2 with ⟨_, hh⟩ | ⟨hw', _⟩
   ·rw [← pc]; exact hh
   ·rw [hw] at hw'; cases hw'
  ·refine .inr ⟨hw, .inl ⟨hc, u, hv, x, hx, .inr ⟨by rw [wx]; exact hwx, .inr (.inr (.inr ⟨hcx, ?_⟩))⟩⟩⟩
   rw [ex]
   refine h.mono fun v w' ⟨c1, c2⟩ => ⟨c1, ?_⟩
   obtain ⟨y', hy', c2⟩ := c2
   obtain rfl : y = y' := by rw [hy] at hy'; exact Option.some.inj hy'
   rw [ey, wy] at c2
   rcases c2 with ⟨hw', _⟩ | ⟨_, ⟨_, u', hv', hh⟩ | ⟨hc', _⟩ | ⟨hc', _⟩ | ⟨hc', _⟩⟩
   ·rw [hw] at hw'; cases hw'
   ·obtain rfl := hv.uniq w hv'
    rw [← pc]; exact hh
   ·rw [hcy] at hc'; cases hc'
   ·rw [hcy] at hc'; cases hc'
   ·rw [hcy] at hc'; cases hc'
  ·rw [hcy] at hc; cases hc
  ·rw [hcy] at hc; cases hc
  ·rw [hcy] at hc; cases hc

theorem EV.front {Q : Act → World → Prop} {i : Nat} {R : List Nat} : ∀ {A : List Nat} {p : Pend} {a : Act} {w : World},
  (∀ j ∈ A, indep ops j i = true ∧ B i j = false) → EV P ops B Q (A ++ i :: R) p a w → EV P ops B Q (i :: (A ++ R)) p a w := by
 intro A
 induction A with
 |nil => exact fun _ h => h
 |cons j A ih =>
  intro p a w hA h
  have hA' : ∀ k ∈ A, indep ops k i = true ∧ B i k = false := fun k hk => hA k (List.mem_cons_of_mem _ hk)
  have h1 : st1 P ops B p j (EV P ops B Q (i :: (A ++ R))) a w := st1.anti (fun _ h => h) (fun _ _ _ _ hp h => EV.anti hp (ih hA' h)) h
  obtain ⟨hij, hB⟩ := hA j List.mem_cons_self
  exact st1.swap hij hB (fun _ _ _ _ hp h => EV.anti hp h) h1

/-- the widest fence, in a round or in none -/
abbrev wd (ro : Option Nat) : Fence := { Fence.wide with round := ro }
theorem Vdt {P : Program} {ro : Option Nat} {n m l : Nat} {f : FuncId} {tmps : Array Value} {assign body : Code} {w : World} {R : Ending → World → Prop} (h : RoundIn Fence.wide n P l f tmps assign body w R) : RoundIn (wd ro) m P l f tmps assign body w R :=
 ⟨trivial, fun c cs _ => h.2 c cs (room_wide _)⟩
/-- one step, as the kit's -/
theorem st1.wpOp {ro : Option Nat} {fm : Nat} {Q : Exit → Act → World → Prop} {i : Nat} {K : Pend → Act → World → Prop} {p : Pend} {a : Act} {w : World} (h : st1 P ops B p i K a w) :
  Go.wpOpIn (wd ro) fm P ops Q i (fun a w => ∃ p, K p a w) a w := by
 obtain ⟨o, ho, h⟩ := h
 unfold Go.wpOpIn
 simp only [ho]
 rcases h with ⟨hw, h⟩ | ⟨hw, h⟩
 ·simp only [hw]; exact ⟨fun _ _ => trivial, _, h⟩
 ·simp only [hw, if_true]
  refine ⟨fun _ _ => trivial, ?_⟩
  have hdf : ∀ c, o.op ≠ .defer c := by
   intro c hc
   rcases h with ⟨hc', _⟩ | ⟨hc', _⟩ | ⟨hc', _⟩ | ⟨_, hh⟩
   ·simp [clsOf, hc] at hc'
   ·simp [clsOf, hc] at hc'
   ·simp [clsOf, hc] at hc'
   ·unfold effTo at hh
    simp only [execOp, hc, Sem.run_bind] at hh
    cases hr : (resolve a.eval c o.type).run P w <;> rw [hr] at hh <;> simp [Result.andThen] at hh
  rw [Oper.semAt_plain (wd ro) _ _ hdf]
  rcases h with ⟨hc, u, hv, hh⟩ | ⟨hc, u, hv, hh⟩ | ⟨hc, f, ob, hv, hh⟩ | ⟨hc, hh⟩
  ·rw [hv w]; exact ⟨_, hh⟩
  ·rw [hv w (Ext.refl w)]; exact ⟨_, hh⟩
  ·rw [hv w]; exact ⟨_, hh⟩
  ·unfold effTo at hh
   split at hh
   ·rename_i hr; rw [hr]; exact ⟨_, hh.2⟩
   ·rename_i hr; rw [hr]; exact ⟨_, hh.2⟩
   ·rename_i hr; rw [hr]
    refine ⟨fun h => absurd h (by simp [wd, Fence.wide]), callsIn_wide.2 (hh.mono fun e w'' ⟨v, he, hx⟩ => ?_)⟩
    subst he
    exact ⟨_, hx.2⟩
   ·rename_i hr; rw [hr]
    refine ⟨fun h => absurd h (by simp [wd, Fence.wide]), Vdt (hh.mono fun e w'' ⟨v, he, hx⟩ => ?_)⟩
    subst he
    exact ⟨_, hx.2⟩
   ·exact hh.elim

def edgesOk (ops : Array Oper) (B : Nat → Nat → Bool) : Bool :=
 (List.range ops.size).all fun i => match ops[i]? with
  |none => false
  |some o => o.after.all (fun e => !Region.binds .any e || B i e.on) &&
    (List.range ops.size).all fun j => !B i j || o.after.any fun e => Region.binds .any e && (e.on == j || B e.on j)
def pairsOk (ops : Array Oper) (B : Nat → Nat → Bool) : List Nat → Bool
 |[] => true
 |j :: rest => rest.all (fun i => B i j || indep ops j i) && pairsOk ops B rest
def topoOk (md : Region.Mode) (ops : Array Oper) : List Nat → List Nat → Bool
 |[], _ => true
 |i :: rest, seen => (match ops[i]? with
  |none => false
  |some o => o.after.all fun e => !Region.binds md e || seen.contains e.on) && topoOk md ops rest (i :: seen)
def nodupB : List Nat → Bool
 |[] => true
 |x :: l => !l.contains x && nodupB l
def allIn (n : Nat) (l : List Nat) : Bool := l.length == n && (List.range n).all l.contains && nodupB l && l.all (· < n)
def regionOk (ops : Array Oper) (B : Nat → Nat → Bool) (can gc : List Nat) : Bool :=
 allIn ops.size can && allIn ops.size gc && edgesOk ops B && pairsOk ops B can && topoOk .any ops gc [] && topoOk .text ops (List.range ops.size) [] && topoOk .gc ops gc []

theorem Ywe : ∀ {l : List Nat} (_ : pairsOk ops B l = true) {A : List Nat} {i : Nat} {R : List Nat}, l = A ++ i :: R → ∀ j ∈ A, B i j = true ∨ indep ops j i = true := by
 intro l
 induction l with
 |nil => intro _ A i R e; simp at e
 |cons x l ih =>
  intro h A i R e j hj
  simp only [pairsOk, Bool.and_eq_true, List.all_eq_true, Bool.or_eq_true] at h
  cases A with
  |nil => cases hj
  |cons y A =>
   simp only [List.cons_append, List.cons.injEq] at e
   obtain ⟨rfl, rfl⟩ := e
   rcases List.mem_cons.1 hj with rfl | hj
   ·exact h.1 i (by simp)
   ·exact ih h.2 rfl j hj

theorem Yq8 {md : Region.Mode} : ∀ {l seen : List Nat}, topoOk md ops l seen = true → ∀ (listed : Array Bool), (∀ j ∈ seen, listed.getD j false = true) →
  (∀ j ∈ l, j < listed.size) → Region.ready md ops listed = [] → ∀ j ∈ l, listed.getD j false = true := by
 intro l
 induction l with
 |nil => intro _ _ _ _ _ _ j hj; cases hj
 |cons i l ih =>
  intro seen h listed hs hlt hr j hj
  simp only [topoOk, Bool.and_eq_true] at h
  obtain ⟨h1, h2⟩ := h
  have hi : listed.getD i false = true := by
   cases ho : ops[i]? with
   |none => simp [ho] at h1
   |some o =>
    simp only [ho] at h1
    cases hl : listed.getD i false with
    |true => rfl
    |false =>
     exfalso
     have hlt' := hlt i List.mem_cons_self
     have : i ∈ Region.ready md ops listed := by
      rw [mem_ready]
      refine ⟨by simpa [hlt'] using hl, o, ho, fun e he hb => ?_⟩
      have h3 := Array.all_eq_true_iff_forall_mem.1 h1 e he
      simp only [hb, Bool.not_true, Bool.false_or, List.contains_iff_mem] at h3
      exact hs _ h3
     rw [hr] at this
     cases this
  rcases List.mem_cons.1 hj with rfl | hj
  ·exact hi
  ·refine ih h2 listed ?_ (fun k hk => hlt k (List.mem_cons_of_mem _ hk)) hr j hj
   intro k hk
   rcases List.mem_cons.1 hk with rfl | hk
   ·exact hi
   ·exact hs k hk

theorem EV.wpAny {ro : Option Nat} {fm : Nat} {md : Region.Mode} {Q : Exit → Act → World → Prop} {can T : List Nat} (hmd : ∀ e, Region.binds .any e = true → Region.binds md e = true)
  (he : edgesOk ops B = true) (hp : pairsOk ops B can = true) (hT : topoOk md ops T [] = true) (hTn : ∀ i, i < ops.size → i ∈ T) (hTs : ∀ i ∈ T, i < ops.size) :
  ∀ (fuel : Nat) (C : List Nat) (listed : Array Bool) (p : Pend) (a : Act) (w : World), C.length = fuel → C.Sublist can → C.Nodup →
   listed.size = ops.size → (∀ i, i < ops.size → (i ∈ C ↔ listed.getD i false = false)) → (∀ i ∈ C, i < ops.size) →
   (∀ i j, i < ops.size → listed.getD i false = true → B i j = true → j < ops.size → listed.getD j false = true) →
   EV P ops B (Q .normal) C p a w → wpAnyIn (wd ro) fm P md ops Q fuel listed a w := by
 intro fuel
 induction fuel with
 |zero =>
  intro C listed p a w hl hs hn hsz hC hCs hd h
  obtain rfl : C = [] := List.eq_nil_of_length_eq_zero hl
  refine ⟨?_, h⟩
  apply List.eq_nil_iff_forall_not_mem.2
  intro i hi
  obtain ⟨h0, o, ho, _⟩ := mem_ready.1 hi
  have hlt : i < ops.size := (Array.getElem?_eq_some_iff.1 ho).1
  have := (hC i hlt).2 (by simpa [hsz, hlt] using h0)
  cases this
 |succ fuel ih =>
  intro C listed p a w hl hs hn hsz hC hCs hd h
  refine ⟨fun hr => ?_, fun i hi => ?_⟩
  ·have hall := Yq8 hT listed (fun _ h => by cases h) (fun j hj => by rw [hsz]; exact hTs j hj) hr
   cases C with
   |nil => simp at hl
   |cons j C =>
    have hj := hCs j List.mem_cons_self
    have h1 := (hC j hj).1 List.mem_cons_self
    rw [hall j (hTn j hj)] at h1
    cases h1
  ·obtain ⟨h0, o, ho, hall⟩ := mem_ready.1 hi
   have hlt : i < ops.size := (Array.getElem?_eq_some_iff.1 ho).1
   have hif : listed.getD i false = false := by simpa [hsz, hlt] using h0
   have hiC : i ∈ C := (hC i hlt).2 hif
   obtain ⟨A, R, rfl⟩ := List.append_of_mem hiC
   -- none ahead of it must be done before it
   have hbefore : ∀ j, B i j = true → j < ops.size → listed.getD j false = true := by
    intro j hb hj
    unfold edgesOk at he
    simp only [List.all_eq_true, List.mem_range] at he
    have h1 := he i hlt
    simp only [ho, Bool.and_eq_true, List.all_eq_true, List.mem_range] at h1
    have h2 := h1.2 j hj
    simp only [hb, Bool.not_true, Bool.false_or] at h2
    obtain ⟨e, hem, h3⟩ := Array.any_eq_true'.1 h2
    simp only [Bool.and_eq_true, Bool.or_eq_true, beq_iff_eq] at h3
    have hon := hall e hem (hmd e h3.1)
    have honlt : e.on < ops.size := by
     rw [← hsz]
     rcases Nat.lt_or_ge e.on listed.size with h' | h'
     ·exact h'
     ·simp [Array.getElem?_eq_none h'] at hon
    rcases h3.2 with rfl | h4
    ·exact hon
    ·exact hd e.on j honlt hon h4 hj
   have hA : ∀ j ∈ A, indep ops j i = true ∧ B i j = false := by
    intro j hj
    have hjC : j ∈ A ++ i :: R := List.mem_append_left _ hj
    have hjlt := hCs j hjC
    have hjf := (hC j hjlt).1 hjC
    have hBf : B i j = false := by
     cases hb : B i j with
     |false => rfl
     |true => rw [hbefore j hb hjlt] at hjf; cases hjf
    refine ⟨?_, hBf⟩
    -- in 'can' j stands ahead of i, too
    obtain ⟨L1, L2, e, s1, s2⟩ := List.append_sublist_iff.1 hs
    obtain ⟨M1, M2, e2, s3, s4⟩ : ∃ M1 M2, L2 = M1 ++ i :: M2 ∧ True ∧ R.Sublist M2 := by
     obtain ⟨r₁, r₂, e', h1, h2⟩ := List.cons_sublist_iff.1 s2
     obtain ⟨u, v, huv⟩ := List.append_of_mem h1
     exact ⟨u, v ++ r₂, by rw [e', huv]; simp, trivial, h2.trans (List.sublist_append_right _ _)⟩
    have hj1 : j ∈ L1 ++ M1 := List.mem_append_left _ (s1.subset hj)
    have := Ywe hp (A := L1 ++ M1) (i := i) (R := M2) (by rw [e, e2]; simp) j hj1
    rw [hBf] at this
    simpa using this
   have hf := EV.front hA h
   refine wpOpIn_mono ?_ (st1.wpOp hf)
   rintro a' w' ⟨p', h'⟩
   refine ih (A ++ R) _ p' a' w' ?_ ?_ ?_ ?_ ?_ ?_ ?_ h'
   ·simp at hl ⊢; omega
   ·exact (List.Sublist.append (List.Sublist.refl A) (List.sublist_cons_self i R)).trans hs
   ·exact (List.Sublist.append (List.Sublist.refl A) (List.sublist_cons_self i R)).nodup hn
   ·simpa using hsz
   ·intro k hk
    by_cases hik : i = k
    ·subst hik
     have hnot : i ∉ A ++ R := by
      have := hn
      rw [List.nodup_append] at this
      simp only [List.nodup_cons] at this
      intro hm
      rcases List.mem_append.1 hm with hm | hm
      ·exact this.2.2 i hm i List.mem_cons_self rfl
      ·exact this.2.1.1 hm
     simp [hnot, hsz, hk]
    ·rw [getD_set_ne false hik, ← hC k hk]
     simp [List.mem_append, List.mem_cons, Ne.symm hik]
   ·intro k hk
    refine hCs k ?_
    rcases List.mem_append.1 hk with hm | hm
    ·exact List.mem_append_left _ hm
    ·exact List.mem_append_right _ (List.mem_cons_of_mem _ hm)
   ·intro k j hk hkl hb hj
    by_cases hik : i = k
    ·subst hik; exact getD_set_true (hbefore j hb hj)
    ·rw [getD_set_ne false hik] at hkl
     exact getD_set_true (hd k j hk hkl hb hj)

theorem Yq9 : ∀ {l : List Nat}, nodupB l = true → l.Nodup
 |[], _ => List.nodup_nil
 |x :: l, h => by
  simp only [nodupB, Bool.and_eq_true, Bool.not_eq_true', List.contains_eq_mem, decide_eq_false_iff_not] at h
  exact List.nodup_cons.2 ⟨h.1, Yq9 h.2⟩
theorem Yo2 {n : Nat} {l : List Nat} (h : allIn n l = true) : l.length = n ∧ (∀ i, i < n → i ∈ l) ∧ l.Nodup ∧ ∀ i ∈ l, i < n := by
 unfold allIn at h
 simp only [Bool.and_eq_true, beq_iff_eq, List.all_eq_true, List.mem_range, List.contains_iff_mem, decide_eq_true_eq] at h
 obtain ⟨⟨⟨h1, h2⟩, h3⟩, h4⟩ := h
 exact ⟨h1, h2, Yq9 h3, h4⟩

theorem Yyk {ro : Option Nat} {fm : Nat} {Q : Exit → Act → World → Prop} {id : Nat} {can gc : List Nat} {a : Act} {w : World} (hok : regionOk ops B can gc = true) (h : EV P ops B (Q .normal) can [] a { w with drawn := w.drawn + 1 }) : (Code.region id ops true).wpIn (wd ro) fm P Q a w := by
 unfold regionOk at hok
 simp only [Bool.and_eq_true] at hok
 obtain ⟨⟨⟨⟨⟨⟨h1, h2⟩, h3⟩, h4⟩, h5⟩, h6⟩, h7⟩ := hok
 obtain ⟨c1, c2, c3, c4⟩ := Yo2 h1
 obtain ⟨g1, g2, g3, g4⟩ := Yo2 h2
 have main : ∀ (md : Region.Mode) (T : List Nat), (∀ e, Region.binds .any e = true → Region.binds md e = true) → topoOk md ops T [] = true → (∀ i, i < ops.size → i ∈ T) → (∀ i ∈ T, i < ops.size) →
   wpAnyIn (wd ro) fm P md ops Q ops.size (Array.replicate ops.size false) a { w with drawn := w.drawn + 1 } := fun md T hmd hT hT1 hT2 =>
  EV.wpAny hmd h3 h4 hT hT1 hT2 ops.size can _ [] a _ c1 (List.Sublist.refl _) c3 (by simp)
   (fun i hi => by simp [c2 i hi, hi]) c4 (fun i j hi hl => by simp [hi] at hl) h
 refine wpIn_region_draw fun t => ?_
 unfold Region.schedule
 split
 ·exact wpAnyIn_sound ops.size t _ a _ (main .any gc (fun _ h => h) h5 g2 g4)
 ·split
  ·exact wpAnyIn_sound ops.size _ _ a _ (main .text (List.range ops.size) (fun e h => by revert h; unfold Region.binds; cases e.ground <;> simp) h6 (fun i hi => List.mem_range.2 hi) (fun i hi => List.mem_range.1 hi))
  ·exact wpAnyIn_sound ops.size _ _ a _ (main .gc gc (fun e h => by revert h; unfold Region.binds; cases e.ground <;> simp) h7 g2 g4)

theorem Ywf {ro : Option Nat} {fm : Nat} {Q : Exit → Act → World → Prop} {id : Nat} {a : Act} {w : World} (h : EV P ops B (Q .normal) (List.range ops.size) [] a w) :
  (Code.region id ops false).wpIn (wd ro) fm P Q a w := by
 refine wpIn_region ?_
 generalize List.range ops.size = l at h
 generalize ([] : Pend) = p at h
 induction l generalizing a w p with
 |nil => exact h
 |cons i l ih =>
  rw [wpOpsIn_cons]
  exact wpOpIn_mono (fun a w ⟨p, h⟩ => ih p h) (st1.wpOp h)
end
abbrev K := World → Prop
abbrev M (α : Type) := (α → K) → K
def kF : K := fun _ => False
def ret {α : Type} (x : α) : M α := fun k => k x
def tick : M Unit := fun k w => k () { w with drawn := w.drawn + 1 }

structure Sl where
 p : Option Addr
 n : Nat
 c : Nat
@[reducible] def Sl.v (s : Sl) : Value := .slice s.p s.n s.c

structure Fv where
 fn : Fn
 first : Array Value
 cap : Array Value
@[reducible] def Fv.v (s : Fv) : Value := .func s.fn s.first s.cap

inductive Sh where
 |int (k : IntKind) | bool | ptr | slice | map | str | any | func
def shOf : Value → Sh
 |.int k _ => .int k | .bool _ => .bool | .pointer _ => .ptr | .slice .. => .slice | .map _ => .map | .string _ => .str | .nilFunc => .func | _ => .any
def exSh : Sh → (Value → Prop) → Prop
 |.int k, φ => ∃ n : Int, φ (.int k n)
 |.bool, φ => ∃ b : Bool, φ (.bool b)
 |.ptr, φ => ∃ p : Option Addr, φ (.pointer p)
 |.slice, φ => ∃ s : Sl, φ s.v
 |.map, φ => ∃ r : Option Nat, φ (.map r)
 |.str, φ => ∃ s : ByteArray, φ (.string s)
 |.any, φ => ∃ v : Value, φ v
 |.func, φ => ∃ s : Fv, φ s.v
theorem exSh.some {s : Sh} {φ : Value → Prop} (h : exSh s φ) : ∃ v, φ v := by
 cases s <;> exact let ⟨_, h⟩ := h; ⟨_, h⟩

section tables
variable (P : Program)
def szP (t : TypeId) : Nat := match P.info? t with | some i => i.size | none => 0
def zeroP (t : TypeId) : Option Value := match P.info? t with | some i => i.zero | none => none
def aggP (t : TypeId) : Bool := match P.underlying t with | some (.struct _) | some (.array _ _) => true | _ => false
def arrP (t : TypeId) : Bool := match P.underlying t with | some (.array _ _) => true | _ => false
def zerosP (t : TypeId) : List Value := match zeroP P t with | some v => v.cells.toList | none => []
def shP (t : TypeId) : Sh := match zeroP P t with | some v => shOf v | none => .any
/-- structs that are taken apart: no arrays, at most sixteen cells -/
def thinP (t : TypeId) : Bool := !arrP P t && (zerosP P t).length ≤ 16
end tables

/-- what a read looked at -/
inductive Ft where
 |cell (a : Addr) (v : Value)
 |obj (r : Nat) (o : Obj)
def Ft.holds (w : World) : Ft → Prop
 |.cell a v => w.cell? a = some v
 |.obj r o => w.heap[r]? = some o ∧ (match o with | .cells .. => False | _ => True)
def chk : List Ft → M Unit
 |[] => fun k w => k () w
 |f :: fs => fun k w => f.holds w ∧ chk fs k w
theorem Yus {fs : List Ft} {k : Unit → K} {w : World} (h : chk fs k w) : (∀ f ∈ fs, f.holds w) ∧ k () w := by
 induction fs with
 |nil => exact ⟨fun _ h => (List.not_mem_nil h).elim, h⟩
 |cons f fs ih =>
  obtain ⟨h1, h2⟩ := h
  obtain ⟨h3, h4⟩ := ih h2
  exact ⟨fun g hg => (List.mem_cons.1 hg).elim (fun e => e ▸ h1) (fun hg => h3 g hg), h4⟩
theorem Ft.holds_ext {w w' : World} (he : Ext w w') : ∀ {f : Ft}, f.holds w → f.holds w' := by
 intro f h
 cases f with
 |cell a v =>
  unfold Ft.holds World.cell? at *
  have hlt : a.block < w.heap.size := by
   rcases Nat.lt_or_ge a.block w.heap.size with h' | h'
   ·exact h'
   ·simp [Array.getElem?_eq_none h'] at h
  simp only [he.2 _ hlt]; exact h
 |obj r o =>
  have hlt : r < w.heap.size := by
   rcases Nat.lt_or_ge r w.heap.size with h' | h'
   ·exact h'
   ·have := h.1; simp [Array.getElem?_eq_none h'] at this
  exact ⟨by rw [he.2 _ hlt]; exact h.1, h.2⟩

/-! loads -/
def ldK (sh : Sh) (a : Addr) (k : Value → K) : K := fun w => exSh sh fun v => w.cell? a = some v ∧ k v w
def ldCells (a : Addr) : List Sh → Nat → List Value → List Ft → (List Ft → List Value → K) → K
 |[], _, acc, fs, k => k fs acc
 |s :: l, i, acc, fs, k => ldK s (a.add i) fun v => ldCells a l (i + 1) (acc ++ [v]) (fs ++ [.cell (a.add i) v]) k
def feet (a : Addr) (cs : List Value) : List Ft := cs.zipIdx.map fun (v, i) => .cell (a.add i) v
/-- a whole array -/
def ldBlob (a : Addr) (n : Nat) : M (List Value) := fun k w => ∃ cs : List Value, cs.length = n ∧ (∀ i, i < n → w.cell? (a.add i) = cs[i]?) ∧ k cs w
def loadK (P : Program) (t : TypeId) (a : Addr) (k : List Ft → Value → K) : K :=
 bif aggP P t then
  bif thinP P t then ldCells a ((zerosP P t).map shOf) 0 [] [] (fun fs cs => k fs (.agg cs.toArray))
  else ldBlob a (szP P t) fun cs => k (feet a cs) (.agg cs.toArray)
 else ldK (shP P t) a fun v => k [.cell a v] v

/-! pure operations -/
def onSome {α : Type} (o : Option α) (f : α → K) : K := match o with | some x => f x | none => kF
def gd (b : Bool) (k : K) : K := match b with | true => k | false => kF
/-- the type is known, and has cells -/
def okT (P : Program) (t : TypeId) : Bool := match P.underlying t with | some _ => szP P t != 0 | none => false
def nn {α : Type} (p : Option Addr) (k : Addr → α → Prop) : α → Prop := match p with | some a => k a | none => fun _ => False
def ixS (s : Option Addr) (n : Nat) (i : Int) (sz : Nat) (k : Addr → K) : K := fun w => ∃ a, s = some a ∧ (0 ≤ i ∧ i < n) ∧ k (a.add (i.toNat * sz)) w
def ixA (a : Addr) (n : Nat) (i : Int) (sz : Nat) (k : Addr → K) : K := fun w => (0 ≤ i ∧ i < n) ∧ k (a.add (i.toNat * sz)) w
def bitI (op : BinOp) (k : IntKind) (x y : Int) : Int :=
 match op with
 |.and => k.wrap (BitVec.ofInt k.bits x &&& BitVec.ofInt k.bits y).toNat
 |.or => k.wrap (BitVec.ofInt k.bits x ||| BitVec.ofInt k.bits y).toNat
 |.xor => k.wrap (BitVec.ofInt k.bits x ^^^ BitVec.ofInt k.bits y).toNat
 |_ => k.wrap (BitVec.ofInt k.bits x &&& ~~~ BitVec.ofInt k.bits y).toNat
def shlI (k : IntKind) (x y : Int) : Int := k.wrap (x * 2 ^ (min y.toNat k.bits))
def shrI (k : IntKind) (x y : Int) : Int := x.fdiv (2 ^ (min y.toNat k.bits))
/-- a divisor that is not 0, a shift that is not below 0 -/
def nz (y : Int) (k : K) : K := if y = 0 then kF else k
def nneg (y : Int) (k : K) : K := if y < 0 then kF else k
def eqFs (P : Program) : List Field → Array Value → Array Value → Option Bool
 |[], _, _ => some true
 |f :: fs, xs, ys => bif f.name == "_" || !okT P f.type || aggP P f.type then none else
  match P.underlying f.type, xs[f.offset]?, ys[f.offset]? with
  |some (.int _), some (.int kx a), some (.int ky b) => if kx = ky then (match eqFs P fs xs ys with | some r => some ((a == b) && r) | none => none) else none
  |some .bool, some (.bool a), some (.bool b) => (match eqFs P fs xs ys with | some r => some ((a == b) && r) | none => none)
  |_, _, _ => none
/-- a comparison of arrays, as the model has it -/
def eqA (P : Program) (t : TypeId) (x y : Value) (k : Bool → K) : K := fun w => ∃ b, (∀ w', (Op.equal t x y).run P w' = .ok b w') ∧ k b w
def eqlK (P : Program) (t : TypeId) (x y : Value) (k : Bool → K) : K :=
 match x, y with
 |.bool a, .bool b => gd (match P.underlying t with | some .bool => true | _ => false) (k (a == b))
 |.pointer a, .pointer none => gd (match P.underlying t with | some (.pointer _) => true | _ => false) (k a.isNone)
 |.slice a _ _, .slice none _ _ => gd (match P.underlying t with | some (.slice _) => true | _ => false) (k a.isNone)
 |.string a, .string b => k (a.toList == b.toList)
 |.agg xs, .agg ys => (match P.underlying t with
  |some (.struct fs) => gd (!P.stoodInHeld t && !P.eqGuardType P.depth t) (onSome (eqFs P fs.toList xs ys) k)
  |some (.array _ _) => gd (!P.eqGuardType P.depth t) (eqA P t (.agg xs) (.agg ys) k)
  |_ => kF)
 |_, _ => kF
def binK (P : Program) (op : BinOp) (t : TypeId) (x y : Value) (k : Value → K) : K :=
 match op, x, y with
 |.shl, .int kx a, .int _ b => nneg b (k (.int kx (shlI kx a b)))
 |.shr, .int kx a, .int _ b => nneg b (k (.int kx (shrI kx a b)))
 |.add, .int kx a, .int ky b => if kx = ky then k (.int kx (kx.wrap (a + b))) else kF
 |.sub, .int kx a, .int ky b => if kx = ky then k (.int kx (kx.wrap (a - b))) else kF
 |.mul, .int kx a, .int ky b => if kx = ky then k (.int kx (kx.wrap (a * b))) else kF
 |.quo, .int kx a, .int ky b => if kx = ky then nz b (k (.int kx (kx.wrap (a.tdiv b)))) else kF
 |.rem, .int kx a, .int ky b => if kx = ky then nz b (k (.int kx (a.tmod b))) else kF
 |.and, .int kx a, .int ky b => if kx = ky then k (.int kx (bitI .and kx a b)) else kF
 |.or, .int kx a, .int ky b => if kx = ky then k (.int kx (bitI .or kx a b)) else kF
 |.xor, .int kx a, .int ky b => if kx = ky then k (.int kx (bitI .xor kx a b)) else kF
 |.andNot, .int kx a, .int ky b => if kx = ky then k (.int kx (bitI .andNot kx a b)) else kF
 |.eql, .int kx a, .int ky b => if kx = ky then k (.bool (a == b)) else kF
 |.neq, .int kx a, .int ky b => if kx = ky then k (.bool (a != b)) else kF
 |.lss, .int kx a, .int ky b => if kx = ky then k (.bool (a < b)) else kF
 |.leq, .int kx a, .int ky b => if kx = ky then k (.bool (a ≤ b)) else kF
 |.gtr, .int kx a, .int ky b => if kx = ky then k (.bool (a > b)) else kF
 |.geq, .int kx a, .int ky b => if kx = ky then k (.bool (a ≥ b)) else kF
 |.eql, x, y => eqlK P t x y fun b => k (.bool b)
 |.neq, x, y => eqlK P t x y fun b => k (.bool (!b))
 |_, _, _ => kF
def fieldOff (P : Program) (s : TypeId) (f : Nat) : Option Nat :=
 match P.underlying s with
 |some (.struct fs) => match fs[f]? with
  |some f => bif okT P f.type then some f.offset else none
  |none => none
 |_ => none
/-- what an element of a result looks like -/
inductive ESh where
 |sc (s : Sh) | agg (l : List Sh) | blob
inductive RSh where
 |one (e : ESh) | tup (l : List ESh)
def eShP (P : Program) (t : TypeId) : ESh :=
 match aggP P t with
 |true => (match thinP P t with | true => .agg ((zerosP P t).map shOf) | false => .blob)
 |false => .sc (shP P t)
def resSh (P : Program) (t : TypeId) : RSh :=
 match P.info? t with
 |some i => (match i.desc with | .tuple ts => .tup (ts.toList.map (eShP P)) | _ => .one (eShP P t))
 |none => .tup []
@[reducible] def Sh.T : Sh → Type
 |.int _ => Int | .bool => Bool | .ptr => Option Addr | .slice => Sl | .map => Option Nat | .str => ByteArray | .any => Value | .func => Fv
@[reducible] def Sh.enc : (s : Sh) → s.T → Value
 |.int k, n => .int k n | .bool, b => .bool b | .ptr, p => .pointer p | .slice, s => s.v | .map, m => .map m | .str, s => .string s | .any, v => v | .func, s => s.v
@[reducible] def cellsT : List Sh → Type
 |[] => Unit
 |[s] => s.T
 |s :: t :: l => s.T × cellsT (t :: l)
@[reducible] def cellsEnc : (l : List Sh) → cellsT l → List Value
 |[], _ => []
 |[s], x => [s.enc x]
 |s :: t :: l, x => s.enc x.1 :: cellsEnc (t :: l) x.2
@[reducible] def ESh.T : ESh → Type
 |.sc s => s.T | .agg l => cellsT l | .blob => List Value
@[reducible] def ESh.enc : (e : ESh) → e.T → Value
 |.sc s, x => s.enc x | .agg l, x => .agg (cellsEnc l x).toArray | .blob, cs => .agg cs.toArray
@[reducible] def tupT : List ESh → Type
 |[] => Unit
 |[s] => s.T
 |s :: t :: l => s.T × tupT (t :: l)
@[reducible] def tupEnc : (l : List ESh) → tupT l → List Value
 |[], _ => []
 |[s], x => [s.enc x]
 |s :: t :: l, x => s.enc x.1 :: tupEnc (t :: l) x.2
@[reducible] def RSh.T : RSh → Type
 |.one e => e.T | .tup l => tupT l
@[reducible] def RSh.enc : (r : RSh) → r.T → Value
 |.one e, x => e.enc x | .tup l, x => .tuple (tupEnc l x).toArray
def exE (e : ESh) (φ : Value → Prop) : Prop := ∃ x : e.T, φ (e.enc x)
def exR (r : RSh) (φ : Value → Prop) : Prop := ∃ x : r.T, φ (r.enc x)
theorem exE.some {e : ESh} {φ : Value → Prop} (h : exE e φ) : ∃ v, φ v := let ⟨_, h⟩ := h; ⟨_, h⟩
theorem exR.some {r : RSh} {φ : Value → Prop} (h : exR r φ) : ∃ v, φ v := let ⟨_, h⟩ := h; ⟨_, h⟩
/-- a value of a known form, opened -/
def decSh : (s : Sh) → Value → (s.T → K) → K
 |.int k, .int k' n, f => gd (decide (k' = k)) (f n)
 |.bool, .bool b, f => f b
 |.ptr, .pointer p, f => f p
 |.slice, .slice p n c, f => f ⟨p, n, c⟩
 |.map, .map m, f => f m
 |.str, .string s, f => f s
 |.any, v, f => f v
 |.func, .func a b c, f => f ⟨a, b, c⟩
 |_, _, _ => kF
def decCells : (l : List Sh) → List Value → (cellsT l → K) → K
 |[], [], f => f ()
 |[s], [v], f => decSh s v f
 |s :: t :: l, v :: vs, f => decSh s v fun x => decCells (t :: l) vs fun r => f (x, r)
 |_, _, _ => kF
def decE : (e : ESh) → Value → (e.T → K) → K
 |.sc s, v, f => decSh s v f
 |.agg l, .agg cs, f => decCells l cs.toList f
 |.blob, .agg cs, f => f cs.toList
 |_, _, _ => kF
def decT : (l : List ESh) → List Value → (tupT l → K) → K
 |[], [], f => f ()
 |[s], [v], f => decE s v f
 |s :: t :: l, v :: vs, f => decE s v fun x => decT (t :: l) vs fun r => f (x, r)
 |_, _, _ => kF
def decR : (r : RSh) → Value → (r.T → K) → K
 |.one e, v, f => decE e v f
 |.tup l, .tuple vs, f => decT l vs.toList f
 |_, _, _ => kF
def oneP (P : Program) (t : TypeId) (cs : Array Value) (off : Nat) (k : Value → K) : K :=
 gd (okT P t) (match aggP P t with | true => k (.agg (cs.extract off (off + szP P t))) | false => onSome cs[off]? k)
def min2I (x y : Int) : Int := if y < x then y else x
def max2I (x y : Int) : Int := if y > x then y else x
def foldK (f : Int → Int → Int) (kx : IntKind) : Int → List Value → (Value → K) → K
 |x, [], k => k (.int kx x)
 |x, .int _ y :: l, k => foldK f kx (f x y) l k
 |_, _, _ => kF
def loB (x : Option Value) (d : Nat) (lim : Nat) (k : Nat → K) : K :=
 match x with
 |none => k d
 |some (.int _ n) => fun w => (0 ≤ n ∧ n ≤ lim) ∧ k n.toNat w
 |_ => kF
/-- the address of a part of a slice: at its very end it stays where it was -/
def cutP (p : Option Addr) (l m sz : Nat) : Option Addr := if m = l then p else p.map (·.add (l * sz))
def cutA (a : Addr) (l m sz : Nat) : Addr := if m = l then a else a.add (l * sz)
def slK (P : Program) (t : TypeId) (x : Value) (lo hi mx : Option Value) (k : Value → K) : K :=
 match P.underlying t, x with
 |some (.slice e), .slice p n c => gd (okT P e && (mx.isNone || hi.isSome)) <| loB mx c c fun m => loB hi n m fun h => loB lo 0 h fun l => k (.slice (cutP p l m (szP P e)) (h - l) (m - l))
 |some (.array n e), .pointer p => gd (okT P e && (mx.isNone || hi.isSome)) <| nn p fun a => loB mx n n fun m => loB hi n m fun h => loB lo 0 h fun l => k (.slice (some (cutA a l m (szP P e))) (h - l) (m - l))
 |_, _ => kF
def notI (k : IntKind) (x : Int) : Int := bitI .xor k (if k.signed then -1 else k.max) x
def pureK (P : Program) (o : Oper) (ρ : Operand → Value) (k : Value → K) : K :=
 match o.op with
 |.move x | .assign x => k (ρ x)
 |.pick c a b => match ρ c with
  |.bool b' => (match b' with | true => k (ρ a) | false => k (ρ b))
  |_ => kF
 |.nilCheck x => match ρ x with
  |.pointer p => nn p fun a => k (.pointer (some a))
  |_ => kF
 |.fieldAddr s x f => match ρ x with
  |.pointer p => nn p fun a => onSome (fieldOff P s f) fun off => k (.pointer (some (a.add off)))
  |_ => kF
 |.indexAddr t x i => match P.underlying t, ρ x, ρ i with
  |some (.array n e), .pointer p, .int _ j => gd (okT P e && 1 < n) <| nn p fun a => ixA a n j (szP P e) fun b => k (.pointer (some b))
  |some (.slice e), .slice p n _, .int _ j => gd (okT P e) <| ixS p n j (szP P e) fun b => k (.pointer (some b))
  |_, _, _ => kF
 |.index t x i => match P.underlying t, ρ x, ρ i with
  |some (.array n e), .agg cs, .int _ j => gd (okT P e && !aggP P e && szP P e == 1) fun w => (0 ≤ j ∧ j < n) ∧ exSh (shP P e) fun v => cs[j.toNat]? = some v ∧ k v w
  |_, _, _ => kF
 |.field t x f => match P.underlying t, ρ x with
  |some (.struct fs), .agg cs => onSome fs[f]? fun f => oneP P f.type cs f.offset k
  |_, _ => kF
 |.binOp op t x y _ => binK P op t (ρ x) (ρ y) k
 |.unOp op _ x => match op, ρ x with
  |.not, .bool b => k (.bool !b)
  |.neg, .int kx n => k (.int kx (kx.wrap (0 - n)))
  |.xor, .int kx n => k (.int kx (notI kx n))
  |_, _ => kF
 |.convert src dst x => match P.underlying src, P.underlying dst, ρ x with
  |some _, some (.int kd), .int _ n => k (.int kd (kd.wrap n))
  |_, _, _ => kF
 |.extract x i => match ρ x with
  |.tuple vs => onSome vs[i]? fun v => decE (eShP P o.type) v fun x => k ((eShP P o.type).enc x)
  |_ => kF
 |.build t parts => match P.underlying t with
  |some (.struct fs) => gd (fs.toList.all (fun f => okT P f.type) && (zeroP P t).isSome) (onSome (Instr.fill (fun i => (fs[i]?).map fun f => (f.offset, szP P f.type)) (zerosP P t).toArray (parts.toList.map fun (i, x) => (i, ρ x))) fun cs => k (.agg cs))
  |some (.array _ e) => gd (okT P e && (zeroP P t).isSome) (onSome (Instr.fill (fun i => some (i * szP P e, szP P e)) (zerosP P t).toArray (parts.toList.map fun (i, x) => (i, ρ x))) fun cs => k (.agg cs))
  |_ => kF
 |.makeFunc fn first captured => k (.func fn (first.map ρ) (captured.map ρ))
 |.slice t x lo hi mx => slK P t (ρ x) (lo.map ρ) (hi.map ρ) (mx.map ρ) k
 |.call c => match c.callee, c.args.toList.map ρ with
  |.builtin .min, .int kx x :: l => foldK min2I kx x l k
  |.builtin .max, .int kx x :: l => foldK max2I kx x l k
  |_, _ => kF
 |_ => kF
section
variable {P : Program}
theorem Ywg (t : TypeId) (w : World) : (underlying t).run P w = match P.underlying t with | some d => .ok d w | none => .halt (.stuck "no such type") w := by
 unfold underlying; simp only [Sem.run_bind, run_program, Result.andThen_ok]; cases P.underlying t <;> rfl
theorem Ycl {t : TypeId} {d : TypeDesc} (h : P.underlying t = some d) (w : World) : (underlying t).run P w = .ok d w := by rw [Ywg, h]
theorem Ylr {t : TypeId} {i : TypeInfo} (h : P.info? t = some i) (w : World) : (typeInfo t).run P w = .ok i w := by
 unfold typeInfo; simp only [Sem.run_bind, run_program, Result.andThen_ok]; rw [h]; rfl
theorem Yra {t : TypeId} {d : TypeDesc} (h : P.underlying t = some d) : ∃ i, P.info? t = some i := by
 unfold Program.underlying at h
 cases hi : P.info? t with
 |none => simp [hi] at h
 |some i => exact ⟨i, rfl⟩
theorem Vdu {t : TypeId} {i : TypeInfo} (h : P.info? t = some i) (w : World) : (sizeOf t).run P w = .ok (szP P t) w := by
 unfold sizeOf; simp only [Sem.run_bind, Ylr h, Result.andThen_ok, Sem.run_pure]; simp [szP, h]
theorem r_size' {t : TypeId} (h : szP P t ≠ 0) (w : World) : (sizeOf t).run P w = .ok (szP P t) w := by
 cases hi : P.info? t with
 |none => simp [szP, hi] at h
 |some i => exact Vdu hi w
theorem Yo3 {t : TypeId} {d : TypeDesc} (h : P.underlying t = some d) (w : World) : (isAgg t).run P w = .ok (aggP P t) w := by
 unfold isAgg; simp only [Sem.run_bind, Ycl h, Result.andThen_ok]; unfold aggP; rw [h]; cases d <;> rfl
theorem Yns {t : TypeId} {v : Value} (h : zeroP P t = some v) (w : World) : (zeroValue t).run P w = .ok v w := by
 unfold zeroP at h
 cases hi : P.info? t with
 |none => simp [hi] at h
 |some i =>
  simp only [hi] at h
  unfold zeroValue; simp only [Sem.run_bind, Ylr hi, Result.andThen_ok]; rw [h]; rfl

theorem Yj7 {α : Type} {p : Option Addr} {k : Addr → α → Prop} {x : α} (h : nn p k x) : ∃ a, p = some a ∧ k a x := by
 cases p with
 |none => exact h.elim
 |some a => exact ⟨a, rfl, h⟩

theorem optK {α : Type} {o : Option α} {f : α → K} {w : World} (h : onSome o f w) : ∃ x, o = some x ∧ f x w := by
 cases o with
 |none => exact h.elim
 |some x => exact ⟨x, rfl, h⟩
theorem Yb2 {b : Bool} {k : K} {w : World} (h : gd b k w) : b = true ∧ k w := by cases b; exact h.elim; exact ⟨rfl, h⟩
theorem Yfn {t : TypeId} (h : okT P t = true) : (∃ d, P.underlying t = some d) ∧ szP P t ≠ 0 := by
 unfold okT at h
 cases hu : P.underlying t with
 |none => simp [hu] at h
 |some d => simp [hu] at h; exact ⟨⟨d, rfl⟩, h⟩
theorem Yew {t : TypeId} (h : okT P t = true) (w : World) : (sizeOf t).run P w = .ok (szP P t) w := r_size' (Yfn h).2 w

theorem Yo4 {s : Sh} {v : Value} {f : s.T → K} {w : World} (h : decSh s v f w) : ∃ x, v = s.enc x ∧ f x w := by
 cases s <;> cases v <;> (try exact h.elim) <;> (try exact ⟨_, rfl, h⟩)
 obtain ⟨hk, h⟩ := Yb2 h
 have := of_decide_eq_true hk
 subst this
 exact ⟨_, rfl, h⟩
theorem Ynt : ∀ {l : List Sh} {vs : List Value} {f : cellsT l → K} {w : World}, decCells l vs f w → ∃ x, vs = cellsEnc l x ∧ f x w
 |[], [], _, _, h => ⟨(), rfl, h⟩
 |[], _ :: _, _, _, h => h.elim
 |[_], [], _, _, h => h.elim
 |[_], [_], _, _, h => let ⟨x, e, h⟩ := Yo4 h; ⟨x, by rw [e], h⟩
 |[_], _ :: _ :: _, _, _, h => h.elim
 |_ :: _ :: _, [], _, _, h => h.elim
 |_ :: _ :: _, _ :: _, _, _, h => let ⟨x, e, h⟩ := Yo4 h; let ⟨r, e', h⟩ := Ynt h; ⟨(x, r), by rw [e, e'], h⟩
theorem Ynu {e : ESh} {v : Value} {f : e.T → K} {w : World} (h : decE e v f w) : ∃ x, v = e.enc x ∧ f x w := by
 cases e with
 |sc s => exact Yo4 h
 |agg l =>
  cases v <;> (try exact h.elim)
  obtain ⟨x, e, h⟩ := Ynt h
  exact ⟨x, by simp only [ESh.enc]; rw [← e], h⟩
 |blob => cases v <;> (try exact h.elim); exact ⟨_, by simp only [ESh.enc], h⟩
theorem Ywh : ∀ {l : List ESh} {vs : List Value} {f : tupT l → K} {w : World}, decT l vs f w → ∃ x, vs = tupEnc l x ∧ f x w
 |[], [], _, _, h => ⟨(), rfl, h⟩
 |[], _ :: _, _, _, h => h.elim
 |[_], [], _, _, h => h.elim
 |[_], [_], _, _, h => let ⟨x, e, h⟩ := Ynu h; ⟨x, by rw [e], h⟩
 |[_], _ :: _ :: _, _, _, h => h.elim
 |_ :: _ :: _, [], _, _, h => h.elim
 |_ :: _ :: _, _ :: _, _, _, h => let ⟨x, e, h⟩ := Ynu h; let ⟨r, e', h⟩ := Ywh h; ⟨(x, r), by rw [e, e'], h⟩
theorem Ywi {r : RSh} {v : Value} {f : r.T → K} {w : World} (h : decR r v f w) : ∃ x, v = r.enc x ∧ f x w := by
 cases r with
 |one e => exact Ynu h
 |tup l =>
  cases v <;> (try exact h.elim)
  obtain ⟨x, e, h⟩ := Ywh h
  exact ⟨x, by simp only [RSh.enc]; rw [← e], h⟩

theorem Ywj {s : TypeId} {f off : Nat} (h : fieldOff P s f = some off) (a : Addr) (w : World) :
  (Instr.fieldAt s (.pointer (some a)) f).run P w = .ok (.pointer (some (a.add off))) w := by
 unfold fieldOff at h
 cases hu : P.underlying s with
 |none => simp [hu] at h
 |some d =>
  cases d <;> simp only [hu] at h <;> try (cases h; done)
  rename_i fs
  cases hf : fs[f]? with
  |none => simp [hf] at h
  |some g =>
   simp only [hf] at h
   cases hok : okT P g.type with
   |false => simp [hok] at h
   |true =>
    rw [hok] at h
    simp only [cond_true, Option.some.injEq] at h
    unfold Instr.fieldAt
    simp only [Sem.run_bind, Ycl hu, Result.andThen_ok, hf, Instr.sureAddr, Sem.run_pure, fieldPlace, Yew hok, (Yfn hok).2, if_false, ← h]

theorem Vdv {t : TypeId} {cs : Array Value} {off : Nat} {k : Value → K} {w : World} (h : oneP P t cs off k w) :
  ∃ v, (∀ w, (part t cs off).run P w = .ok v w) ∧ k v w := by
 unfold oneP at h
 obtain ⟨hok, h⟩ := Yb2 h
 obtain ⟨⟨d, hu⟩, _⟩ := Yfn hok
 cases ha : aggP P t with
 |true =>
  rw [ha] at h
  exact ⟨_, fun w => by simp only [part, Sem.run_bind, Yo3 hu, ha, Result.andThen_ok, if_true, Yew hok, Sem.run_pure], h⟩
 |false =>
  rw [ha] at h
  simp only at h
  obtain ⟨v, hc, h⟩ := optK h
  exact ⟨v, fun w => by simp [part, Sem.run_bind, Yo3 hu, ha, hc], h⟩

def bnd (x : Option Value) (d lim : Nat) (code : BoundsCode) : Sem Nat := match x with | some v => Instr.sliceBound v lim code | none => pure d
theorem Yo5 {x : Option Value} {d lim : Nat} {k : Nat → K} {w : World} (h : loB x d lim k w) :
  ∃ n, (∀ code w, (bnd x d lim code).run P w = .ok n w) ∧ k n w := by
 unfold loB at h
 split at h
 ·exact ⟨d, fun _ w => rfl, h⟩
 ·rename_i n
  obtain ⟨hb, h⟩ := h
  exact ⟨n.toNat, fun code w => by simp [bnd, Instr.sliceBound, asIntOf, hb.1, hb.2], h⟩
 ·exact h.elim

theorem Yz0 {s : Bool} {n c m : Nat} {lo hi mx : Option Value} {l h : Nat} (hmx : mx.isNone = true ∨ hi.isSome = true)
  (hm : ∀ code w, (bnd mx c c code).run P w = .ok m w) (hh : ∀ code w, (bnd hi n m code).run P w = .ok h w)
  (hl : ∀ code w, (bnd lo 0 h code).run P w = .ok l w) (w : World) :
  (Instr.sliceBounds s n c lo hi mx).run P w = .ok (l, h, m) w := by
 cases mx with
 |none =>
  have h0 := hm .index w
  simp only [bnd, Sem.run_pure, Result.ok.injEq, and_true] at h0
  subst h0
  have h1 := hh (if s then .sliceAcap else .sliceAlen) w
  have h2 := hl .sliceB w
  cases hi <;> cases lo <;> simp only [bnd, Sem.run_pure, Result.ok.injEq, and_true] at h1 h2 <;>
   simp [Instr.sliceBounds, Sem.run_bind, h1, h2]
 |some x =>
  cases hi with
  |none => simp at hmx
  |some y =>
   have h0 := hm (if s then .slice3Acap else .slice3Alen) w
   have h1 := hh .slice3B w
   have h2 := hl .slice3C w
   cases lo <;> simp only [bnd, Sem.run_pure, Result.ok.injEq, and_true] at h0 h1 h2 <;>
    simp [Instr.sliceBounds, Sem.run_bind, h0, h1, h2]

theorem Vfy {t : TypeId} {x : Value} {lo hi mx : Option Value} {k : Value → K} {w : World} (h : slK P t x lo hi mx k w) :
  ∃ v, (∀ w, (Instr.sliceAt t x lo hi mx).run P w = .ok v w) ∧ k v w := by
 unfold slK at h
 cases hu : P.underlying t with
 |none => simp only [hu] at h; exact h.elim
 |some d =>
 cases d <;> simp only [hu] at h <;> (try exact h.elim)
 ·rename_i e
  cases x <;> simp only at h <;> (try exact h.elim)
  rename_i p n c
  obtain ⟨hok, h⟩ := Yb2 h
  simp only [Bool.and_eq_true, Bool.or_eq_true] at hok
  obtain ⟨m, r0, h⟩ := Yo5 (P := P) h
  obtain ⟨hh, r1, h⟩ := Yo5 (P := P) h
  obtain ⟨l, r2, h⟩ := Yo5 (P := P) h
  refine ⟨_, fun w => ?_, h⟩
  simp only [Instr.sliceAt, Sem.run_bind, Ycl hu, Result.andThen_ok, Instr.slice, Yz0 hok.2 r0 r1 r2, Yew hok.1, Sem.run_pure, cutP]
 ·rename_i n e
  cases x <;> simp only at h <;> (try exact h.elim)
  rename_i p
  obtain ⟨hok, h⟩ := Yb2 h
  simp only [Bool.and_eq_true, Bool.or_eq_true] at hok
  obtain ⟨a, rfl, h'⟩ := Yj7 h
  clear h
  obtain ⟨m, r0, h⟩ := Yo5 (P := P) h'
  obtain ⟨hh, r1, h⟩ := Yo5 (P := P) h
  obtain ⟨l, r2, h⟩ := Yo5 (P := P) h
  refine ⟨_, fun w => ?_, h⟩
  simp only [Instr.sliceAt, Sem.run_bind, Ycl hu, Result.andThen_ok, Instr.sureAddr, Yz0 hok.2 r0 r1 r2, Yew hok.1, Sem.run_pure, cutA]

theorem Vfz {y : Int} {k : K} {w : World} (h : nz y k w) : y ≠ 0 ∧ k w := by
 unfold nz at h; split at h
 ·exact h.elim
 ·exact ⟨‹_›, h⟩
theorem Vb4 {y : Int} {k : K} {w : World} (h : nneg y k w) : ¬ y < 0 ∧ k w := by
 unfold nneg at h; split at h
 ·exact h.elim
 ·exact ⟨‹_›, h⟩
theorem Vhf {c : Prop} [Decidable c] {k : K} {w : World} (h : (if c then k else kF) w) : c ∧ k w := by
 split at h
 ·exact ⟨‹_›, h⟩
 ·exact h.elim

theorem Ygv (t : TypeId) (x y : Value) : Op.equal t x y = Op.equalIn (9999 + 1) t x y := rfl
theorem Yss {t e : TypeId} (hu : P.underlying t = some (.pointer e)) (a : Option Addr) (w : World) : (Op.equal t (.pointer a) (.pointer none)).run P w = .ok a.isNone w := by
 rw [Ygv, Op.equalIn]; cases a <;> simp [Ycl hu]
theorem Ywk {t e : TypeId} (hu : P.underlying t = some (.slice e)) (a : Option Addr) (n c n' c' : Nat) (w : World) : (Op.equal t (.slice a n c) (.slice none n' c')).run P w = .ok a.isNone w := by
 rw [Ygv, Op.equalIn]; cases a <;> simp [Ycl hu]
theorem Vf0 {t : TypeId} (hu : P.underlying t = some .bool) (a b : Bool) (w : World) : (Op.equal t (.bool a) (.bool b)).run P w = .ok (a == b) w := by
 rw [Ygv, Op.equalIn]; simp [Ycl hu]

theorem Yhy {t : TypeId} {d : TypeDesc} (hu : P.underlying t = some d) (ha : aggP P t = false) {cs : Array Value} {off : Nat} {v : Value} (hc : cs[off]? = some v) (w : World) :
  (part t cs off).run P w = .ok v w := by
 simp [part, Sem.run_bind, Yo3 hu, ha, hc]
theorem Yz1 (d : Nat) : ∀ {fs : List Field} {xs ys : Array Value} {r : Bool}, eqFs P fs xs ys = some r → ∀ w, (Op.eqFields (d + 1) xs ys fs).run P w = .ok r w := by
 intro fs
 induction fs with
 |nil => intro xs ys r h w; simp [eqFs] at h; subst h; rfl
 |cons f fs ih =>
  intro xs ys r h w
  unfold eqFs at h
  cases hb : (f.name == "_" || !okT P f.type || aggP P f.type) with
  |true => simp [hb] at h
  |false =>
  rw [hb] at h
  simp only [Bool.or_eq_false_iff, Bool.not_eq_false'] at hb
  obtain ⟨⟨h1, h2⟩, h3⟩ := hb
  have hname : f.name ≠ "_" := by intro e; rw [e] at h1; simp at h1
  simp only [cond_false] at h
  split at h
  ·rename_i kk kx a ky b hu hx hy
   split at h
   ·rename_i hk
    subst hk
    split at h
    ·rename_i r' hr'
     simp only [Option.some.injEq] at h
     simp only [Op.eqFields, hname, ne_eq, not_false_eq_true, if_true, Sem.run_bind, Yhy hu h3 hx, Yhy hu h3 hy, Result.andThen_ok, run_equalIn_int w d f.type kx kk a b hu]
     cases hab : (a == b) with
     |false => rw [hab] at h; simp at h; subst h; rfl
     |true => rw [hab] at h; simp at h; subst h; simp [ih hr' w]
    ·cases h
   ·cases h
  ·rename_i a b hu hx hy
   split at h
   ·rename_i r' hr'
    simp only [Option.some.injEq] at h
    simp only [Op.eqFields, hname, ne_eq, not_false_eq_true, if_true, Sem.run_bind, Yhy hu h3 hx, Yhy hu h3 hy, Result.andThen_ok, run_equalIn_bool' w d f.type a b hu]
    cases hab : (a == b) with
    |false => rw [hab] at h; simp at h; subst h; rfl
    |true => rw [hab] at h; simp at h; subst h; simp [ih hr' w]
   ·cases h
  ·cases h

/-- a comparison that is not one of integers -/
def Eqs (P : Program) (t : TypeId) (x y : Value) (b : Bool) : Prop :=
 (∀ op cx cy w, (eqGuard op t cx cy x y).run P w = .ok () w) ∧
 (∀ op w, (op = .eql ∨ op = .neq) → (binOp op t x y).run P w = .ok (.bool (if op = .eql then b else !b)) w)
theorem Vdw {t : TypeId} {x y : Value} {k : Bool → K} {w : World} (h : eqlK P t x y k w) : ∃ b, Eqs P t x y b ∧ k b w := by
 unfold eqlK at h
 cases x <;> simp only at h <;> (try exact h.elim) <;> cases y <;> (try simp only at h) <;> (try exact h.elim)
 ·rename_i a b
  obtain ⟨hg, h⟩ := Yb2 h
  have he : ∀ w, (Op.equal t (.bool a) (.bool b)).run P w = .ok (a == b) w := by
   cases hu : P.underlying t with
   |none => simp [hu] at hg
   |some d => cases d <;> simp [hu] at hg; exact fun w => Vf0 hu a b w
  refine ⟨_, ⟨fun op cx cy w => by unfold eqGuard; split <;> rfl, fun op w ho => ?_⟩, h⟩
  rcases ho with rfl | rfl <;> simp [binOp, he]
 ·rename_i a b
  exact ⟨_, ⟨fun op cx cy w => by unfold eqGuard; split <;> rfl, fun op w ho => by rcases ho with rfl | rfl <;> simp [binOp, Op.stringOp]⟩, h⟩
 ·rename_i a b
  cases b with
  |some b => exact h.elim
  |none =>
  obtain ⟨hg, h⟩ := Yb2 h
  have he : ∀ w, (Op.equal t (.pointer a) (.pointer none)).run P w = .ok a.isNone w := by
   cases hu : P.underlying t with
   |none => simp [hu] at hg
   |some d => cases d <;> simp [hu] at hg; exact fun w => Yss hu a w
  refine ⟨_, ⟨fun op cx cy w => by unfold eqGuard; split <;> rfl, fun op w ho => ?_⟩, h⟩
  rcases ho with rfl | rfl <;> cases a <;> simp [binOp, he]
 all_goals (try exact h.elim)
 ·rename_i a n c b n' c'
  cases b with
  |some b => exact h.elim
  |none =>
  obtain ⟨hg, h⟩ := Yb2 h
  have he : ∀ w, (Op.equal t (.slice a n c) (.slice none n' c')).run P w = .ok a.isNone w := by
   cases hu : P.underlying t with
   |none => simp [hu] at hg
   |some d => cases d <;> simp [hu] at hg; exact fun w => Ywk hu a n c n' c' w
  refine ⟨_, ⟨fun op cx cy w => by unfold eqGuard; split <;> rfl, fun op w ho => ?_⟩, h⟩
  rcases ho with rfl | rfl <;> simp [binOp, he]
 ·rename_i xs ys
  cases hu : P.underlying t with
  |none => simp only [hu] at h; exact h.elim
  |some d =>
  cases d <;> simp only [hu] at h <;> (try exact h.elim)
  case struct fs =>
   obtain ⟨hg, h⟩ := Yb2 h
   simp only [Bool.and_eq_true, Bool.not_eq_true'] at hg
   obtain ⟨b, he, h⟩ := optK h
   have hf : P.fieldsOf t = fs := by simp [Program.fieldsOf, hu]
   refine ⟨b, ⟨fun op cx cy w => run_eqGuard_agg w op t cx cy xs ys hg.2, fun op w ho => ?_⟩, h⟩
   have hrun : (Op.equalIn (9999 + 1) t (.agg xs) (.agg ys)).run P w = .ok b w := by
    rw [run_equalIn_struct w 9999 t xs ys (by rw [hf]; exact hu) hg.1, hf]
    exact Yz1 9998 he w
   rcases ho with rfl | rfl
   ·rw [run_eql_struct]; show ((Op.equalIn (9999 + 1) t (.agg xs) (.agg ys)).run P w).andThen _ = _; rw [hrun]; rfl
   ·rw [run_neq_struct]; show ((Op.equalIn (9999 + 1) t (.agg xs) (.agg ys)).run P w).andThen _ = _; rw [hrun]; rfl
  case array _ _ =>
   obtain ⟨hg, h⟩ := Yb2 h
   simp only [Bool.not_eq_true'] at hg
   obtain ⟨b, he, h⟩ := h
   refine ⟨b, ⟨fun op cx cy w => run_eqGuard_agg w op t cx cy xs ys hg, fun op w ho => ?_⟩, h⟩
   have hrun : (Op.equalIn (9999 + 1) t (.agg xs) (.agg ys)).run P w = .ok b w := by
    have := he w
    rwa [Ygv] at this
   rcases ho with rfl | rfl
   ·rw [run_eql_struct]; show ((Op.equalIn (9999 + 1) t (.agg xs) (.agg ys)).run P w).andThen _ = _; rw [hrun]; rfl
   ·rw [run_neq_struct]; show ((Op.equalIn (9999 + 1) t (.agg xs) (.agg ys)).run P w).andThen _ = _; rw [hrun]; rfl
end
section
variable {P : Program}

theorem Ywl {f : Int → Int → Int} {g : Value → Value → Sem Value} (hg : ∀ k k' x y w, (g (.int k x) (.int k' y)).run P w = .ok (.int k (f x y)) w) (kx : IntKind) :
  ∀ {l : List Value} {x : Int} {k : Value → K} {w : World}, foldK f kx x l k w → ∃ v, (∀ w, (l.foldlM g (.int kx x)).run P w = .ok v w) ∧ k v w := by
 intro l
 induction l with
 |nil => exact fun h => ⟨_, fun w => rfl, h⟩
 |cons y l ih =>
  intro x k w h
  cases y <;> try exact h.elim
  rename_i k' y
  obtain ⟨v, hv, h⟩ := ih h
  exact ⟨v, fun w => by simp only [List.foldlM_cons, Sem.run_bind, hg, Result.andThen_ok, hv], h⟩

theorem Vdx {op : BinOp} {t : TypeId} {x y : Value} {k : Value → K} {w : World} (h : binK P op t x y k w) (cx cy : Operand) :
  ∃ v, (∀ w, (do eqGuard op t cx cy x y; binOp op t x y : Sem Value).run P w = .ok v w) ∧ k v w := by
 have cmp : ∀ (op : BinOp), (op = .eql ∨ op = .neq) → eqlK P t x y (fun b => k (.bool (if op = .eql then b else !b))) w →
   ∃ v, (∀ w, (do eqGuard op t cx cy x y; binOp op t x y : Sem Value).run P w = .ok v w) ∧ k v w := by
  intro op ho h
  obtain ⟨b, ⟨h1, h2⟩, h⟩ := Vdw h
  exact ⟨_, fun w => by simp only [Sem.run_bind, h1, Result.andThen_ok, h2 op w ho], h⟩
 have ari : ∀ {kx ky : IntKind} {a b : Int} {u : Value}, x = .int kx a → y = .int ky b → (∀ w, (binOp op t x y).run P w = .ok u w) → k u w →
   ∃ v, (∀ w, (do eqGuard op t cx cy x y; binOp op t x y : Sem Value).run P w = .ok v w) ∧ k v w := by
  intro kx ky a b u hx hy hr hk
  refine ⟨u, fun w => ?_, hk⟩
  have : ∀ w, (eqGuard op t cx cy x y).run P w = .ok () w := fun w => by subst hx hy; cases op <;> rfl
  simp only [Sem.run_bind, this, Result.andThen_ok, hr]
 cases x <;> cases y <;> cases op <;> (try exact h.elim) <;> (try exact cmp .eql (.inl rfl) h) <;> (try exact cmp .neq (.inr rfl) h)
 all_goals (rename_i kx a ky b; simp only [binK] at h)
 all_goals first
  |(obtain ⟨hb, h'⟩ := Vb4 h; exact ari rfl rfl (fun w => by simp [binOp, Op.shift, hb, shlI, shrI]) h')
  |(obtain ⟨hk, h'⟩ := Vhf h; subst hk
    first
    |(obtain ⟨hb, h''⟩ := Vfz h'; exact ari rfl rfl (fun w => by simp [binOp, Op.intDiv, hb]) h'')
    |exact ari rfl rfl (fun w => by simp [binOp, Op.intArith, Op.intBits, Op.intCmp, bitI]) h')

theorem Ywm {o : Oper} {ρ : Operand → Value} {k : Value → K} {w : World} (hc : clsOf o = .pure) (h : pureK P o ρ k w) :
  ∃ v, runsPure P (execOp ρ o) v ∧ k v w := by
 have vv : ∀ {s : Sem Value} {v : Value}, (∀ w, s.run P w = .ok v w) → runsPure P (do pure (.value (← s))) v := fun hs w => by
  simp [hs]
 obtain ⟨dst, op, type, pos, after, guard⟩ := o
 cases op <;> simp only [pureK] at h <;> (try exact h.elim) <;> simp only [execOp]
 case move x => exact ⟨_, fun w => rfl, h⟩
 case assign x => exact ⟨_, fun w => rfl, h⟩
 case pick c a b =>
  cases hp : ρ c <;> simp only [hp] at h <;> (try exact h.elim)
  rename_i t
  cases t <;> simp only at h
  ·exact ⟨_, fun w => by simp [asBool], h⟩
  ·exact ⟨_, fun w => by simp [asBool], h⟩
 case nilCheck x =>
  cases hp : ρ x <;> simp only [hp] at h <;> (try exact h.elim)
  obtain ⟨a, rfl, h'⟩ := Yj7 h
  exact ⟨_, fun w => rfl, h'⟩
 case fieldAddr s x f =>
  cases hp : ρ x <;> simp only [hp] at h <;> (try exact h.elim)
  obtain ⟨a, rfl, h'⟩ := Yj7 h
  clear h
  obtain ⟨off, ho, h'⟩ := optK h'
  exact ⟨_, vv (Ywj ho a), h'⟩
 case indexAddr t x i =>
  cases hu : P.underlying t with
  |none => simp only [hu] at h; exact h.elim
  |some d =>
  cases d <;> simp only [hu] at h <;> (try exact h.elim)
  ·rename_i e
   cases hp : ρ x <;> simp only [hp] at h <;> (try exact h.elim)
   cases hi : ρ i <;> simp only [hi] at h <;> (try exact h.elim)
   rename_i p n c kj j
   obtain ⟨hok, h⟩ := Yb2 h
   obtain ⟨a, rfl, hb, h⟩ := h
   exact ⟨_, vv fun w => by simp [Instr.indexAt, Sem.run_bind, asIntOf, Ycl hu, hb, Yew hok], h⟩
  ·rename_i n e
   cases hp : ρ x <;> simp only [hp] at h <;> (try exact h.elim)
   cases hi : ρ i <;> simp only [hi] at h <;> (try exact h.elim)
   rename_i p kj j
   obtain ⟨hok, h⟩ := Yb2 h
   simp only [Bool.and_eq_true] at hok
   obtain ⟨a, rfl, h'⟩ := Yj7 h
   obtain ⟨hb, h'⟩ := h'
   exact ⟨_, vv fun w => by simp [Instr.indexAt, Sem.run_bind, asIntOf, Ycl hu, hb, Yew hok.1, Instr.sureAddr], h'⟩
 case index t x i =>
  cases hu : P.underlying t with
  |none => simp only [hu] at h; exact h.elim
  |some d =>
  cases d <;> simp only [hu] at h <;> (try exact h.elim)
  rename_i n e
  cases hp : ρ x <;> simp only [hp] at h <;> (try exact h.elim)
  cases hi : ρ i <;> simp only [hi] at h <;> (try exact h.elim)
  rename_i cs kj j
  obtain ⟨hok, h⟩ := Yb2 h
  simp only [Bool.and_eq_true, Bool.not_eq_true', beq_iff_eq] at hok
  obtain ⟨⟨hok, ha⟩, hs⟩ := hok
  obtain ⟨hb, h⟩ := h
  obtain ⟨v, hv, h⟩ := exSh.some h
  obtain ⟨⟨d, hd⟩, _⟩ := Yfn hok
  exact ⟨v, vv fun w => by simp [Instr.index, Sem.run_bind, asIntOf, Ycl hu, hb, Yew hok, hs, Yhy hd ha hv], h⟩
 case field t x f =>
  cases hu : P.underlying t with
  |none => simp only [hu] at h; exact h.elim
  |some d =>
  cases d <;> simp only [hu] at h <;> (try exact h.elim)
  rename_i fs
  cases hp : ρ x <;> simp only [hp] at h <;> (try exact h.elim)
  rename_i cs
  obtain ⟨g, hf, h⟩ := optK h
  obtain ⟨v, hv, h⟩ := Vdv h
  exact ⟨v, vv fun w => by simp only [Instr.field, Sem.run_bind, Ycl hu, Result.andThen_ok, hf, asAgg, Sem.run_pure, hv], h⟩
 case binOp op t x y _ =>
  obtain ⟨v, hv, h⟩ := Vdx h x y
  exact ⟨v, vv hv, h⟩
 case unOp op _ x =>
  cases op with
  |not =>
   cases hp : ρ x <;> simp only [hp] at h <;> (try exact h.elim)
   exact ⟨_, vv fun w => rfl, h⟩
  |neg =>
   cases hp : ρ x <;> simp only [hp] at h <;> (try exact h.elim)
   exact ⟨_, vv fun w => rfl, h⟩
  |xor =>
   cases hp : ρ x <;> simp only [hp] at h <;> (try exact h.elim)
   exact ⟨_, vv fun w => by simp [Op.unary, Op.intBits, notI, bitI], h⟩
  |_ => exact h.elim
 case convert src dst x =>
  cases hs : P.underlying src with
  |none => simp only [hs] at h; exact h.elim
  |some ds =>
  cases hd : P.underlying dst with
  |none => simp only [hs, hd] at h; exact h.elim
  |some dd =>
  cases dd <;> simp only [hs, hd] at h <;> (try exact h.elim)
  cases hp : ρ x <;> simp only [hp] at h <;> (try exact h.elim)
  exact ⟨_, vv fun w => by simp [convert, Sem.run_bind, Ycl hs, Ycl hd, Conv.intToInt], h⟩
 case extract x i =>
  cases hp : ρ x <;> simp only [hp] at h <;> (try exact h.elim)
  rename_i vs
  obtain ⟨v, hf, h⟩ := optK h
  obtain ⟨x, rfl, h'⟩ := Ynu h
  exact ⟨_, vv fun w => by simp [Instr.extract, hf], h'⟩
 case build t parts =>
  cases hu : P.underlying t with
  |none => simp only [hu] at h; exact h.elim
  |some d =>
  have hp : ((parts.map fun (i, x) => (i, ρ x)).toList) = parts.toList.map fun (i, x) => (i, ρ x) := by simp
  cases d <;> simp only [hu] at h <;> (try exact h.elim)
  ·rename_i n e
   obtain ⟨hok, h⟩ := Yb2 h
   simp only [Bool.and_eq_true] at hok
   obtain ⟨z, hz⟩ := Option.isSome_iff_exists.1 hok.2
   obtain ⟨cs, hcs, h⟩ := optK h
   have hz' : zerosP P t = z.cells.toList := by simp [zerosP, hz]
   rw [hz'] at hcs
   simp only [Array.toArray_toList] at hcs
   exact ⟨_, vv fun w => by simp only [Instr.build, Sem.run_bind, Yns hz, Ycl hu, Result.andThen_ok, Yew hok.1, hp, hcs, Sem.run_pure], h⟩
  ·rename_i fs
   obtain ⟨hok, h⟩ := Yb2 h
   simp only [Bool.and_eq_true, List.all_eq_true] at hok
   obtain ⟨z, hz⟩ := Option.isSome_iff_exists.1 hok.2
   obtain ⟨cs, hcs, h⟩ := optK h
   ·have hz' : zerosP P t = z.cells.toList := by simp [zerosP, hz]
    rw [hz'] at hcs
    simp only [Array.toArray_toList] at hcs
    have hm : ∀ w, (fs.mapM fun f => do pure (f.offset, ← sizeOf f.type) : Sem (Array (Nat × Nat))).run P w = .ok (fs.map fun f => (f.offset, szP P f.type)) w := by
     intro w
     rw [Array.mapM_eq_mapM_toList]
     have : ∀ l : List Field, (∀ f ∈ l, okT P f.type = true) → (l.mapM fun f => do pure (f.offset, ← sizeOf f.type) : Sem (List (Nat × Nat))).run P w = .ok (l.map fun f => (f.offset, szP P f.type)) w := by
      intro l
      induction l with
      |nil => intro _; rfl
      |cons f l ih =>
       intro hl
       rw [List.mapM_cons]
       simp only [Sem.run_bind, Yew (hl f List.mem_cons_self), Result.andThen_ok, Sem.run_pure, ih (fun g hg => hl g (List.mem_cons_of_mem _ hg)), List.map_cons]
     simp only [Sem.run_map, this fs.toList hok.1, Result.andThen_ok, Result.ok.injEq, and_true]
     apply Array.ext' ; simp
    have hpl : (fun x : Nat => (fs.map fun f : Field => (f.offset, szP P f.type))[x]?) = fun i : Nat => (fs[i]?).map fun f : Field => (f.offset, szP P f.type) := by
     funext i; simp
    exact ⟨_, vv fun w => by
     simp only [Instr.build, Sem.run_bind, Yns hz, Ycl hu, Result.andThen_ok, hm, hpl, hp, hcs, Sem.run_pure], h⟩
 case makeFunc fn first captured => exact ⟨_, vv fun w => rfl, h⟩
 case slice t x lo hi mx =>
  obtain ⟨v, hv, h⟩ := Vfy h
  exact ⟨v, vv hv, h⟩
 case call c =>
  obtain ⟨callee, args, argTypes⟩ := c
  cases callee <;> (try exact h.elim)
  rename_i b
  have hl : (args.map ρ).toList = args.toList.map ρ := by simp
  cases b <;> (try exact h.elim)
  ·simp only at h
   cases he : args.toList.map ρ with
   |nil => simp only [he] at h; exact h.elim
   |cons x l =>
   simp only [he] at h
   cases x <;> (try exact h.elim)
   obtain ⟨v, hv, h⟩ := Ywl (P := P) (g := Builtin.max2) (fun k k' x y w => by simp [Builtin.max2, max2I]) _ h
   exact ⟨v, fun w => by simp [resolve, invoke, builtin, Builtin.max_, he, hv], h⟩
  ·simp only at h
   cases he : args.toList.map ρ with
   |nil => simp only [he] at h; exact h.elim
   |cons x l =>
   simp only [he] at h
   cases x <;> (try exact h.elim)
   obtain ⟨v, hv, h⟩ := Ywl (P := P) (g := Builtin.min2) (fun k k' x y w => by simp [Builtin.min2, min2I]) _ h
   exact ⟨v, fun w => by simp [resolve, invoke, builtin, Builtin.min_, he, hv], h⟩
end
/-! maps -/
def keyEq (P : Program) (kt : TypeId) (x y : Value) : Option Bool :=
 match P.underlying kt, x, y with
 |some (.int _), .int k a, .int k' b => if k = k' then some (a == b) else none
 |some .string, .string a, .string b => some (a == b)
 |some (.struct fs), .agg xs, .agg ys => (match !P.stoodInHeld kt with | true => eqFs P fs.toList xs ys | false => none)
 |_, _, _ => none
def mfind (P : Program) (kt : TypeId) (key : Value) : List MapEntry → Nat → Option (Option (Nat × Value))
 |[], _ => some none
 |e :: es, i => match keyEq P kt key e.key with
  |some true => some (some (i, e.val))
  |some false => mfind P kt key es (i + 1)
  |none => none
/-- a key that may be asked for: integers, strings, structs of plain fields -/
def keyFine (P : Program) (kt : TypeId) (key : Value) : Bool :=
 match P.underlying kt, key with
 |some (.int _), .int _ _ => true
 |some .string, .string _ => true
 |some (.struct fs), .agg xs => fs.toList.all fun f => f.name == "_" || (okT P f.type && !aggP P f.type && (xs[f.offset]?).isSome && (match P.underlying f.type with | some (.int _) | some .bool | some .string => true | _ => false))
 |_, _ => false
def lookV (f : Option (Nat × Value)) (z : Value) : Value := match f with | some (_, v) => v | none => z
/-- a lookup: what is found at the key -/
def lookK (P : Program) (t : TypeId) (m : Option Nat) (key : Value) (k : List Ft → Value → Bool → K) : K :=
 match P.underlying t with
 |some (.map kt et) => (match zeroP P et with
  |some z => gd (keyFine P kt key) fun w => ∃ r es c f, m = some r ∧ w.heap[r]? = some (.map es c) ∧ mfind P kt key es.toList 0 = some f ∧
    exE (eShP P et) fun v => lookV f z = v ∧ k [.obj r (.map es c)] v f.isSome w
  |none => kF)
 |_ => kF
def sizesFit (P : Program) (t : TypeId) : Bool := (zerosP P t).length == szP P t
def readK (P : Program) (o : Oper) (ρ : Operand → Value) (k : List Ft → Value → K) : K :=
 match o.op with
 |.load t a => match ρ a with
  |.pointer p => nn p fun ad => gd (okT P t && sizesFit P t) (loadK P t ad k)
  |_ => kF
 |.lookup t m key ok => match ρ m with
  |.map r => lookK P t r (ρ key) fun fs v b => k fs (match ok with | true => .tuple #[v, .bool b] | false => v)
  |_ => kF
 |.call c => match c.callee, c.argTypes.toList, c.args.toList with
  |.builtin .len, t :: _, x :: _ => (match P.underlying t, ρ x with
   |some (.slice _), .slice _ n _ => k [] (.int .i64 n)
   |some .string, .string s => k [] (.int .i64 s.size)
   |some (.array n _), _ => k [] (.int .i64 n)
   |some (.map _ _), .map m => fun w => ∃ r es c, m = some r ∧ w.heap[r]? = some (.map es c) ∧ k [.obj r (.map es c)] (.int .i64 es.size) w
   |_, _ => kF)
  |_, _, _ => kF
 |_ => kF

/-! allocations -/
def alK (ob : Obj) (k : Nat → K) : K := fun w => k w.heap.size { w with heap := w.heap.push ob }
def repZ (z : List Value) (n : Nat) : List Value := (List.replicate n z).flatten
def bytesP (P : Program) (t : TypeId) : Nat := match P.info? t with | some i => i.bytes | none => 0
def mkK (P : Program) (e : TypeId) (l c : Int) (k : Value → K) : K := fun w =>
 (0 ≤ l ∧ l ≤ c ∧ bytesP P e * c ≤ 2 ^ 48) ∧ alK (.cells (repZ (zerosP P e) c.toNat).toArray e) (fun b => k (.slice (some ⟨b, 0, none⟩) l.toNat c.toNat)) w
def allocK (P : Program) (o : Oper) (ρ : Operand → Value) (k : Value → K) : K :=
 match o.op with
 |.alloc t => onSome (zeroP P t) fun z => alK (.cells z.cells t) fun b => k (.pointer (some ⟨b, 0, none⟩))
 |.box t x => alK (.cells (ρ x).cells t) fun b => k (.pointer (some ⟨b, 0, none⟩))
 |.buildSlice t n parts => match P.underlying t with
  |some (.slice e) => gd (okT P e && (zeroP P e).isSome && n * szP P e ≤ 2 ^ 24 && (zerosP P e).length == szP P e)
    (onSome (Instr.fill (fun i => some (i * szP P e, szP P e)) (repZ (zerosP P e) n).toArray (parts.toList.map fun (i, x) => (i, ρ x))) fun cs =>
     alK (.cells cs e) fun b => k (.slice (some ⟨b, 0, none⟩) n n))
  |_ => kF
 |.makeSlice t l c => match P.underlying t, ρ l, ρ c with
  |some (.slice e), .int _ l, .int _ c => gd (okT P e && (zeroP P e).isSome && 1 ≤ bytesP P e && (zerosP P e).length == szP P e) (mkK P e l c k)
  |_, _, _ => kF
 |.makeMap t r => match r with
  |none => alK (.map #[] 0) fun b => k (.map (some b))
  |some r => (match P.underlying t, ρ r with
   |some (.map _ _), .int _ _ => alK (.map #[] 0) fun b => k (.map (some b))
   |_, _ => kF)
 |_ => kF

/-! effects -/
def scal : Value → Bool
 |.agg _ | .tuple _ => false
 |_ => true
def stK (a : Addr) (v : Value) (k : K) : K := fun w => (∃ v0, w.cell? a = some v0) ∧ w.frozen? a = false ∧ k (w.setCell a v)
def stCells (a : Addr) : Nat → List Value → K → K
 |_, [], k => k
 |i, v :: l, k => stK (a.add i) v (stCells a (i + 1) l k)
def callable (P : Program) (f : FuncId) : Bool := match P.funcs[f]? with | some fn => fn.body.isSome && !(fn.name == "runtime.NumGoroutine") | none => false
def callK (P : Program) (f : FuncId) (args : Array Value) (r : RSh) (k : Value → K) : K := fun w =>
 Calls P f args w fun e w' => exR r fun v => e = .returned v ∧ k v w'
def dynK (P : Program) (f : Value) (args : Array Value) (r : RSh) (k : Value → K) : K := fun w =>
 (∃ g cap, f = .func (.func g) #[] cap ∧ callable P g = true ∧ callK P g (args ++ cap) r k w) ∨
 (∃ l, f = .func (.yield l) #[] #[] ∧ YieldAt Fence.wide 0 P l args w fun e w' => exR r fun v => e = .returned v ∧ k v w')
/-- an operation of the model as it is, with a result of a known form -/
def semK (P : Program) (s : Sem Value) (r : RSh) (k : Value → K) : K := fun w =>
 match s.run P w with
 |.ok v w' => exR r fun u => v = u ∧ k u w'
 |_ => False
def nextK (P : Program) (s : Sem Value) (k : Value → K) : K := fun w =>
 match s.run P w with
 |.ok v w' => ∃ (b : Bool) (l : List Value), v = .tuple (.bool b :: l).toArray ∧ k (.tuple (.bool b :: l).toArray) w'
 |_ => False
def semU (P : Program) (s : Sem Unit) (k : K) : K := fun w =>
 match s.run P w with
 |.ok _ w' => k w'
 |_ => False
def bltK (P : Program) (b : Builtin) (ts : Array TypeId) (ty : TypeId) (vs : Array Value) (k : Value → K) : K :=
 match b with
 |.append => semK P (Builtin.append_ ts ty vs) (.one (.sc .slice)) k
 |.copy => semK P (Builtin.copy_ ts ty vs) (.one (.sc (.int .i64))) k
 |.clear => semK P (Builtin.clear_ ts ty vs) (.tup []) k
 |.delete => semK P (Builtin.delete_ ts ty vs) (.tup []) k
 |_ => kF
def effK (P : Program) (o : Oper) (ρ : Operand → Value) (k : Value → K) : K :=
 match o.op with
 |.store t a x => match aggP P t && !thinP P t with
  |true => semU P (Instr.storeAt t (ρ a) (ρ x)) (k undef)
  |false => match ρ a with
  |.pointer p => nn p fun ad => gd ((ρ x).cells.size == szP P t && okT P t && (ρ x).cells.toList.all scal) (stCells ad 0 (ρ x).cells.toList (k undef))
  |_ => kF
 |.call c => match c.callee with
  |.value (.func f) => gd (callable P f) (callK P f (c.args.toList.map ρ).toArray (resSh P o.type) k)
  |.value (.tmp t) => dynK P (ρ (.tmp t)) (c.args.toList.map ρ).toArray (resSh P o.type) k
  |.builtin b => bltK P b c.argTypes o.type (c.args.toList.map ρ).toArray k
  |_ => kF
 |.mapUpdate t m key x => semU P (Instr.mapUpdate t (ρ m) (ρ key) (ρ x)) (k undef)
 |.mapEntry t m key => semK P (Instr.mapEntry t (ρ m) (ρ key)) (match P.underlying t with | some (.map _ et) => .tup [eShP P et, .sc (.int .i64)] | _ => .tup []) k
 |.entryStore t m s x => semU P (Instr.entryStore t (ρ m) (ρ s) (ρ x)) (k undef)
 |.range t x => semK P (Instr.range t (ρ x)) (.one (.sc .ptr)) k
 |.next it s => nextK P (Instr.next (ρ it) s o.type) k
 |.entry it => semK P (Instr.entry (ρ it)) (.tup [.sc .any, .sc .any]) k
 |_ => kF

section
variable {P : Program}
theorem Vb5 {s : Sem Value} {r : RSh} {k : Value → K} {w : World} (h : semK P s r k w) : ∃ v w', s.run P w = .ok v w' ∧ k v w' := by
 unfold semK at h
 split at h
 ·rename_i v w' hr
  obtain ⟨u, rfl, h⟩ := exR.some h
  exact ⟨_, w', hr, h⟩
 ·exact h.elim
theorem Va0 {s : Sem Value} {k : Value → K} {w : World} (h : nextK P s k w) : ∃ v w', s.run P w = .ok v w' ∧ k v w' := by
 unfold nextK at h
 split at h
 ·rename_i v w' hr
  obtain ⟨b, l, rfl, h⟩ := h
  exact ⟨_, w', hr, h⟩
 ·exact h.elim
theorem Vb6 {s : Sem Unit} {k : K} {w : World} (h : semU P s k w) : ∃ w', s.run P w = .ok () w' ∧ k w' := by
 unfold semU at h
 split at h
 ·rename_i v w' hr
  exact ⟨w', hr, h⟩
 ·exact h.elim

theorem Yyl : ∀ {l : List Value} {a : Addr} {i : Nat} {k : K} {w : World}, l.all scal = true → stCells a i l k w → ∃ w', (storeCells a l i).run P w = .ok () w' ∧ k w' := by
 intro l
 induction l with
 |nil => intro a i k w _ h; exact ⟨w, rfl, h⟩
 |cons v l ih =>
  intro a i k w hs h
  simp only [List.all_cons, Bool.and_eq_true] at hs
  obtain ⟨⟨v0, hc⟩, hf, h⟩ := h
  obtain ⟨w', hr, hk⟩ := ih hs.2 h
  refine ⟨w', ?_, hk⟩
  have h1 : (store (a.add i) v .plain).run P w = .ok () (w.setCell (a.add i) v) := by
   rw [run_store P w _ _ _ (by cases v <;> simp_all [scal, Value.oneCell']), hc]; simp [hf]
  simp only [storeCells, Sem.run_bind, h1, Result.andThen_ok, hr]

theorem Yj8 {f : FuncId} (h : callable P f = true) (args : Array Value) (w : World) : (callFunc f args).run P w = .ok (.enter f args) w := by
 unfold callable at h
 cases hf : P.funcs[f]? with
 |none => simp [hf] at h
 |some fn =>
  simp only [hf, Bool.and_eq_true, Bool.not_eq_true', beq_eq_false_iff_ne] at h
  have hb : fn.body.isNone = false := by cases hb : fn.body <;> simp_all
  have hn : (fn.name == "runtime.NumGoroutine") = false := by simpa using h.2
  simp only [callFunc, Sem.run_bind, run_program, Result.andThen_ok, hf, hn, hb, Bool.false_eq_true, if_false, Sem.run_pure]

theorem Ywn {f : FuncId} {args : Array Value} {r : RSh} {k : Value → K} {w : World} (h : callK P f args r k w) :
  Calls P f args w fun e w'' => ∃ v, e = .returned v ∧ k v w'' :=
 h.mono fun e w' h => by
  obtain ⟨v, he, hk⟩ := exR.some h
  exact ⟨v, he, hk⟩

theorem Yz2 {o : Oper} {ρ : Operand → Value} {k : Value → K} {w : World} (hρ : ∀ f, ρ (.func f) = .func (.func f) #[] #[]) (h : effK P o ρ k w) : effTo P (execOp ρ o) w k := by
 obtain ⟨dst, op, type, pos, after, guard⟩ := o
 have ks : ∀ {s : Sem Value} {r : RSh}, semK P s r k w → effTo P (do pure (.value (← s))) w k := by
  intro s r h
  obtain ⟨v, w', hr, hk⟩ := Vb5 h
  unfold effTo
  simp only [Sem.run_bind, hr, Result.andThen_ok, Sem.run_pure]
  exact hk
 have us : ∀ {s : Sem Unit}, semU P s (k undef) w → effTo P (do s; pure .skip) w k := by
  intro s h
  obtain ⟨w', hr, hk⟩ := Vb6 h
  unfold effTo
  simp only [Sem.run_bind, hr, Result.andThen_ok, Sem.run_pure]
  exact hk
 cases op <;> simp only [effK] at h <;> (try exact h.elim) <;> simp only [execOp]
 case store t a x =>
  cases hb : (aggP P t && !thinP P t) with
  |true => rw [hb] at h; exact us h
  |false =>
  simp only [hb] at h
  cases hp : ρ a <;> simp only [hp] at h <;> (try exact h.elim)
  obtain ⟨ad, rfl, h'⟩ := Yj7 h
  obtain ⟨hg, h'⟩ := Yb2 h'
  simp only [Bool.and_eq_true, beq_iff_eq] at hg
  obtain ⟨⟨h1, h2⟩, h3⟩ := hg
  obtain ⟨w', hr, hk⟩ := Yyl (P := P) h3 h'
  unfold effTo
  have : (Instr.storeAt t (.pointer (some ad)) (ρ x)).run P w = .ok () w' := by
   simp [Instr.storeAt, Instr.sureAddr, storeVar, Yew h2, h1, hr]
  simp only [Sem.run_bind, this, Result.andThen_ok, Sem.run_pure]
  exact hk
 case mapUpdate t m key x => exact us h
 case mapEntry t m key => exact ks h
 case entryStore t m s x => exact us h
 case range t x => exact ks h
 case next it s =>
  obtain ⟨v, w', hr, hk⟩ := Va0 h
  unfold effTo
  simp only [Sem.run_bind, hr, Result.andThen_ok, Sem.run_pure]
  exact hk
 case entry it => exact ks h
 case call c =>
  obtain ⟨callee, args, argTypes⟩ := c
  have harr : (args.toList.map ρ).toArray = args.map ρ := by apply Array.ext'; simp
  simp only [harr] at h
  cases callee with
  |value f =>
   cases f with
   |func f =>
    obtain ⟨hc, h⟩ := Yb2 h
    have := Ywn h
    unfold effTo
    have hr : (callFunc f (args.map ρ)).run P w = .ok (.enter f (args.map ρ)) w := Yj8 hc _ _
    have e : (do let d ← resolve ρ { callee := .value (.func f), args, argTypes } type; invoke d.target d.args : Sem Next).run P w = .ok (.enter f (args.map ρ)) w := by
     simp [resolve, Deferred.ofValue, hρ, invoke, hr]
    rw [e]
    exact this
   |tmp t =>
    rcases h with ⟨g, cap, hv, hc, h⟩ | ⟨l, hv, fn, tmps, assign, body, hy, h⟩
    ·have := Ywn h
     unfold effTo
     have hr : (callFunc g (args.map ρ ++ cap)).run P w = .ok (.enter g (args.map ρ ++ cap)) w := Yj8 hc _ _
     have e : (do let d ← resolve ρ { callee := .value (.tmp t), args, argTypes } type; invoke d.target d.args : Sem Next).run P w = .ok (.enter g (args.map ρ ++ cap)) w := by
      simp [resolve, Deferred.ofValue, hv, invoke, hr]
     rw [e]
     exact this
    ·unfold effTo
     have e : (do let d ← resolve ρ { callee := .value (.tmp t), args, argTypes } type; invoke d.target d.args : Sem Next).run P w = .ok (.round l fn tmps assign body) w := by
      simp [resolve, Deferred.ofValue, hv, invoke, hy]
     rw [e]
     exact h.mono fun e w' h => exR.some h
   |const v => exact h.elim
   |global g => exact h.elim
  |invoke r m => exact h.elim
  |builtin b =>
   cases b <;> (try exact h.elim) <;> (
    have h' := ks h
    unfold effTo at h' ⊢
    simpa [resolve, invoke, builtin] using h')

theorem Vfo {a : Addr} {v : Value} {w : World} (h : w.cell? a = some v) : (load a .plain).run P w = .ok v w := by
 rw [run_load, h]
theorem Yym {a : Addr} : ∀ {l : List Sh} {i : Nat} {acc : List Value} {fs : List Ft} {k : List Ft → List Value → K} {w : World}, ldCells a l i acc fs k w →
  ∃ vs gs, k (fs ++ gs) (acc ++ vs) w ∧ (∀ f ∈ gs, f.holds w) ∧ ∀ w', (∀ f ∈ gs, f.holds w') → ∀ acc', (loadCellsFrom a i l.length acc').run P w' = .ok (acc' ++ vs.toArray) w' := by
 intro l
 induction l with
 |nil => intro i acc fs k w h; exact ⟨[], [], by simpa [ldCells] using h, (fun _ h => (List.not_mem_nil h).elim), fun w' _ acc' => by simp [loadCellsFrom]⟩
 |cons s l ih =>
  intro i acc fs k w h
  obtain ⟨v, hv, h⟩ := exSh.some h
  obtain ⟨vs, gs, hk, hg, hr⟩ := ih h
  refine ⟨v :: vs, .cell (a.add i) v :: gs, by simpa using hk, ?_, ?_⟩
  ·intro f hf
   rcases List.mem_cons.1 hf with rfl | hf
   ·exact hv
   ·exact hg f hf
  ·intro w' hw acc'
   have h1 : w'.cell? (a.add i) = some v := hw _ List.mem_cons_self
   simp only [List.length_cons, loadCellsFrom, Sem.run_bind, Vfo h1, Result.andThen_ok]
   rw [hr w' (fun f hf => hw f (List.mem_cons_of_mem _ hf))]
   simp

theorem Vdy {a : Addr} : ∀ {cs : List Value} {i : Nat} {w : World}, (∀ j, j < cs.length → w.cell? (a.add (i + j)) = cs[j]?) → ∀ acc, (loadCellsFrom a i cs.length acc).run P w = .ok (acc ++ cs.toArray) w := by
 intro cs
 induction cs with
 |nil => intro i w _ acc; simp [loadCellsFrom]
 |cons v cs ih =>
  intro i w h acc
  have h1 : w.cell? (a.add i) = some v := by simpa using h 0 (by simp)
  simp only [List.length_cons, loadCellsFrom, Sem.run_bind, Vfo h1, Result.andThen_ok]
  rw [ih (i := i + 1) (fun j hj => by have := h (j + 1) (by simp; omega); simpa [Nat.add_assoc, Nat.add_comm 1 j] using this)]
  simp

theorem Yut {t : TypeId} {z : Value} (hz : zeroP P t = some z) : (zerosP P t) = z.cells.toList := by simp [zerosP, hz]

theorem Ywo {t : TypeId} {a : Addr} {k : List Ft → Value → K} {w : World} (hok : okT P t = true) (hz : sizesFit P t = true) (h : loadK P t a k w) :
  ∃ v fs, k fs v w ∧ (∀ f ∈ fs, f.holds w) ∧ ∀ w', (∀ f ∈ fs, f.holds w') → (loadVar t a).run P w' = .ok v w' := by
 unfold loadK at h
 obtain ⟨⟨d, hu⟩, _⟩ := Yfn hok
 cases ha : aggP P t with
 |false =>
  rw [ha] at h
  obtain ⟨v, hv, h⟩ := exSh.some h
  refine ⟨v, _, h, fun f hf => by rw [List.mem_singleton] at hf; subst hf; exact hv, fun w' hw => ?_⟩
  have : w'.cell? a = some v := hw _ List.mem_cons_self
  simp [loadVar, Yo3 hu, ha, this]
 |true =>
  rw [ha] at h
  cases ht : thinP P t with
  |true =>
   rw [ht] at h
   obtain ⟨vs, gs, hk, hg, hr⟩ := Yym (P := P) h
   refine ⟨_, _, hk, by simpa using hg, fun w' hw => ?_⟩
   have hl : ((zerosP P t).map shOf).length = szP P t := by
    have := hz; simpa [sizesFit] using this
   have h1 := hr w' (by simpa using hw) #[]
   rw [hl] at h1
   simp [loadVar, Yo3 hu, ha, Yew hok, loadCells, h1]
  |false =>
   rw [ht] at h
   obtain ⟨cs, hl, hc, hk⟩ := h
   refine ⟨_, _, hk, ?_, fun w' hw => ?_⟩
   ·intro f hf
    simp only [feet, List.mem_map] at hf
    obtain ⟨⟨v, i⟩, hm, rfl⟩ := hf
    have := List.mem_zipIdx_iff_getElem?.1 hm
    simp only at this
    have hlt : i < cs.length := by
     rcases Nat.lt_or_ge i cs.length with h' | h'
     ·exact h'
     ·simp [List.getElem?_eq_none h'] at this
    show w.cell? (a.add i) = some v
    rw [hc i (by omega), this]
   ·have h1 := Vdy (P := P) (a := a) (cs := cs) (i := 0) (w := w') (fun j hj => by
     have := hw (.cell (a.add j) cs[j]) (by
      simp only [feet, List.mem_map]
      exact ⟨(cs[j], j), List.mem_zipIdx_iff_getElem?.2 (by simp), rfl⟩)
     simp only [Ft.holds] at this
     simp only [Nat.zero_add, this, List.getElem?_eq_getElem hj]) #[]
    rw [hl] at h1
    simp [loadVar, Yo3 hu, ha, Yew hok, loadCells, h1]

theorem Vb7 {kt : TypeId} {d : TypeDesc} (hu : P.underlying kt = some d) {x y : Value} {b : Bool} (h : keyEq P kt x y = some b) :
  (∀ w, (Op.equal kt x y).run P w = .ok b w) ∧ (Instr.sameNow d x y = some b ∨ Instr.sameNow d x y = none) := by
 unfold keyEq at h
 rw [hu] at h
 cases d <;> (try simp only at h) <;> (try (cases h; done))
 ·cases x <;> (try (cases h; done)) <;> cases y <;> (try (cases h; done))
  rename_i kk kx a ky b'
  simp only at h
  split at h
  ·rename_i hk; subst hk
   simp only [Option.some.injEq] at h; subst h
   exact ⟨fun w => by rw [Ygv]; exact run_equalIn_int w 9999 kt kx kk a b' hu, .inl (by simp [Instr.sameNow])⟩
  ·cases h
 ·cases x <;> (try (cases h; done)) <;> cases y <;> (try (cases h; done))
  simp only [Option.some.injEq] at h; subst h
  exact ⟨fun w => by rw [Ygv, beq_toListBytes]; exact run_equalIn_string w 9999 kt _ _ hu, .inl (by simp [Instr.sameNow])⟩
 ·cases x <;> (try (cases h; done)) <;> cases y <;> (try (cases h; done))
  rename_i fs xs ys
  simp only at h
  split at h
  ·rename_i hs
   simp only [Bool.not_eq_true'] at hs
   have hf : P.fieldsOf kt = fs := by simp [Program.fieldsOf, hu]
   refine ⟨fun w => ?_, .inr rfl⟩
   rw [Ygv, run_equalIn_struct w 9999 kt xs ys (by rw [hf]; exact hu) hs, hf]
   exact Yz1 9998 h w
  ·cases h

theorem Vb8 {kt : TypeId} {d : TypeDesc} (hu : P.underlying kt = some d) {key : Value} : ∀ {es : List MapEntry} {i : Nat} {f : Option (Nat × Value)}, mfind P kt key es i = some f →
  (∀ w, (Instr.findAsking kt key es i).run P w = .ok f w) ∧ (Instr.findNow d key es i = some f ∨ Instr.findNow d key es i = none) := by
 intro es
 induction es with
 |nil => intro i f h; simp only [mfind, Option.some.injEq] at h; subst h; exact ⟨fun w => rfl, .inl rfl⟩
 |cons e es ih =>
  intro i f h
  simp only [mfind] at h
  cases hk : keyEq P kt key e.key with
  |none => simp [hk] at h
  |some b =>
  obtain ⟨h1, h2⟩ := Vb7 hu hk
  rw [hk] at h
  cases b with
  |true =>
   simp only [Option.some.injEq] at h; subst h
   refine ⟨fun w => by simp [Instr.findAsking, h1], ?_⟩
   rcases h2 with h2 | h2 <;> simp [Instr.findNow, h2]
  |false =>
   simp only at h
   obtain ⟨h3, h4⟩ := ih h
   refine ⟨fun w => by simp [Instr.findAsking, h1, h3], ?_⟩
   rcases h2 with h2 | h2 <;> simp [Instr.findNow, h2]
   exact h4
theorem Ygw {kt : TypeId} {d : TypeDesc} (hu : P.underlying kt = some d) {key : Value} {es : List MapEntry} {f : Option (Nat × Value)} (h : mfind P kt key es 0 = some f) (w : World) :
  (Instr.findKey kt key es).run P w = .ok f w := by
 obtain ⟨h1, h2⟩ := Vb8 hu h
 unfold Instr.findKey
 simp only [Sem.run_bind, Ycl hu, Result.andThen_ok]
 rcases h2 with h2 | h2
 ·rw [h2]; rfl
 ·rw [h2]; exact h1 w

theorem Yet {kt : TypeId} {key : Value} (h : keyFine P kt key = true) (e : Bool) (w : World) : (Instr.checkKey e 10000 kt key).run P w = .ok () w := by
 show (Instr.checkKey e (9999 + 1) kt key).run P w = _
 unfold keyFine at h
 cases hu : P.underlying kt with
 |none => simp [hu] at h
 |some d =>
 rw [hu] at h
 rw [Instr.checkKey]
 simp only [Sem.run_bind, Ycl hu, Result.andThen_ok]
 cases d <;> (try simp only at h) <;> (try (cases h; done))
 ·cases key <;> (try (cases h; done)); rfl
 ·cases key <;> (try (cases h; done)); rfl
 ·cases key <;> (try (cases h; done))
  rename_i fs xs
  simp only [List.all_eq_true] at h ⊢
  rw [← Array.forIn_toList]
  generalize fs.toList = l at h
  induction l with
  |nil => rfl
  |cons f l ih =>
   have hf := h f List.mem_cons_self
   simp only [List.forIn_cons, Sem.run_bind, Sem.run_ite] at ih ⊢
   by_cases hn : f.name = "_"
   ·simp only [hn, ne_eq, not_true_eq_false, if_false, Sem.run_pure, Result.andThen_ok]
    exact ih fun g hg => h g (List.mem_cons_of_mem _ hg)
   ·simp only [Bool.or_eq_true, beq_iff_eq, hn, false_or, Bool.and_eq_true, Bool.not_eq_true'] at hf
    obtain ⟨⟨⟨h1, h2⟩, h3⟩, h4⟩ := hf
    obtain ⟨v, hv⟩ := Option.isSome_iff_exists.1 h3
    obtain ⟨⟨d, hd⟩, _⟩ := Yfn h1
    have hck : ∀ w, (Instr.checkKey e (9998 + 1) f.type v).run P w = .ok () w := by
     intro w
     rw [Instr.checkKey]
     simp only [Sem.run_bind, Ycl hd, Result.andThen_ok]
     rw [hd] at h4
     cases d <;> simp at h4 <;> cases v <;> rfl
    simp only [hn, ne_eq, not_false_eq_true, if_true, Yhy hd h2 hv, Result.andThen_ok, hck, Sem.run_pure]
    exact ih fun g hg => h g (List.mem_cons_of_mem _ hg)

theorem Ywp {o : Oper} {ρ : Operand → Value} {k : List Ft → Value → K} {w : World} (h : readK P o ρ k w) :
  ∃ v fs, k fs v w ∧ (∀ f ∈ fs, f.holds w) ∧ ∀ w', (∀ f ∈ fs, f.holds w') → (execOp ρ o).run P w' = .ok (.value v) w' := by
 obtain ⟨dst, op, type, pos, after, guard⟩ := o
 cases op <;> simp only [readK] at h <;> (try exact h.elim) <;> simp only [execOp]
 case load t a =>
  cases hp : ρ a <;> simp only [hp] at h <;> (try exact h.elim)
  obtain ⟨ad, rfl, h'⟩ := Yj7 h
  obtain ⟨hg, h'⟩ := Yb2 h'
  simp only [Bool.and_eq_true] at hg
  obtain ⟨v, fs, hk, hf, hr⟩ := Ywo hg.1 hg.2 h'
  exact ⟨v, fs, hk, hf, fun w' hw => by simp [Instr.loadAt, Instr.sureAddr, hr w' hw]⟩
 case lookup t m key ok =>
  cases hp : ρ m <;> simp only [hp] at h <;> (try exact h.elim)
  unfold lookK at h
  cases hu : P.underlying t with
  |none => simp only [hu] at h; exact h.elim
  |some d =>
  cases d <;> simp only [hu] at h <;> (try exact h.elim)
  rename_i kt et
  cases hz : zeroP P et with
  |none => simp only [hz] at h; exact h.elim
  |some z =>
  simp only [hz] at h
  obtain ⟨hg, h⟩ := Yb2 h
  obtain ⟨r, es, c, f, rfl, hh, hm, h⟩ := h
  obtain ⟨v, hv, hk⟩ := exE.some h
  have ⟨d, hd⟩ : ∃ d, P.underlying kt = some d := by
   unfold keyFine at hg
   cases hd : P.underlying kt with
   |none => simp [hd] at hg
   |some d => exact ⟨d, rfl⟩
  refine ⟨_, _, hk, fun g hg => by rw [List.mem_singleton] at hg; subst hg; exact ⟨hh, trivial⟩, fun w' hw => ?_⟩
  have h1 : w'.heap[r]? = some (.map es c) := (hw _ List.mem_cons_self).1
  have hg' : (getObj r).run P w' = .ok (.map es c) w' := by simp [getObj, Sem.run, h1]
  subst hv
  clear hk h
  have : ∀ ok, (Instr.lookup t (.map (some r)) (ρ key) ok).run P w' = .ok (match ok with | true => .tuple #[lookV f z, .bool f.isSome] | false => lookV f z) w' := by
   intro ok
   simp only [Instr.lookup, Sem.run_bind, Ycl hu, Result.andThen_ok, hg', Sem.run_pure, Yet hg, Ygw hd hm]
   cases f with
   |none => cases ok <;> simp [Yns hz, lookV]
   |some iv => cases ok <;> simp [lookV]
  simp [this]
 case call c =>
  obtain ⟨callee, args, argTypes⟩ := c
  cases callee <;> (try exact h.elim)
  rename_i b
  cases b <;> (try exact h.elim)
  simp only at h
  cases ht : argTypes.toList with
  |nil => simp only [ht] at h; exact h.elim
  |cons t ts =>
  cases hx : args.toList with
  |nil => simp only [ht, hx] at h; exact h.elim
  |cons x xs =>
  simp only [ht, hx] at h
  have ht' : argTypes[0]? = some t := by rw [← Array.getElem?_toList, ht]; rfl
  have hx' : (args.map ρ)[0]? = some (ρ x) := by rw [Array.getElem?_map, ← Array.getElem?_toList, hx]; rfl
  have key : ∀ {v : Value} {w'}, (Builtin.len_ argTypes type (args.map ρ)).run P w' = .ok v w' → (do let d ← resolve ρ { callee := .builtin .len, args, argTypes } type; invoke d.target d.args : Sem Next).run P w' = .ok (.value v) w' := by
   intro v w' hr
   simp [resolve, invoke, builtin, hr]
  cases hu : P.underlying t with
  |none => simp only [hu] at h; exact h.elim
  |some d =>
  have nof : ∀ f ∈ ([] : List Ft), f.holds w := fun f hf => (List.not_mem_nil hf).elim
  cases d <;> simp only [hu] at h <;> (try exact h.elim)
  ·cases hp : ρ x <;> simp only [hp] at h <;> (try exact h.elim)
   exact ⟨_, _, h, nof, fun w' _ => key (by simp [Builtin.len_, ht', hx', Ycl hu, hp, goInt])⟩
  ·cases hp : ρ x <;> simp only [hp] at h <;> (try exact h.elim)
   exact ⟨_, _, h, nof, fun w' _ => key (by simp [Builtin.len_, ht', hx', Ycl hu, hp, goInt])⟩
  ·exact ⟨_, _, h, nof, fun w' _ => key (by simp [Builtin.len_, ht', hx', Ycl hu, goInt])⟩
  ·cases hp : ρ x <;> simp only [hp] at h <;> (try exact h.elim)
   obtain ⟨r, es, c, rfl, hh, hk⟩ := h
   refine ⟨_, _, hk, fun g hg => by rw [List.mem_singleton] at hg; subst hg; exact ⟨hh, trivial⟩, fun w' hw => key ?_⟩
   have h1 : w'.heap[r]? = some (.map es c) := (hw _ List.mem_cons_self).1
   have hg' : (getObj r).run P w' = .ok (.map es c) w' := by simp [getObj, Sem.run, h1]
   simp [Builtin.len_, ht', hx', Ycl hu, hp, goInt, hg']
end
theorem Yfj (z : List Value) (n : Nat) : (repZ z n).length = n * z.length := by
 induction n with
 |zero => simp [repZ]
 |succ n ih => simp [repZ]
theorem Vdz (z : List Value) (n i : Nat) (h : i < n * z.length) : (repZ z n)[i]? = z[i % z.length]? := by
 induction n generalizing i with
 |zero => simp at h
 |succ n ih =>
  have e : repZ z (n + 1) = z ++ repZ z n := by simp [repZ, List.replicate_succ]
  rw [e]
  have hs : 0 < z.length := by
   rcases Nat.eq_zero_or_pos z.length with h0 | h0
   ·rw [h0] at h; simp at h
   ·exact h0
  by_cases hi : i < z.length
  ·rw [List.getElem?_append_left hi, Nat.mod_eq_of_lt hi]
  ·rw [List.getElem?_append_right (by omega), ih (i - z.length) (by rw [Nat.add_mul] at h; omega)]
   rw [Nat.mod_eq_sub_mod (by omega : i ≥ z.length)]
theorem Yz3 (z : List Value) (n : Nat) : (Array.range (n * z.length)).map (fun x => z.toArray[x % z.toArray.size]!) = (repZ z n).toArray := by
 apply Array.ext
 ·simp [Yfj]
 ·intro i h1 h2
  simp at h1
  have hs : 0 < z.length := by
   rcases Nat.eq_zero_or_pos z.length with h0 | h0
   ·rw [h0] at h1; simp at h1
   ·exact h0
  have h3 := Vdz z n i h1
  have hm : i % z.length < z.length := Nat.mod_lt _ hs
  simp only [List.getElem_toArray, Array.getElem_map, Array.getElem_range, List.size_toArray]
  have h4 : i < (repZ z n).length := by rw [Yfj]; exact h1
  rw [List.getElem?_eq_getElem h4, List.getElem?_eq_getElem hm] at h3
  have h5 := Option.some.inj h3
  rw [h5]
  simp [hm]

section
variable {P : Program}
theorem Yty : Array.range 0 = #[] := by simp [Array.range]
theorem Ywq {n : Int} (h0 : 0 ≤ n) (h : n ≤ 2 ^ 48) : IntKind.i64.wrap n = n := by
 unfold IntKind.wrap
 simp only [IntKind.bits, IntKind.signed]
 have : n % 2 ^ 64 = n := Int.emod_eq_of_lt h0 (by omega)
 simp only [this]
 rw [if_neg]
 simp only [Bool.true_and, decide_eq_true_eq]
 omega

theorem Ytz {o : Oper} {ρ : Operand → Value} {k : Value → K} {w : World} (h : allocK P o ρ k w) :
  ∃ f ob, runsAlloc P (execOp ρ o) f ob ∧ k (f w.heap.size) { w with heap := w.heap.push ob } := by
 obtain ⟨dst, op, type, pos, after, guard⟩ := o
 cases op <;> simp only [allocK] at h <;> (try exact h.elim) <;> simp only [execOp]
 case alloc t =>
  obtain ⟨z, hz, h⟩ := optK h
  exact ⟨fun b => .pointer (some ⟨b, 0, none⟩), _, fun w => by simp [Instr.alloc, newVar, newRow, Yns hz], h⟩
 case box t x => exact ⟨fun b => .pointer (some ⟨b, 0, none⟩), _, fun w => by simp [Instr.box, newVar, newRow], h⟩
 case buildSlice t n parts =>
  cases hu : P.underlying t with
  |none => simp only [hu] at h; exact h.elim
  |some d =>
  cases d <;> simp only [hu] at h <;> (try exact h.elim)
  rename_i e
  obtain ⟨hg, h⟩ := Yb2 h
  simp only [Bool.and_eq_true, decide_eq_true_eq, beq_iff_eq] at hg
  obtain ⟨⟨⟨h1, h2⟩, h3⟩, h4⟩ := hg
  obtain ⟨cs, hcs, h⟩ := optK h
  obtain ⟨z, hz⟩ := Option.isSome_iff_exists.1 h2
  have hzl := Yut hz
  have hp : ((parts.map fun (i, x) => (i, ρ x)).toList) = parts.toList.map fun (i, x) => (i, ρ x) := by simp
  refine ⟨fun b => .slice (some ⟨b, 0, none⟩) n n, _, fun w => ?_, h⟩
  have hn : ¬ n * szP P e > 2 ^ 24 := by omega
  by_cases h0 : n * szP P e = 0
  ·have hr : (repZ (zerosP P e) n).length = 0 := by rw [Yfj, h4, h0]
   rw [List.eq_nil_of_length_eq_zero hr] at hcs
   simp only [Instr.buildSlice, Sem.run_bind, Ycl hu, Result.andThen_ok, Yew h1, Sem.run_ite, h0, if_true, Sem.run_pure, hp]
   simp [Yty, hcs, newRow]
  ·have : (Array.range (n * szP P e)).map (z.cells[· % z.cells.size]!) = (repZ (zerosP P e) n).toArray := by
    rw [← Yz3, h4, hzl]
   simp only [Instr.buildSlice, Sem.run_bind, Ycl hu, Result.andThen_ok, Yew h1, Sem.run_ite, hn, if_false, h0, Sem.run_pure, hp, Yns hz, this, hcs]
   simp [newRow]
 case makeSlice t l c =>
  cases hu : P.underlying t with
  |none => simp only [hu] at h; exact h.elim
  |some d =>
  cases d <;> simp only [hu] at h <;> (try exact h.elim)
  rename_i e
  cases hl : ρ l <;> simp only [hl] at h <;> (try exact h.elim)
  cases hc : ρ c <;> simp only [hc] at h <;> (try exact h.elim)
  rename_i _ l _ c
  obtain ⟨hg, h⟩ := Yb2 h
  simp only [Bool.and_eq_true, decide_eq_true_eq, beq_iff_eq] at hg
  obtain ⟨⟨⟨h1, h2⟩, h3⟩, h4⟩ := hg
  obtain ⟨z, hz⟩ := Option.isSome_iff_exists.1 h2
  have hzl := Yut hz
  obtain ⟨⟨b1, b2, b3⟩, h⟩ := h
  refine ⟨fun b => .slice (some ⟨b, 0, none⟩) l.toNat c.toNat, _, fun w => ?_, h⟩
  obtain ⟨⟨d, hd⟩, hnz⟩ := Yfn h1
  obtain ⟨i, hi⟩ := Yra hd
  have hb : bytesP P e = i.bytes := by simp [bytesP, hi]
  have hc48 : c ≤ 2 ^ 48 := by
   have : (c : Int) ≤ bytesP P e * c := by
    have h5 : (1 : Int) ≤ bytesP P e := by omega
    have := Int.mul_le_mul_of_nonneg_right h5 (by omega : 0 ≤ c)
    omega
   omega
  have wl := Ywq b1 (by omega : l ≤ 2 ^ 48)
  have wc := Ywq (by omega : 0 ≤ c) hc48
  have t1 : (decide (c < 0) || decide ((i.bytes : Int) * c > 2 ^ 48)) = false := by
   rw [← hb]; simp; constructor <;> omega
  have t2 : ((decide (c < 0) || decide ((i.bytes : Int) * c > 2 ^ 48)) || decide (l < 0) || decide (l > c)) = false := by
   rw [t1]; simp; constructor <;> omega
  have rm : ∀ kl kc, (Instr.makeSlice t (.int kl l) (.int kc c)).run P w = .ok (.slice (some ⟨w.heap.size, 0, none⟩) l.toNat c.toNat) { w with heap := w.heap.push (.cells (repZ (zerosP P e) c.toNat).toArray e) } := by
   intro kl kc
   by_cases h0 : c.toNat * szP P e = 0
   ·have hr : (repZ (zerosP P e) c.toNat).length = 0 := by rw [Yfj, h4, h0]
    rw [List.eq_nil_of_length_eq_zero hr]
    simp only [Instr.makeSlice, Sem.run_bind, Ycl hu, Result.andThen_ok, asInt, asIntOf, Sem.run_pure, Ylr hi, wl, wc, t2, Sem.run_ite, run_askRoom, Yew h1, h0, if_true, newRow, run_newObj, Bool.false_eq_true, if_false]
    simp [Yty]
   ·have : (Array.range (c.toNat * szP P e)).map (z.cells[· % z.cells.size]!) = (repZ (zerosP P e) c.toNat).toArray := by
     rw [← Yz3, h4, hzl]
    simp only [Instr.makeSlice, Sem.run_bind, Ycl hu, Result.andThen_ok, asInt, asIntOf, Sem.run_pure, Ylr hi, wl, wc, t2, Sem.run_ite, run_askRoom, Yew h1, h0, Yns hz, newRow, run_newObj, Bool.false_eq_true, if_false, this]
  simp [rm]
 case makeMap t r =>
  cases r with
  |none => exact ⟨fun b => .map (some b), _, fun w => by simp [Instr.makeMap], h⟩
  |some r =>
   simp only at h
   cases hu : P.underlying t with
   |none => simp only [hu] at h; exact h.elim
   |some d =>
   cases d <;> simp only [hu] at h <;> (try exact h.elim)
   cases hr : ρ r <;> simp only [hr] at h <;> (try exact h.elim)
   exact ⟨fun b => .map (some b), _, fun w => by simp [Instr.makeMap, Ycl hu, hr, asInt, asIntOf], h⟩
end
abbrev Env := List (Nat × Value)
def Env.get : Env → Nat → Option Value
 |[], _ => none
 |(u, v) :: E, t => match Nat.beq u t with | true => some v | false => Env.get E t
def Env.rho (E : Env) : Operand → Value
 |.tmp t => (E.get t).getD undef
 |.const v => v
 |.global g => .pointer (some ⟨g, 0, none⟩)
 |.func f => .func (.func f) #[] #[]
def Env.has (E : Env) : Operand → Bool
 |.tmp t => (E.get t).isSome
 |_ => true
def Env.put (E : Env) (dst : Option Tmp) (v : Value) : Env := match dst with | some d => (d, v) :: E | none => E
/-- only these slots are kept -/
def Env.keep (E : Env) : List Nat → (Env → K) → K
 |[], k => k []
 |t :: l, k => onSome (E.get t) fun v => E.keep l fun E' => k ((t, v) :: E')
variable {D : List Deferred}
def Agree (D : List Deferred) (n : Nat) (E : Env) (a : Act) : Prop := a.defers = D ∧ a.tmps.size = n ∧ ∀ t v, E.get t = some v → a.tmps[t]? = some v

def wantE (E : Env) (ops : Array Oper) (o : Oper) : Option Bool :=
 match o.guard with
 |none => some true
 |some (g, want) => match (ops[g]?).bind (·.dst) with
  |some t => match E.get t with
   |some (.bool b) => some (match b, want with | true, true => true | false, false => true | _, _ => false)
   |some (.tuple _) => some false
   |_ => none
  |none => none
/-- a value whose test is decided at once -/
def splitK (s : Bool) (v : Value) (k : Value → K) : K :=
 match s, v with
 |true, .bool b => (match b with | true => k (.bool true) | false => k (.bool false))
 |_, v => k v
def okOper (n : Nat) (E : Env) (o : Oper) : Bool := o.op.operands.toList.all E.has && (match o.dst with | some d => Nat.blt d n | none => true)
def pends (B : Nat → Nat → Bool) (i : Nat) : List (Nat × List Ft) → List Ft
 |[] => []
 |(j, fs) :: l => match B i j with | true => pends B i l | false => fs ++ pends B i l

def rgnE (P : Program) (n : Nat) (ops : Array Oper) (B : Nat → Nat → Bool) (dr : Bool) (sp : List Nat) : List Nat → List (Nat × List Ft) → Env → (Env → K) → K
 |[], _, E, k => k E
 |i :: rest, pd, E, k => onSome ops[i]? fun o => gd (okOper n E o) (onSome (wantE E ops o) fun wa => match wa with
  |false => rgnE P n ops B dr sp rest pd (E.put o.dst undef) k
  |true => match clsOf o with
   |.pure => pureK P o E.rho fun v => splitK (sp.contains i) v fun v => rgnE P n ops B dr sp rest pd (E.put o.dst v) k
   |.read => readK P o E.rho fun fs v => rgnE P n ops B dr sp rest ((i, fs) :: pd) (E.put o.dst v) k
   |.alloc => allocK P o E.rho fun v => rgnE P n ops B dr sp rest pd (E.put o.dst v) k
   |.eff => effK P o E.rho fun v => match dr with
    |true => chk (pends B i pd) fun _ => rgnE P n ops B dr sp rest pd (E.put o.dst v) k
    |false => rgnE P n ops B dr sp rest pd (E.put o.dst v) k)

section
variable {P : Program} {n : Nat} {ops : Array Oper} {B : Nat → Nat → Bool} {dr : Bool} {sp : List Nat}
theorem beqS {u t : Nat} (h : Nat.beq u t = true) : u = t := Nat.eq_of_beq_eq_true h
theorem Agree.get {E : Env} {a : Act} (h : Agree D n E a) {t : Nat} {v : Value} (hg : E.get t = some v) : a.tmps.getD t undef = v := by
 have := h.2.2 t v hg
 simp [this]
theorem Agree.put {E : Env} {a : Act} (h : Agree D n E a) {dst : Option Tmp} {v : Value} (hd : ∀ d, dst = some d → d < n) : Agree D n (E.put dst v) (a.put dst v) := by
 cases dst with
 |none => exact h
 |some d =>
  refine ⟨h.1, by simpa [Act.put] using h.2.1, fun t u hg => ?_⟩
  simp only [Env.put, Env.get] at hg
  have hlt : d < a.tmps.size := by rw [h.2.1]; exact hd d rfl
  cases hb : Nat.beq d t with
  |true =>
   rw [hb] at hg
   obtain rfl := beqS hb
   simp only [Option.some.injEq] at hg; subst hg
   simp [Act.put, hlt]
  |false =>
   rw [hb] at hg
   have hne : d ≠ t := fun e => by subst e; simp at hb
   have := h.2.2 t u hg
   simp [Act.put, Array.getElem?_setIfInBounds_ne hne, this]
theorem Agree.rho {E : Env} {a : Act} (h : Agree D n E a) {x : Operand} (hx : E.has x = true) : a.eval x = E.rho x := by
 cases x with
 |tmp t =>
  simp only [Env.has] at hx
  obtain ⟨v, hv⟩ := Option.isSome_iff_exists.1 hx
  simp only [Act.eval, Env.rho, hv, Option.getD_some]
  exact h.get hv
 |_ => rfl
theorem Agree.exec {E : Env} {a : Act} (h : Agree D n E a) {o : Oper} (ho : okOper n E o = true) (hs : ∀ cs b, o.op ≠ .select cs b) : execOp a.eval o = execOp E.rho o := by
 simp only [okOper, Bool.and_eq_true, List.all_eq_true] at ho
 exact execOp_congr o hs fun x hx => h.rho (ho.1 x (by simpa using hx))
theorem okOper.dst {E : Env} {o : Oper} (ho : okOper n E o = true) : ∀ d, o.dst = some d → d < n := by
 intro d hd
 simp only [okOper, Bool.and_eq_true, hd] at ho
 have := ho.2
 exact Nat.le_of_ble_eq_true this
theorem Agree.want {E : Env} {a : Act} (h : Agree D n E a) {o : Oper} {b : Bool} (hw : wantE E ops o = some b) : wants ops o a = b := by
 unfold wantE at hw
 unfold wants Region.wanted
 cases hg : o.guard with
 |none => simp [hg] at hw ⊢; exact hw
 |some gw =>
  obtain ⟨g, want⟩ := gw
  simp only [hg] at hw ⊢
  cases hd : (ops[g]?).bind (·.dst) with
  |none => simp [hd] at hw
  |some t =>
   simp only [hd] at hw
   cases he : E.get t with
   |none => simp [he] at hw
   |some v =>
    simp only [he] at hw
    cases v <;> simp only at hw <;> (try (cases hw; done))
    case tuple =>
     have hy : yielded ops a.tmps g = none := by
      unfold yielded
      rw [hd]
      simp [h.2.2 t _ he]
     rw [hy]
     simp only [Option.some.injEq] at hw
     subst hw
     rfl
    rename_i bb
    have := h.get he
    have hy : yielded ops a.tmps g = some bb := by
     unfold yielded
     rw [hd]
     simp [h.2.2 t _ he]
    rw [hy]
    cases bb <;> cases want <;> simp_all

theorem Yrb {s : Bool} {v : Value} {k : Value → K} {w : World} (h : splitK s v k w) : k v w := by
 unfold splitK at h
 cases s with
 |false => exact h
 |true =>
  cases v <;> try exact h
  rename_i b
  cases b
  ·exact h
  ·exact h

theorem Ywr {i j : Nat} {fs : List Ft} {pd : List (Nat × List Ft)} (hm : (j, fs) ∈ pd) (hB : B i j = false) : ∀ f ∈ fs, f ∈ pends B i pd := by
 induction pd with
 |nil => cases hm
 |cons x pd ih =>
  obtain ⟨j', fs'⟩ := x
  intro f hf
  unfold pends
  rcases List.mem_cons.1 hm with h | h
  ·simp only [Prod.mk.injEq] at h
   obtain ⟨rfl, rfl⟩ := h
   rw [hB]; exact List.mem_append_left _ hf
  ·cases hb : B i j' with
   |true => exact ih h f hf
   |false => exact List.mem_append_right _ (ih h f hf)

theorem notsel {o : Oper} (h : clsOf o ≠ .eff) : ∀ cs b, o.op ≠ .select cs b := by
 intro cs b e
 apply h
 simp [clsOf, e]

def PdOk (P : Program) (p : Pend) (pd : List (Nat × List Ft)) : Prop :=
 ∀ x ∈ p, ∃ fs, (x.1, fs) ∈ pd ∧ ∀ w', (∀ f ∈ fs, f.holds w') → x.2.1.run P w' = .ok (.value x.2.2) w'

/-- the slots that a region writes -/
def dstsL : List Oper → List Nat
 |[] => []
 |o :: l => match o.dst with | some d => d :: dstsL l | none => dstsL l
def Fr (W : List Nat) (a a' : Act) : Prop := ∀ t, W.contains t = false → a'.tmps[t]? = a.tmps[t]?
theorem Fr.refl (W : List Nat) (a : Act) : Fr W a a := fun _ _ => rfl
theorem Yws {l : List Oper} {o : Oper} {d : Nat} (h : o ∈ l) (hd : o.dst = some d) : d ∈ dstsL l := by
 induction l with
 |nil => cases h
 |cons x l ih =>
  simp only [dstsL]
  rcases List.mem_cons.1 h with rfl | h
  ·rw [hd]; exact List.mem_cons_self
  ·cases x.dst with
   |none => exact ih h
   |some e => exact List.mem_cons_of_mem _ (ih h)
theorem Fr.put {W : List Nat} {a0 a : Act} (h : Fr W a0 a) {dst : Option Tmp} {v : Value} (hd : ∀ d, dst = some d → d ∈ W) : Fr W a0 (a.put dst v) := by
 intro t ht
 cases dst with
 |none => exact h t ht
 |some d =>
  have hne : d ≠ t := fun e => by subst e; simp [hd d rfl] at ht
  simp only [Act.put, Array.getElem?_setIfInBounds_ne hne]
  exact h t ht

theorem Vb9 (hB : dr = true ∨ ∀ i j, B i j = true) {Q : Act → World → Prop} {k : Env → K} {a0 : Act} (hk : ∀ E' a' w', Agree D n E' a' → Fr (dstsL ops.toList) a0 a' → k E' w' → Q a' w') :
  ∀ (l : List Nat) (pd : List (Nat × List Ft)) (E : Env) (p : Pend) (a : Act) (w : World), rgnE P n ops B dr sp l pd E k w → Agree D n E a → Fr (dstsL ops.toList) a0 a → PdOk P p pd → EV P ops B Q l p a w := by
 intro l
 induction l with
 |nil => intro pd E p a w h ha hfr _; exact hk _ _ _ ha hfr h
 |cons i l ih =>
  intro pd E p a w h ha hfr hp
  simp only [rgnE] at h
  obtain ⟨o, ho, h⟩ := optK h
  obtain ⟨hok, h⟩ := Yb2 h
  obtain ⟨wa, hwa, h⟩ := optK h
  have hw := ha.want hwa
  have hd := okOper.dst hok
  have hfp : ∀ v, Fr (dstsL ops.toList) a0 (a.put o.dst v) := fun v => hfr.put fun d hd => Yws (by simpa using Array.mem_of_getElem? ho) hd
  refine ⟨o, ho, ?_⟩
  cases wa with
  |false => exact .inl ⟨hw, ih _ _ _ _ _ h (ha.put hd) (hfp _) hp⟩
  |true =>
   refine .inr ⟨hw, ?_⟩
   cases hc : clsOf o with
   |pure =>
    simp only [hc] at h
    have he := ha.exec hok (notsel (by rw [hc]; simp))
    obtain ⟨v, hv, h⟩ := Ywm hc h
    exact .inl ⟨rfl, v, by rw [he]; exact hv, ih _ _ _ _ _ (Yrb h) (ha.put hd) (hfp _) hp⟩
   |read =>
    simp only [hc] at h
    have he := ha.exec hok (notsel (by rw [hc]; simp))
    obtain ⟨v, fs, h, hf, hr⟩ := Ywp h
    refine .inr (.inl ⟨rfl, v, ?_, ih _ _ _ _ _ h (ha.put hd) (hfp _) ?_⟩)
    ·rw [he]; exact fun w' hx => hr w' fun f hm => Ft.holds_ext hx (hf f hm)
    ·intro x hx
     rcases List.mem_cons.1 hx with rfl | hx
     ·exact ⟨fs, List.mem_cons_self, by simp only; rw [he]; exact hr⟩
     ·obtain ⟨gs, hm, hg⟩ := hp x hx
      exact ⟨gs, List.mem_cons_of_mem _ hm, hg⟩
   |alloc =>
    simp only [hc] at h
    have he := ha.exec hok (notsel (by rw [hc]; simp))
    obtain ⟨f, ob, hr, h⟩ := Ytz h
    exact .inr (.inr (.inl ⟨rfl, f, ob, by rw [he]; exact hr, ih _ _ _ _ _ h (ha.put hd) (hfp _) hp⟩))
   |eff =>
    simp only [hc] at h
    have he : execOp a.eval o = execOp E.rho o := by
     by_cases hs : ∀ cs b, o.op ≠ .select cs b
     ·exact ha.exec hok hs
     ·exfalso
      have : ∃ cs b, o.op = .select cs b := Classical.byContradiction fun hn => hs fun cs b e => hn ⟨cs, b, e⟩
      obtain ⟨cs, b, e⟩ := this
      unfold effK at h
      simp only [e] at h
      exact h.elim
    refine .inr (.inr (.inr ⟨rfl, ?_⟩))
    rw [he]
    refine (Yz2 (fun f => rfl) h).mono fun v w' h' => ?_
    rcases hB with rfl | hB
    ·obtain ⟨h1, h2⟩ := Yus h'
     refine ⟨fun x hx hb => ?_, ih _ _ _ _ _ h2 (ha.put hd) (hfp _) hp⟩
     obtain ⟨fs, hm, hg⟩ := hp x hx
     exact fun w'' hx' => hg w'' fun f hf => Ft.holds_ext hx' (h1 f (Ywr hm hb f hf))
    ·refine ⟨fun x hx hb => (by rw [hB] at hb; cases hb), ?_⟩
     cases dr with
     |true => exact ih _ _ _ _ _ (Yus h').2 (ha.put hd) (hfp _) hp
     |false => exact ih _ _ _ _ _ h' (ha.put hd) (hfp _) hp

theorem Yst {ro : Option Nat} {fm : Nat} {Q : Exit → Act → World → Prop} {k : Env → K} {id : Nat} {E : Env} {a : Act} {w : World} (ha : Agree D n E a)
  (hk : ∀ E' a' w', Agree D n E' a' → Fr (dstsL ops.toList) a a' → k E' w' → Q .normal a' w') (h : rgnE P n ops (fun _ _ => true) false sp (List.range ops.size) [] E k w) : (Code.region id ops false).wpIn (wd ro) fm P Q a w :=
 Ywf (B := fun _ _ => true) (Vb9 (.inr fun _ _ => rfl) hk _ _ _ _ _ _ h ha (Fr.refl _ _) fun _ hx => (List.not_mem_nil hx).elim)
theorem Yuu {ro : Option Nat} {fm : Nat} {Q : Exit → Act → World → Prop} {k : Env → K} {id : Nat} {can gc : List Nat} {E : Env} {a : Act} {w : World} (ha : Agree D n E a)
  (hk : ∀ E' a' w', Agree D n E' a' → Fr (dstsL ops.toList) a a' → k E' w' → Q .normal a' w') (hok : regionOk ops B can gc = true) (h : rgnE P n ops B true sp can [] E k { w with drawn := w.drawn + 1 }) : (Code.region id ops true).wpIn (wd ro) fm P Q a w :=
 Yyk hok (Vb9 (.inl rfl) hk _ _ _ _ _ _ h ha (Fr.refl _ _) fun _ hx => (List.not_mem_nil hx).elim)
end
variable {D : List Deferred}

inductive Sg where
 |int (k : IntKind) | bool | ptr | addr | slice | map | str | any | func
/-- a tuple of typed values -/
def Tup : List (Nat × Sg) → Type
 |[] => Unit
 |(_, .int _) :: l => Int × Tup l
 |(_, .bool) :: l => Bool × Tup l
 |(_, .ptr) :: l => Option Addr × Tup l
 |(_, .addr) :: l => Addr × Tup l
 |(_, .slice) :: l => Sl × Tup l
 |(_, .map) :: l => Option Nat × Tup l
 |(_, .str) :: l => ByteArray × Tup l
 |(_, .any) :: l => Value × Tup l
 |(_, .func) :: l => Fv × Tup l
def encE : (l : List (Nat × Sg)) → Tup l → Env
 |[], _ => []
 |(t, .int k) :: l, (x, r) => (t, .int k x) :: encE l r
 |(t, .bool) :: l, (x, r) => (t, .bool x) :: encE l r
 |(t, .ptr) :: l, (x, r) => (t, .pointer x) :: encE l r
 |(t, .addr) :: l, (x, r) => (t, .pointer (some x)) :: encE l r
 |(t, .slice) :: l, (x, r) => (t, x.v) :: encE l r
 |(t, .map) :: l, (x, r) => (t, .map x) :: encE l r
 |(t, .str) :: l, (x, r) => (t, .string x) :: encE l r
 |(t, .any) :: l, (x, r) => (t, x) :: encE l r
 |(t, .func) :: l, (x, r) => (t, x.v) :: encE l r
def getAll : (l : List (Nat × Sg)) → Env → (Tup l → K) → K
 |[], _, f => f ()
 |(t, .int k) :: l, E, f => (match E.get t with | some (.int k' n) => gd (decide (k' = k)) (getAll l E fun r => f (n, r)) | _ => kF)
 |(t, .bool) :: l, E, f => (match E.get t with | some (.bool b) => getAll l E fun r => f (b, r) | _ => kF)
 |(t, .ptr) :: l, E, f => (match E.get t with | some (.pointer p) => getAll l E fun r => f (p, r) | _ => kF)
 |(t, .addr) :: l, E, f => (match E.get t with | some (.pointer p) => nn p fun a => getAll l E fun r => f (a, r) | _ => kF)
 |(t, .slice) :: l, E, f => (match E.get t with | some (.slice p n c) => getAll l E fun r => f (⟨p, n, c⟩, r) | _ => kF)
 |(t, .map) :: l, E, f => (match E.get t with | some (.map m) => getAll l E fun r => f (m, r) | _ => kF)
 |(t, .str) :: l, E, f => (match E.get t with | some (.string s) => getAll l E fun r => f (s, r) | _ => kF)
 |(t, .any) :: l, E, f => (match E.get t with | some v => getAll l E fun r => f (v, r) | _ => kF)
 |(t, .func) :: l, E, f => (match E.get t with | some (.func a b c) => getAll l E fun r => f (⟨a, b, c⟩, r) | _ => kF)
def sub (E' E : Env) : Prop := ∀ t v, E'.get t = some v → E.get t = some v
theorem sub.cons {E' E : Env} {t : Nat} {v : Value} (h : E.get t = some v) (hs : sub E' E) : sub ((t, v) :: E') E := by
 intro u x hu
 simp only [Env.get] at hu
 cases hb : Nat.beq t u with
 |true => rw [hb] at hu; obtain rfl := beqS hb; simp only [Option.some.injEq] at hu; subst hu; exact h
 |false => rw [hb] at hu; exact hs u x hu
theorem Ygx : ∀ {l : List (Nat × Sg)} {E : Env} {f : Tup l → K} {w : World}, getAll l E f w → ∃ x, sub (encE l x) E ∧ f x w := by
 intro l
 induction l with
 |nil => intro E f w h; exact ⟨(), fun t v h => by simp [encE, Env.get] at h, h⟩
 |cons s l ih =>
  obtain ⟨t, s⟩ := s
  intro E f w h
  cases s <;> simp only [getAll] at h <;> cases hg : E.get t <;> simp only [hg] at h <;> (try exact h.elim)
  case any.some => obtain ⟨x, hs, h⟩ := ih h; exact ⟨(_, x), hs.cons hg, h⟩
  all_goals (rename_i v; cases v <;> (try simp only at h) <;> (try exact h.elim))
  case int.some.int =>
   obtain ⟨hk, h⟩ := Yb2 h
   have := of_decide_eq_true hk
   subst this
   obtain ⟨x, hs, h⟩ := ih h; exact ⟨(_, x), hs.cons hg, h⟩
  case addr.some.pointer =>
   obtain ⟨a, rfl, h'⟩ := Yj7 h
   obtain ⟨x, hs, h⟩ := ih h'; exact ⟨(_, x), hs.cons hg, h⟩
  all_goals (obtain ⟨x, hs, h⟩ := ih h; exact ⟨(_, x), hs.cons hg, h⟩)

/-- the slots that code writes -/
def wr : Code → List Nat
 |.region _ ops _ => dstsL ops.toList
 |.seq a b => wr a ++ wr b
 |.cond _ a b => wr a ++ wr b
 |.block _ c => wr c
 |.loop c => wr c
 |.scope c => wr c
 |_ => []
theorem Fr.left {V W : List Nat} {a a' : Act} (h : Fr V a a') : Fr (V ++ W) a a' := fun t ht => h t (by simp at ht ⊢; exact ht.1)
theorem Fr.right {V W : List Nat} {a a' : Act} (h : Fr W a a') : Fr (V ++ W) a a' := fun t ht => h t (by simp at ht ⊢; exact ht.2)
theorem Fr.trans {W : List Nat} {a b c : Act} (h : Fr W a b) (h' : Fr W b c) : Fr W a c := fun t ht => (h' t ht).trans (h t ht)
/-- the term serves for the code: what is to hold at each exit is told over a list of known slots -/
def RefK (P : Program) (n : Nat) (c : Code) (E : Env) (t : K) (Q : Exit → Env → K) : Prop :=
 ∀ (ro : Option Nat) (fm : Nat) (D : List Deferred) (Q' : Exit → Act → World → Prop) (a : Act) (w : World), Agree D n E a → t w → (∀ e E' a' w', Agree D n E' a' → Fr (wr c) a a' → Q e E' w' → Q' e a' w') → c.wpIn (wd ro) fm P Q' a w
theorem Agree.sub {n : Nat} {E E' : Env} {a : Act} (h : Agree D n E a) (hs : sub E' E) : Agree D n E' a := ⟨h.1, h.2.1, fun t v hg => h.2.2 t v (hs t v hg)⟩
/-- what is carried over -/
def pick (E : Env) : List Nat → Env
 |[] => []
 |t :: l => match E.get t with | some v => (t, v) :: pick E l | none => pick E l
theorem Vd0 {E : Env} : ∀ {l : List Nat} {t : Nat} {v : Value}, (pick E l).get t = some v → E.get t = some v ∧ t ∈ l := by
 intro l
 induction l with
 |nil => intro t v h; simp [pick, Env.get] at h
 |cons u l ih =>
  intro t v h
  simp only [pick] at h
  cases hu : E.get u with
  |none => rw [hu] at h; exact ⟨(ih h).1, List.mem_cons_of_mem _ (ih h).2⟩
  |some x =>
   rw [hu] at h
   simp only [Env.get] at h
   cases hb : Nat.beq u t with
   |true => rw [hb] at h; obtain rfl := beqS hb; simp only [Option.some.injEq] at h; subst h; exact ⟨hu, List.mem_cons_self⟩
   |false => rw [hb] at h; exact ⟨(ih h).1, List.mem_cons_of_mem _ (ih h).2⟩
theorem Va1 {E F : Env} {t : Nat} {v : Value} (h : (E ++ F).get t = some v) : E.get t = some v ∨ F.get t = some v := by
 induction E with
 |nil => exact .inr h
 |cons x E ih =>
  obtain ⟨u, y⟩ := x
  simp only [List.cons_append, Env.get] at h ⊢
  cases hb : Nat.beq u t with
  |true => rw [hb] at h; exact .inl h
  |false => rw [hb] at h; exact ih h
def clean (W cl : List Nat) : Bool := cl.all fun t => !W.contains t
theorem carry {n : Nat} {E Ex : Env} {W cl : List Nat} {a a' : Act} (ha : Agree D n E a) (hx : Agree D n Ex a') (hf : Fr W a a') (hc : clean W cl = true) : Agree D n (Ex ++ pick E cl) a' := by
 refine ⟨hx.1, hx.2.1, fun t v hg => ?_⟩
 rcases Va1 hg with h | h
 ·exact hx.2.2 t v h
 ·obtain ⟨h1, h2⟩ := Vd0 h
  simp only [clean, List.all_eq_true, Bool.not_eq_true'] at hc
  rw [hf t (hc t h2)]
  exact ha.2.2 t v h1

def thenQ (k : Env → K) (Q : Exit → Env → K) : Exit → Env → K
 |.normal, E => k E
 |e, E => Q e E
def blockQ (id : Nat) (k : Env → K) (Q : Exit → Env → K) : Exit → Env → K
 |.normal, E => k E
 |.exit j, E => (match Nat.beq j id with | true => k E | false => Q (.exit j) E)
 |e, E => Q e E

/-- rounds: what holds at the head of each is told by the user -/
def lp {σ : Type} (body : σ → (σ → K) → K) (s0 : σ) : K := fun w =>
 ∃ (I : Nat → σ → World → Prop) (n : Nat), I n s0 w ∧ ∀ n s w, I n s w → body s (fun s' w' => ∃ m, m < n ∧ I m s' w') w

section
variable {P : Program} {n : Nat}
theorem RefK.dead {c : Code} {E : Env} {t : K} {Q : Exit → Env → K} (h : t = kF) : RefK P n c E t Q :=
 fun _ _ _ _ _ _ _ ht _ => (show kF _ from h ▸ ht).elim
theorem RefK.skip {E : Env} {t : K} {Q : Exit → Env → K} (h : t = Q .normal E) : RefK P n .skip E t Q :=
 fun _ _ _ _ _ _ ha ht hq => wpIn_skip (hq _ _ _ _ ha (Fr.refl _ _) (h ▸ ht))
theorem RefK.exit {id : Nat} {E : Env} {t : K} {Q : Exit → Env → K} (h : t = Q (.exit id) E) : RefK P n (.exit id) E t Q :=
 fun _ _ _ _ _ _ ha ht hq => wpIn_exit (hq _ _ _ _ ha (Fr.refl _ _) (h ▸ ht))
theorem RefK.ret {E : Env} {t : K} {Q : Exit → Env → K} (h : t = Q .ret E) : RefK P n .ret E t Q :=
 fun _ _ _ _ _ _ ha ht hq => wpIn_ret (hq _ _ _ _ ha (Fr.refl _ _) (h ▸ ht))
theorem RefK.seq (l : List (Nat × Sg)) (cl : List Nat) (E2 : Tup l → Env) (t2 : Tup l → K) {c d : Code} {E : Env} {t : K} {Q : Exit → Env → K}
  (hc : clean (wr c) cl = true) (hE : ∀ x, E2 x = encE l x ++ pick E cl)
  (h1 : RefK P n c E t (thenQ (fun E' => getAll l E' t2) Q)) (h2 : ∀ x, RefK P n d (E2 x) (t2 x) Q) : RefK P n (.seq c d) E t Q := by
 intro ro fm D Q' a w ha ht hq
 refine wpIn_seq (h1 _ _ _ _ a w ha ht fun e E' a' w' ha' hf h => ?_)
 cases e <;> try exact hq _ _ _ _ ha' hf.left h
 obtain ⟨x, hs, h⟩ := Ygx h
 exact h2 x _ _ _ _ a' w' (hE x ▸ carry ha (ha'.sub hs) hf hc) h fun e E' a'' w'' ha'' hf' hx => hq _ _ _ _ ha'' (hf.left.trans hf'.right) hx
theorem RefK.block {id : Nat} {c : Code} {E : Env} {t : K} {Q : Exit → Env → K} (h1 : RefK P n c E t (blockQ id (Q .normal) Q)) : RefK P n (.block id c) E t Q := by
 intro ro fm D Q' a w ha ht hq
 refine wpIn_block (h1 _ _ _ _ a w ha ht fun e E' a' w' ha' hf h => ?_)
 cases e <;> try exact hq _ _ _ _ ha' hf h
 rename_i j
 simp only [blockQ] at h
 simp only [Exit.inBlock]
 cases hb : Nat.beq j id with
 |true => rw [hb] at h; rw [if_pos (beqS hb)]; exact hq _ _ _ _ ha' hf h
 |false => rw [hb] at h; rw [if_neg (fun e => by subst e; simp at hb)]; exact hq _ _ _ _ ha' hf h
theorem RefK.cond {x : Operand} {c d : Code} {E : Env} {b : Bool} {t t1 t2 : K} {Q : Exit → Env → K} (hx : E.has x = true) (hb : E.rho x = .bool b)
  (ht : ∀ w, t w → (b = true → t1 w) ∧ (b = false → t2 w)) (h1 : RefK P n c E t1 Q) (h2 : RefK P n d E t2 Q) : RefK P n (.cond x c d) E t Q := by
 intro ro fm D Q' a w ha h hq
 have he : a.eval x = .bool b := (ha.rho hx).trans hb
 obtain ⟨k1, k2⟩ := ht w h
 exact wpIn_cond_split he (fun hb => h1 _ _ _ _ a w ha (k1 hb) fun e E' a' w' ha' hf hx => hq _ _ _ _ ha' hf.left hx)
  (fun hb => h2 _ _ _ _ a w ha (k2 hb) fun e E' a' w' ha' hf hx => hq _ _ _ _ ha' hf.right hx)
theorem RefK.plain (sp : List Nat) {id : Nat} {ops : Array Oper} {E : Env} {t : K} {Q : Exit → Env → K}
  (h : t = rgnE P n ops (fun _ _ => true) false sp (List.range ops.size) [] E (Q .normal)) : RefK P n (.region id ops false) E t Q :=
 fun _ _ _ _ _ _ ha ht hq => Yst ha (fun _ _ _ ha' hf hk => hq _ _ _ _ ha' hf hk) (h ▸ ht)
def bB (l : List Nat) (i j : Nat) : Bool := (l.getD i 0).testBit j
theorem RefK.draw (sp bits can gc : List Nat) {id : Nat} {ops : Array Oper} {E : Env} {t : K} {Q : Exit → Env → K} (hok : regionOk ops (bB bits) can gc = true)
  (h : t = tick fun _ => rgnE P n ops (bB bits) true sp can [] E (Q .normal)) : RefK P n (.region id ops true) E t Q :=
 fun _ _ _ _ _ _ ha ht hq => Yuu ha (fun _ _ _ ha' hf hk => hq _ _ _ _ ha' hf hk) hok (by subst h; exact ht)

theorem wp_lp {ro : Option Nat} {fm : Nat} {c : Code} {Q : Exit → Act → World → Prop} (J : Nat → Act → World → Prop)
  (round : ∀ m a w, J m a w → c.wpIn (wd ro) fm P (Exit.then (fun a' w' => ∃ m', m' < m ∧ J m' a' w') Q) a w) : ∀ (m : Nat) (a : Act) (w : World), J m a w → (Code.loop c).wpIn (wd ro) fm P Q a w := by
 intro m a w hJ b k cs hro hb hr
 have key : ∀ m a w, J m a w → ∃ e a' w', Q e a' w' ∧ ArrivesIn (Machine.fenced P (wd ro)) P (lone (b.atR a (.code c :: .inLoop c :: k)) cs w) b k cs e a' w' := by
  intro m
  induction m using Nat.strongRecOn with
  |_ m ih =>
   intro a w hJ
   obtain ⟨e, a1, w1, hq, harr⟩ := round m a w hJ b (.inLoop c :: k) cs hro hb hr
   cases e with
   |normal =>
    obtain ⟨m', hlt, hJ'⟩ := hq
    obtain ⟨e2, a2, w2, hq2, harr2⟩ := ih m' hlt a1 w1 hJ'
    exact ⟨e2, a2, w2, hq2, .of_steps (StepsIn.trans harr (.one (fenced_calm hb hr rfl) stepR_inLoop)) harr2⟩
   |_ => exact ⟨_, a1, w1, hq, .pass (x := .inLoop c) rfl (fun _ _ => .inl (by simp)) harr⟩
 obtain ⟨e, a', w', hq, harr⟩ := key m a w hJ
 exact ⟨e, a', w', hq, .of_steps (.one (fenced_calm hb hr rfl) stepR_loop) harr⟩

theorem RefK.loop (l : List (Nat × Sg)) (cl : List Nat) (E2 : Tup l → Env) (body : Tup l → (Tup l → K) → K) (s0 : Tup l) {c : Code} {E : Env} {t : K} {Q : Exit → Env → K}
  (hc : clean (wr c) cl = true) (hE : ∀ x, E2 x = encE l x ++ pick E cl) (ht : t = lp body s0) (hs : getAll l E (fun x _ => x = s0) default = (s0 = s0))
  (h : ∀ (s : Tup l) (k : Tup l → K), RefK P n c (E2 s) (body s k) (thenQ (fun E' => getAll l E' k) Q)) : RefK P n (.loop c) E t Q := by
 intro ro fm D Q' a w ha hw hq
 subst ht
 obtain ⟨I, m, h0, hr⟩ := hw
 obtain ⟨_, hs', rfl⟩ := Ygx (hs ▸ rfl : getAll l E (fun x _ => x = s0) default)
 refine wp_lp (fun m b w => Fr (wr c) a b ∧ ∃ s, Agree D n (encE l s) b ∧ I m s w) ?_ m a w ⟨Fr.refl _ _, _, ha.sub hs', h0⟩
 rintro m b w ⟨hf, s, has, hI⟩
 refine h s _ _ _ _ _ b w (hE s ▸ carry ha has hf hc) (hr m s w hI) fun e E' a' w' ha' hf' hx => ?_
 cases e <;> try exact hq _ _ _ _ ha' (hf.trans hf') hx
 obtain ⟨s', hs', m', hlt, hI'⟩ := Ygx hx
 exact ⟨m', hlt, hf.trans hf', s', ha'.sub hs', hI'⟩

/-! results -/
def resK (P : Program) : List ResultVar → Env → List Value → (List Value → K) → K
 |[], _, acc, k => k acc
 |.tmp t :: l, E, acc, k => onSome (E.get t) fun v => resK P l E (acc ++ [v]) k
 |.cell a ty :: l, E, acc, k => (match E.get a with
  |some (.pointer p) => nn p fun ad => gd (okT P ty && sizesFit P ty) (loadK P ty ad fun _ v => resK P l E (acc ++ [v]) k)
  |_ => kF)
def packR : List Value → Value
 |[v] => v
 |vs => .tuple vs.toArray
/-- behind the body: the results are read -/
def finQ (P : Program) (rs : List ResultVar) (k : Value → K) : Exit → Env → K
 |.normal, E => resK P rs E [] fun vs => k (packR vs)
 |.ret, E => resK P rs E [] fun vs => k (packR vs)
 |_, _ => kF
def resF (tmps : Array Value) : ResultVar → Sem Value
 |.tmp t => pure (tmps.getD t undef)
 |.cell a t => do loadVar t (← asAddr (tmps.getD a undef))
theorem Va2 (fn : Func) (tmps : Array Value) : results fn tmps = (do
  let vs ← fn.results.mapM (resF tmps)
  pure (if h : vs.size = 1 then vs[0] else .tuple vs)) := rfl
theorem Vd1 {E : Env} {a : Act} (ha : Agree D n E a) : ∀ {l : List ResultVar} {acc : List Value} {k : List Value → K} {w : World}, resK P l E acc k w →
  ∃ vs, (l.mapM (resF a.tmps)).run P w = .ok vs w ∧ k (acc ++ vs) w := by
 intro l
 induction l with
 |nil => intro acc k w h; exact ⟨[], rfl, by simpa [resK] using h⟩
 |cons r l ih =>
  intro acc k w h
  cases r with
  |tmp t =>
   obtain ⟨v, hv, h⟩ := optK h
   obtain ⟨vs, hr, hk⟩ := ih h
   refine ⟨v :: vs, ?_, by simpa using hk⟩
   rw [List.mapM_cons]
   simp only [resF, Sem.run_bind, Sem.run_pure, Result.andThen_ok, hr, ha.get hv]
  |cell x ty =>
   simp only [resK] at h
   cases hx : E.get x with
   |none => simp only [hx] at h; exact h.elim
   |some v =>
   simp only [hx] at h
   cases v <;> simp only at h <;> (try exact h.elim)
   obtain ⟨ad, rfl, h'⟩ := Yj7 h
   obtain ⟨hg, h'⟩ := Yb2 h'
   simp only [Bool.and_eq_true] at hg
   obtain ⟨v, fs, hk, hf, hl⟩ := Ywo hg.1 hg.2 h'
   obtain ⟨vs, hr, hk⟩ := ih hk
   refine ⟨v :: vs, ?_, by simpa using hk⟩
   rw [List.mapM_cons]
   simp only [resF, Sem.run_bind, ha.get hx, asAddr, Sem.run_pure, Result.andThen_ok, hl w hf, hr]

theorem Yyn {fn : Func} {E : Env} {a : Act} {w : World} {k : Value → K} (ha : Agree D n E a) (h : resK P fn.results.toList E [] (fun vs => k (packR vs)) w) :
  ∃ v, (results fn a.tmps).run P w = .ok v w ∧ k v w := by
 obtain ⟨vs, hr, hk⟩ := Vd1 ha h
 refine ⟨packR vs, ?_, by simpa using hk⟩
 rw [Va2, Array.mapM_eq_mapM_toList]
 simp only [Sem.run_bind, Sem.run_map, hr, Result.andThen_ok, Sem.run_pure]
 congr 1
 match vs with
 |[] => rfl
 |[v] => rfl
 |v :: u :: vs => simp [packR]

/-- the arguments, as slots -/
def argE : Nat → List Value → Env
 |_, [] => []
 |i, v :: l => (i, v) :: argE (i + 1) l
theorem Yz4 : ∀ {l : List Value} {i t : Nat} {v : Value}, (argE i l).get t = some v → i ≤ t ∧ l[t - i]? = some v := by
 intro l
 induction l with
 |nil => intro i t v h; simp [argE, Env.get] at h
 |cons x l ih =>
  intro i t v h
  simp only [argE, Env.get] at h
  cases hb : Nat.beq i t with
  |true => rw [hb] at h; obtain rfl := beqS hb; simpa using h
  |false =>
   rw [hb] at h
   have hne : i ≠ t := fun e => by subst e; simp at hb
   obtain ⟨h1, h2⟩ := ih h
   refine ⟨by omega, ?_⟩
   have : t - i = (t - (i + 1)) + 1 := by omega
   rw [this]; simpa using h2

theorem Vd2 {f : FuncId} {fn : Func} {c : Code} {args : Array Value} {t : K} {k : Value → K} {w : World} (hf : P.funcs[f]? = some fn) (hb : fn.body = some c)
  (hn : args.size ≤ fn.ntmps) (h : RefK P fn.ntmps c (argE 0 args.toList) t (finQ P fn.results.toList k)) (ht : t w) :
  Calls P f args w fun e w' => ∃ v, e = .returned v ∧ k v w' := by
 refine calls_of_wp hf hb (wpIn_wide.1 (h none 0 [] _ _ w ⟨rfl, by simp; omega, fun t v hg => ?_⟩ ht fun e E' a' w' ha _ hx => ?_))
 ·obtain ⟨h1, h2⟩ := Yz4 hg
  simp only [Nat.sub_zero, Array.getElem?_toList] at h2
  have hlt : t < args.size := (Array.getElem?_eq_some_iff.1 h2).1
  have h3 := (Array.getElem?_eq_some_iff.1 h2).2
  simp [Array.getElem?_append, hlt, h3]
 ·cases e <;> try exact hx.elim
  ·obtain ⟨v, hr, hk⟩ := Yyn (fn := fn) ha hx
   exact ⟨ha.1, v, hr, v, rfl, hk⟩
  ·obtain ⟨v, hr, hk⟩ := Yyn (fn := fn) ha hx
   exact ⟨ha.1, v, hr, v, rfl, hk⟩

/-- a call with a typed result -/
def cl (P : Program) (f : FuncId) (args : Array Value) (r : RSh) (k : r.T → K) : K := fun w =>
 Calls P f args w fun e w' => ∃ x : r.T, e = .returned (r.enc x) ∧ k x w'
theorem Yae {f : FuncId} {fn : Func} {c : Code} {args : Array Value} {r : RSh} {t : K} {k : r.T → K} {w : World} (hf : P.funcs[f]? = some fn) (hb : fn.body = some c)
  (hn : Nat.ble args.size fn.ntmps = true) (h : RefK P fn.ntmps c (argE 0 args.toList) t (finQ P fn.results.toList (fun v => decR r v k))) (ht : t w) : cl P f args r k w :=
 (Vd2 hf hb (Nat.le_of_ble_eq_true hn) h ht).mono fun _ _ ⟨_, he, hd⟩ => let ⟨x, hx, hk⟩ := Ywi hd; ⟨x, hx ▸ he, hk⟩
end
def ldI (kd : IntKind) (a : Addr) : M Int := fun k w => ∃ n : Int, w.cell? a = some (.int kd n) ∧ k n w
def ldB (a : Addr) : M Bool := fun k w => ∃ b : Bool, w.cell? a = some (.bool b) ∧ k b w
def ldP (a : Addr) : M (Option Addr) := fun k w => ∃ p : Option Addr, w.cell? a = some (.pointer p) ∧ k p w
def ldS (a : Addr) : M Sl := fun k w => ∃ s : Sl, w.cell? a = some s.v ∧ k s w
def ldM (a : Addr) : M (Option Nat) := fun k w => ∃ m : Option Nat, w.cell? a = some (.map m) ∧ k m w
def ldF (a : Addr) : M Fv := fun k w => ∃ s : Fv, w.cell? a = some s.v ∧ k s w
def brK (b : Bool) (t1 t2 : K) : K := match b with | true => t1 | false => t2
theorem Vd3 {b : Bool} {t1 t2 : K} (w : World) (h : brK b t1 t2 w) : (b = true → t1 w) ∧ (b = false → t2 w) := by
 cases b
 ·exact ⟨fun e => (by cases e), fun _ => h⟩
 ·exact ⟨fun _ => h, fun e => (by cases e)⟩
def mkS (P : Program) (e : TypeId) (l c : Int) : M Nat := fun k w =>
 (0 ≤ l ∧ l ≤ c ∧ bytesP P e * c ≤ 2 ^ 48) ∧ alK (.cells (repZ (zerosP P e) c.toNat).toArray e) k w
/-- operations of the model with a result of a known form -/
def semT (P : Program) (s : Sem Value) (r : RSh) : M r.T := fun k w =>
 match s.run P w with
 |.ok v w' => ∃ x : r.T, v = r.enc x ∧ k x w'
 |_ => False
def nextM (P : Program) (s : Sem Value) (k : Bool → List Value → K) : K := fun w =>
 match s.run P w with
 |.ok v w' => ∃ (b : Bool) (l : List Value), v = .tuple (.bool b :: l).toArray ∧ k b l w'
 |_ => False
def ixI (kd : IntKind) (cs : Array Value) (n : Nat) (j : Int) : M Int := fun k w => (0 ≤ j ∧ j < n) ∧ ∃ x : Int, cs[j.toNat]? = some (.int kd x) ∧ k x w
def lkE (P : Program) (kt : TypeId) (z : Value) (e : ESh) (m : Option Nat) (key : Value) (k : Nat → Obj → e.T → Bool → K) : K := fun w =>
 ∃ r es c f, m = some r ∧ w.heap[r]? = some (.map es c) ∧ mfind P kt key es.toList 0 = some f ∧ ∃ x : e.T, lookV f z = e.enc x ∧ k r (.map es c) x f.isSome w
def dyn (P : Program) (f : Value) (args : Array Value) (r : RSh) : M r.T := fun k w =>
 (∃ g cap, f = .func (.func g) #[] cap ∧ callable P g = true ∧ cl P g (args ++ cap) r k w) ∨
 (∃ l, f = .func (.yield l) #[] #[] ∧ YieldAt Fence.wide 0 P l args w fun e w' => ∃ x : r.T, e = .returned (r.enc x) ∧ k x w')
section
variable {P : Program} {n : Nat}
theorem Qs (l : List (Nat × Sg)) (cl : List Nat) (t2 : Tup l → K) {c d : Code} {E : Env} {t : K} {Q : Exit → Env → K}
  (h1 : RefK P n c E t (thenQ (fun E' => getAll l E' t2) Q)) (h2 : ∀ x, RefK P n d (encE l x ++ pick E cl) (t2 x) Q) (hc : clean (wr c) cl = true := by kernel_rfl) : RefK P n (.seq c d) E t Q :=
 RefK.seq l cl (fun x => encE l x ++ pick E cl) t2 hc (fun _ => rfl) h1 h2
theorem Ql (l : List (Nat × Sg)) (cl : List Nat) (body : Tup l → (Tup l → K) → K) (s0 : Tup l) {c : Code} {E : Env} {t : K} {Q : Exit → Env → K}
  (h : ∀ (s : Tup l) (k : Tup l → K), RefK P n c (encE l s ++ pick E cl) (body s k) (thenQ (fun E' => getAll l E' k) Q))
  (hc : clean (wr c) cl = true := by kernel_rfl) (ht : t = lp body s0 := by kernel_rfl) (hs : getAll l E (fun x _ => x = s0) default = (s0 = s0) := by kernel_rfl) : RefK P n (.loop c) E t Q :=
 RefK.loop l cl (fun x => encE l x ++ pick E cl) body s0 hc (fun _ => rfl) ht hs h
theorem Qc (b : Bool) (t1 t2 : K) {x : Operand} {c d : Code} {E : Env} {Q : Exit → Env → K} (h1 : RefK P n c E t1 Q) (h2 : RefK P n d E t2 Q)
  (hx : E.has x = true := by kernel_rfl) (hb : E.rho x = .bool b := by kernel_rfl) : RefK P n (.cond x c d) E (brK b t1 t2) Q :=
 RefK.cond (b := b) (t1 := t1) (t2 := t2) hx hb (fun w h => Vd3 w h) h1 h2
theorem Qp (sp : List Nat) {id : Nat} {ops : Array Oper} {E : Env} {t : K} {Q : Exit → Env → K}
  (h : t = rgnE P n ops (fun _ _ => true) false sp (List.range ops.size) [] E (Q .normal) := by kernel_rfl) : RefK P n (.region id ops false) E t Q := RefK.plain sp h
theorem Qz {id : Nat} {ops : Array Oper} {E : Env} {t : K} {Q : Exit → Env → K}
  (h : t = rgnE P n ops (fun _ _ => true) false [] (List.range ops.size) [] E (Q .normal) := by kernel_rfl) : RefK P n (.region id ops false) E t Q := RefK.plain [] h
theorem Qk {E : Env} {t : K} {Q : Exit → Env → K} (h : t = Q .normal E := by kernel_rfl) : RefK P n .skip E t Q := RefK.skip h
theorem Qx {id : Nat} {E : Env} {t : K} {Q : Exit → Env → K} (h : t = Q (.exit id) E := by kernel_rfl) : RefK P n (.exit id) E t Q := RefK.exit h
theorem Qr {E : Env} {t : K} {Q : Exit → Env → K} (h : t = Q .ret E := by kernel_rfl) : RefK P n .ret E t Q := RefK.ret h
theorem Qb {id : Nat} {c : Code} {E : Env} {t : K} {Q : Exit → Env → K} (h1 : RefK P n c E t (blockQ id (Q .normal) Q)) : RefK P n (.block id c) E t Q := RefK.block h1
abbrev OA := Option Addr
end
section
open Go Go.RowKit

abbrev Hp := Nat → Option Obj
def SL := Hp → Prop
def Disj (g h : Hp) : Prop := ∀ b, g b = none ∨ h b = none
def uni (g h : Hp) : Hp := fun b => match g b with | some o => some o | none => h b
def sep (P Q : SL) : SL := fun h => ∃ g r, P g ∧ Q r ∧ Disj g r ∧ h = uni g r
def emp : SL := fun h => h = fun _ => none
def pt (b : Nat) (o : Obj) : SL := fun h => h = fun x => if x = b then some o else none
def pu (φ : Prop) : SL := fun h => φ ∧ h = fun _ => none
instance : Mul SL := ⟨sep⟩
theorem Vd4 {g h : Hp} (d : Disj g h) : uni g h = uni h g := by
 funext b
 unfold uni
 rcases d b with e | e <;> rw [e] <;> (cases g b <;> cases h b <;> simp_all)
theorem Disj.symm {g h : Hp} (d : Disj g h) : Disj h g := fun b => (d b).symm
theorem Yc8 (P Q : SL) : P * Q = Q * P := by
 have key : ∀ P Q : SL, ∀ h, (P * Q) h → (Q * P) h := by
  rintro P Q h ⟨g, r, hp, hq, d, rfl⟩
  exact ⟨r, g, hq, hp, d.symm, Vd4 d⟩
 funext h; exact propext ⟨key P Q h, key Q P h⟩
theorem Vca (f g h : Hp) : uni (uni f g) h = uni f (uni g h) := by
 funext b; unfold uni; cases f b <;> rfl
theorem Yad (P Q R : SL) : P * Q * R = P * (Q * R) := by
 have k1 : ∀ P Q R : SL, ∀ h, (P * Q * R) h → (P * (Q * R)) h := by
  rintro P Q R h ⟨_, r, ⟨p, q, hp, hq, d1, rfl⟩, hr, d2, rfl⟩
  have dq : Disj q r := fun b => by
   rcases d2 b with e | e
   ·unfold uni at e; cases hpb : p b <;> rw [hpb] at e <;> simp_all
   ·exact .inr e
  refine ⟨p, uni q r, hp, ⟨q, r, hq, hr, dq, rfl⟩, fun b => ?_, Vca p q r⟩
  cases hpb : p b with
  |none => exact .inl rfl
  |some o =>
   refine .inr ?_
   have e1 : q b = none := (d1 b).resolve_left (by simp [hpb])
   have e2 : r b = none := (d2 b).resolve_left (by simp [uni, hpb])
   simp [uni, e1, e2]
 have k2 : ∀ P Q R : SL, ∀ h, (P * (Q * R)) h → (P * Q * R) h := by
  intro P Q R h hh
  rw [Yc8 P, Yc8 Q] at hh
  have := k1 _ _ _ _ hh
  rw [Yc8, Yc8 Q P] at this
  exact this
 funext h; exact propext ⟨k1 P Q R h, k2 P Q R h⟩
instance : Std.Associative (α := SL) (· * ·) := ⟨Yad⟩
instance : Std.Commutative (α := SL) (· * ·) := ⟨Yc8⟩
theorem Yq0 (g : Hp) : uni g (fun _ => none) = g := by funext b; unfold uni; cases g b <;> rfl
theorem Yuv (P : SL) : P * emp = P := by
 funext h
 refine propext ⟨?_, fun hp => ⟨h, _, hp, rfl, fun _ => .inr rfl, (Yq0 h).symm⟩⟩
 rintro ⟨g, r, hp, rfl, _, rfl⟩
 rw [Yq0]; exact hp
theorem Vf1 (P : SL) : emp * P = P := by rw [Yc8, Yuv]
theorem Vd5 {P Q : SL} {h : Hp} (x : (P * Q) h) : ∃ g, P g ∧ ∀ b o, g b = some o → h b = some o := by
 obtain ⟨g, r, hp, _, _, rfl⟩ := x
 exact ⟨g, hp, fun b o e => by simp [uni, e]⟩

/-- what holds of a world: the assertion, of blocks that are not among B's, and B's are as they were -/
def Sat (B : World) (P : SL) (w : World) : Prop :=
 (∃ h, P h ∧ ∀ b o, h b = some o → B.heap.size ≤ b ∧ w.heap[b]? = some o) ∧ Below B.heap.size B w
def T (B : World) (P : SL) (t : K) : Prop := ∀ w, Sat B P w → t w

section
variable {B : World} {P Q R : SL} {t : K}
theorem Sat.imp {w : World} (h : ∀ h, P h → ∃ g, Q g ∧ ∀ b o, g b = some o → h b = some o) (s : Sat B P w) : Sat B Q w := by
 obtain ⟨⟨x, hx, hb⟩, k⟩ := s
 obtain ⟨g, hg, he⟩ := h x hx
 exact ⟨⟨g, hg, fun b o e => hb b o (he b o e)⟩, k⟩
theorem Sat.left {w : World} (s : Sat B (P * Q) w) : Sat B P w := s.imp fun _ h => Vd5 h
theorem Sat.right {w : World} (s : Sat B (P * Q) w) : Sat B Q w := by rw [Yc8] at s; exact s.left
theorem T.weak (h : T B P t) : T B (P * Q) t := fun w s => h w s.left
theorem T.perm (e : P = Q) (h : T B Q t) : T B P t := e ▸ h
theorem T.drop (e : P = Q * R) (h : T B Q t) : T B P t := by subst e; exact h.weak
theorem Yz5 {φ : Prop} (h : φ → T B P t) : T B (P * pu φ) t := by
 rintro w ⟨⟨x, ⟨g, r, hp, ⟨hφ, rfl⟩, _, rfl⟩, hb⟩, k⟩
 rw [Yq0] at hb
 exact h hφ w ⟨⟨g, hp, hb⟩, k⟩
theorem Yaq {t' : K} (h : ∀ w, t w → t' w) (ht : T B P t) : T B P t' := fun w s => h w (ht w s)

/-- the assertion tells a block -/
def Has (P : SL) (b : Nat) (o : Obj) : Prop := ∀ h, P h → h b = some o
theorem Has.one {b : Nat} {o : Obj} : Has (pt b o) b o := fun h e => by rw [show h = _ from e]; simp
theorem Has.last {b : Nat} {o : Obj} : Has (P * pt b o) b o := by
 rintro _ ⟨g, r, _, hr, d, rfl⟩
 have h1 : r b = some o := Has.one r hr
 have : g b = none := (d b).resolve_right (by simp [h1])
 simp [uni, this, h1]
theorem Has.init {b : Nat} {o : Obj} (h : Has P b o) : Has (P * Q) b o := by
 rintro _ ⟨g, r, hg, _, _, rfl⟩
 simp [uni, h g hg]
theorem Has.tail {b : Nat} {o : Obj} (h : Has Q b o) : Has (P * Q) b o := by rw [Yc8]; exact h.init
/-- the assertion with a block turned -/
def Upd (P : SL) (b : Nat) (o o' : Obj) (P' : SL) : Prop := ∀ h, P h → h b = some o ∧ P' fun x => if x = b then some o' else h x
theorem Upd.one {b : Nat} {o o' : Obj} : Upd (pt b o) b o o' (pt b o') := fun h e => by
 subst e; refine ⟨by simp, ?_⟩
 show (fun _ => _) = _
 funext x; by_cases hx : x = b <;> simp [hx]
theorem Upd.tail {b : Nat} {o o' : Obj} {Q' : SL} (h : Upd Q b o o' Q') : Upd (P * Q) b o o' (P * Q') := by
 rintro _ ⟨g, r, hg, hr, d, rfl⟩
 obtain ⟨h1, h2⟩ := h r hr
 have hn : g b = none := (d b).resolve_right (by simp [h1])
 refine ⟨by simp [uni, hn, h1], g, _, hg, h2, fun x => ?_, ?_⟩
 ·by_cases hx : x = b
  ·subst hx; exact .inl hn
  ·rcases d x with e | e
   ·exact .inl e
   ·right; simp [hx, e]
 ·funext x
  by_cases hx : x = b
  ·subst hx; simp [uni, hn]
  ·simp [uni, hx]
theorem Upd.init {b : Nat} {o o' : Obj} {P' : SL} (h : Upd P b o o' P') : Upd (P * Q) b o o' (P' * Q) := by
 rw [Yc8 P, Yc8 P']; exact h.tail
theorem Upd.last {b : Nat} {o o' : Obj} : Upd (P * pt b o) b o o' (P * pt b o') := Upd.one.tail
/-- one thing out of an assertion -/
def Frm (P X R : SL) : Prop := P = R * X
theorem Frm.one : Frm P P emp := (Vf1 P).symm
theorem Frm.last : Frm (R * P) P R := rfl
theorem Frm.init {X : SL} (h : Frm P X R) : Frm (P * Q) X (R * Q) := by
 unfold Frm at *; subst h; rw [Yad, Yc8 X, ← Yad]
theorem Yaa {X : SL} (h : Frm P X R) (ht : T B (R * X) t) : T B P t := by unfold Frm at h; subst h; exact ht

theorem Sat.has {w : World} {b : Nat} {o : Obj} (s : Sat B P w) (h : Has P b o) : w.heap[b]? = some o ∧ B.heap.size ≤ b := by
 obtain ⟨⟨x, hx, hb⟩, _⟩ := s
 exact ⟨(hb b o (h x hx)).2, (hb b o (h x hx)).1⟩
theorem Sat.cell {w : World} {b i : Nat} {l : List Value} {ty : TypeId} {fz : Nat × Nat} {v : Value} (s : Sat B P w) (h : Has P b (.cells l.toArray ty fz)) (hi : l[i]? = some v) : w.cell? ⟨b, i, none⟩ = some v := by
 unfold World.cell?
 simp [(s.has h).1, hi]
theorem Sat.upd {w w' : World} {b : Nat} {o o' : Obj} {P' : SL} (s : Sat B P w) (h : Upd P b o o' P') (hb : w'.heap[b]? = some o') (hr : ∀ x, x ≠ b → w'.heap[x]? = w.heap[x]?)
  (hos : w'.os = w.os) (htp : w'.tape = w.tape) (hou : w'.output = w.output) (hsz : w.heap.size ≤ w'.heap.size) : Sat B P' w' := by
 obtain ⟨⟨x, hx, hbl⟩, k⟩ := s
 obtain ⟨h1, h2⟩ := h x hx
 have hge := (hbl b o h1).1
 refine ⟨⟨_, h2, fun y q e => ?_⟩, ⟨hos.trans k.os, htp.trans k.tape, hou.trans k.output, Nat.le_trans k.size hsz, fun y hy => ?_⟩⟩
 ·by_cases hy : y = b
  ·subst hy; simp only [if_true, Option.some.injEq] at e; subst e; exact ⟨hge, hb⟩
  ·simp only [hy, if_false] at e
   rw [hr y hy]; exact hbl y q e
 ·rw [hr y (by omega)]; exact k.block y hy
theorem Sat.alloc {w : World} {o : Obj} (s : Sat B P w) : Sat B (P * pt w.heap.size o) { w with heap := w.heap.push o } := by
 obtain ⟨⟨x, hx, hb⟩, k⟩ := s
 have hnew : x w.heap.size = none := by
  cases e : x w.heap.size with
  |none => rfl
  |some q => have := (hb _ _ e).2; simp at this
 refine ⟨⟨_, ⟨x, _, hx, rfl, fun y => ?_, rfl⟩, fun y q e => ?_⟩, ⟨k.os, k.tape, k.output, by simpa using Nat.le_trans k.size (Nat.le_succ _), fun y hy => ?_⟩⟩
 ·by_cases hy : y = w.heap.size
  ·subst hy; exact .inl hnew
  ·right; simp [hy]
 ·simp only [uni] at e
  cases hx' : x y with
  |some q' =>
   rw [hx'] at e
   simp only [Option.some.injEq] at e; subst e
   have h2 := hb y q' hx'
   have hlt : y < w.heap.size := (Array.getElem?_eq_some_iff.1 h2.2).1
   refine ⟨h2.1, ?_⟩
   simp only [Array.getElem?_push, Nat.ne_of_lt hlt, if_false]; exact h2.2
  |none =>
   rw [hx'] at e
   simp only at e
   split at e
   ·rename_i hy
    simp only [Option.some.injEq] at e; subst e
    exact ⟨hy ▸ k.size, by simp [hy]⟩
   ·cases e
 ·have : y ≠ w.heap.size := by have := k.size; omega
  simp only [Array.getElem?_push, this, if_false]
  exact k.block y hy

/-! steps -/
theorem Yam {a : Addr} {k : Addr → K} (h : T B P (k a)) : T B P (nn (some a) k) := h
theorem Yak {k : Unit → K} (h : T B P (k ())) : T B P (tick k) := fun w ⟨s, b⟩ => h _ ⟨s, ⟨b.os, b.tape, b.output, b.size, b.block⟩⟩
theorem Vb2 {b : Bool} {t1 t2 : K} (h1 : b = true → T B P t1) (h2 : b = false → T B P t2) : T B P (brK b t1 t2) := by
 cases b
 ·exact h2 rfl
 ·exact h1 rfl
theorem Yal {t1 t2 : K} (h : T B P t1) : T B P (brK true t1 t2) := h
theorem Yau {t1 t2 : K} (h : T B P t2) : T B P (brK false t1 t2) := h
theorem Yai {p : Prop} [Decidable p] {t1 t2 : K} (h1 : p → T B P t1) (h2 : ¬ p → T B P t2) : T B P (brK (decide p) t1 t2) :=
 Vb2 (fun e => h1 (of_decide_eq_true e)) (fun e => h2 (of_decide_eq_false e))
theorem Ybr {a b : Int} {t1 t2 : K} (h1 : a = b → T B P t1) (h2 : a ≠ b → T B P t2) : T B P (brK (a == b) t1 t2) :=
 Vb2 (fun e => h1 (by simpa using e)) (fun e => h2 (by simpa using e))
theorem Yar {a b : Int} {t1 t2 : K} (h1 : a ≠ b → T B P t1) (h2 : a = b → T B P t2) : T B P (brK (a != b) t1 t2) :=
 Vb2 (fun e => h1 (by simpa using e)) (fun e => h2 (by simpa using e))
theorem Yfh {b : Bool} {t1 t2 : K} (h : T B P (brK b t2 t1)) : T B P (brK (!b) t1 t2) := by cases b <;> exact h
theorem Yaf {kd : IntKind} {a : Addr} {k : Int → K} {b i : Nat} {l : List Value} {ty : TypeId} {n : Int} (ha : a = ⟨b, i, none⟩) (h : Has P b (.cells l.toArray ty)) (hi : l[i]? = some (.int kd n))
  (ht : T B P (k n)) : T B P (ldI kd a k) := fun w s => ⟨n, ha ▸ s.cell h hi, ht w s⟩
theorem Ynv {a : Addr} {k : Bool → K} {b i : Nat} {l : List Value} {ty : TypeId} {n : Bool} (ha : a = ⟨b, i, none⟩) (h : Has P b (.cells l.toArray ty)) (hi : l[i]? = some (.bool n))
  (ht : T B P (k n)) : T B P (ldB a k) := fun w s => ⟨n, ha ▸ s.cell h hi, ht w s⟩
theorem Yaj {a : Addr} {k : Option Addr → K} {b i : Nat} {l : List Value} {ty : TypeId} {n : Option Addr} (ha : a = ⟨b, i, none⟩) (h : Has P b (.cells l.toArray ty)) (hi : l[i]? = some (.pointer n))
  (ht : T B P (k n)) : T B P (ldP a k) := fun w s => ⟨n, ha ▸ s.cell h hi, ht w s⟩
theorem Yaz {a : Addr} {k : Sl → K} {b i : Nat} {l : List Value} {ty : TypeId} {n : Sl} (ha : a = ⟨b, i, none⟩) (h : Has P b (.cells l.toArray ty)) (hi : l[i]? = some n.v)
  (ht : T B P (k n)) : T B P (ldS a k) := fun w s => ⟨n, ha ▸ s.cell h hi, ht w s⟩
theorem Yd8 {a : Addr} {k : Option Nat → K} {b i : Nat} {l : List Value} {ty : TypeId} {n : Option Nat} (ha : a = ⟨b, i, none⟩) (h : Has P b (.cells l.toArray ty)) (hi : l[i]? = some (.map n))
  (ht : T B P (k n)) : T B P (ldM a k) := fun w s => ⟨n, ha ▸ s.cell h hi, ht w s⟩
theorem Va3 {a : Addr} {k : Fv → K} {b i : Nat} {l : List Value} {ty : TypeId} {n : Fv} (ha : a = ⟨b, i, none⟩) (h : Has P b (.cells l.toArray ty)) (hi : l[i]? = some n.v)
  (ht : T B P (k n)) : T B P (ldF a k) := fun w s => ⟨n, ha ▸ s.cell h hi, ht w s⟩
theorem Yt0 {a : Addr} {n : Nat} {k : List Value → K} {b : Nat} {l : List Value} {ty : TypeId} (ha : a = ⟨b, 0, none⟩) (h : Has P b (.cells l.toArray ty)) (hn : l.length = n)
  (ht : T B P (k l)) : T B P (ldBlob a n k) := by
 subst ha hn
 intro w s
 refine ⟨l, rfl, fun i hi => ?_, ht w s⟩
 have e : (⟨b, 0, none⟩ : Addr).add i = ⟨b, i, none⟩ := by unfold Addr.add; split <;> simp_all
 rw [e, s.cell h (List.getElem?_eq_getElem hi), List.getElem?_eq_getElem hi]
theorem Ybc {a : Addr} {v : Value} {t : K} {b i : Nat} {l : List Value} {ty : TypeId} {P' : SL} (ha : a = ⟨b, i, none⟩) (h : Upd P b (.cells l.toArray ty) (.cells (l.set i v).toArray ty) P') (hi : i < l.length)
  (ht : T B P' t) : T B P (stK a v t) := by
 subst ha
 intro w s
 have hh : w.heap[b]? = some (.cells l.toArray ty) := by
  obtain ⟨⟨x, hx, hb⟩, _⟩ := s
  exact (hb b _ (h x hx).1).2
 have hlt : b < w.heap.size := (Array.getElem?_eq_some_iff.1 hh).1
 refine ⟨⟨l[i], by simp [World.cell?, hh, hi]⟩, by simp [World.frozen?, hh], ht _ ?_⟩
 refine s.upd h ?_ ?_ rfl rfl rfl (by simp [World.setCell])
 ·simp only [World.setCell, Array.getElem?_modify, if_true]
  rw [hh]; simp
 ·intro x hx
  simp only [World.setCell, Array.getElem?_modify]
  rw [if_neg (Ne.symm hx)]
theorem Ya7 {ob : Obj} {k : Nat → K} (ht : ∀ b, T B (P * pt b ob) (k b)) : T B P (alK ob k) := fun w s => ht _ _ s.alloc
theorem Ybe {k : Unit → K} (ht : T B P (k ())) : T B P (chk [] k) := ht
theorem Ycm {a : Addr} {v : Value} {fs : List Ft} {k : Unit → K} {b i : Nat} {l : List Value} {ty : TypeId} (ha : a = ⟨b, i, none⟩) (h : Has P b (.cells l.toArray ty)) (hi : l[i]? = some v)
  (ht : T B P (chk fs k)) : T B P (chk (.cell a v :: fs) k) := fun w s => ⟨ha ▸ s.cell h hi, ht w s⟩
theorem Vcb {s : Option Addr} {n : Nat} {i : Int} {sz : Nat} {k : Addr → K} {a : Addr} (hs : s = some a) (h0 : 0 ≤ i) (h1 : i < n) (ht : T B P (k (a.add (i.toNat * sz)))) : T B P (ixS s n i sz k) :=
 fun w s => ⟨a, hs, ⟨h0, h1⟩, ht w s⟩
theorem Yyo {a : Addr} {n : Nat} {i : Int} {sz : Nat} {k : Addr → K} (h0 : 0 ≤ i) (h1 : i < n) (ht : T B P (k (a.add (i.toNat * sz)))) : T B P (ixA a n i sz k) :=
 fun w s => ⟨⟨h0, h1⟩, ht w s⟩
theorem Vh1 {y : Int} {t : K} (h : y ≠ 0) (ht : T B P t) : T B P (nz y t) := by unfold nz; rw [if_neg h]; exact ht
theorem Ymc {y : Int} {t : K} (h : 0 ≤ y) (ht : T B P t) : T B P (nneg y t) := by unfold nneg; rw [if_neg (by omega)]; exact ht
theorem T_mkS {Pg : Program} {e : TypeId} {l c : Int} {k : Nat → K} (h0 : 0 ≤ l) (h1 : l ≤ c) (h2 : bytesP Pg e * c ≤ 2 ^ 48)
  (ht : ∀ b, T B (P * pt b (.cells (repZ (zerosP Pg e) c.toNat).toArray e)) (k b)) : T B P (mkS Pg e l c k) := fun w s => ⟨⟨h0, h1, h2⟩, ht _ _ s.alloc⟩
theorem Vb3 {d lim : Nat} {kd : IntKind} {n : Int} {k : Nat → K} (h0 : 0 ≤ n) (h1 : n ≤ lim) (ht : T B P (k n.toNat)) : T B P (loB (some (.int kd n)) d lim k) := fun w s => ⟨⟨h0, h1⟩, ht w s⟩
end
section
variable {B : World} {P : SL}
theorem Ycz {σ : Type} {body : σ → (σ → K) → K} {s0 : σ} (X : Nat → σ → SL) (φ : Nat → σ → Prop) (n0 : Nat) (hP : P = X n0 s0) (h0 : φ n0 s0)
  (h : ∀ n s (c : σ → K), φ n s → (∀ m s', m < n → φ m s' → T B (X m s') (c s')) → T B (X n s) (body s c)) : T B P (lp body s0) := by
 subst hP
 intro w s
 refine ⟨fun n s w => φ n s ∧ Sat B (X n s) w, n0, ⟨h0, s⟩, fun n s w hs => ?_⟩
 exact h n s _ hs.1 (fun m s' hm hφ w' hs' => ⟨m, hm, hφ, hs'⟩) w hs.2
end
theorem Yay (b o n : Nat) : Addr.add ⟨b, o, none⟩ n = ⟨b, o + n, none⟩ := by
 unfold Addr.add; split
 ·rename_i h; subst h; rfl
 ·rfl
theorem w64 {n : Int} (h0 : -9223372036854775808 ≤ n) (h1 : n ≤ 9223372036854775807) : IntKind.wrap .i64 n = n := by
 show (if (true && decide (n % (2 ^ 64 : Int) ≥ (2 ^ 63 : Int))) = true then n % (2 ^ 64 : Int) - (2 ^ 64 : Int) else n % (2 ^ 64 : Int)) = n
 simp only [Bool.true_and, decide_eq_true_eq]
 split <;> omega
theorem wu64 {n : Int} (h0 : 0 ≤ n) (h1 : n < 18446744073709551616) : IntKind.wrap .u64 n = n := by
 unfold IntKind.wrap
 simp only [IntKind.bits, IntKind.signed, Bool.false_and, Bool.false_eq_true, if_false]
 exact Int.emod_eq_of_lt h0 (by omega)
theorem hasA {P : SL} {b : Nat} {o : Obj} (h : Has P b o := by (repeat (first | with_reducible exact Has.last | with_reducible exact Has.one | refine Has.init ?_))) : Has P b o := h
theorem updA {P : SL} {b : Nat} {o o' : Obj} {Q : SL} (h : Upd P b o o' Q := by (repeat (first | with_reducible exact Upd.last | with_reducible exact Upd.one | with_reducible apply Upd.init))) : Upd P b o o' Q := h
theorem frmA {P X R : SL} (h : Frm P X R := by (repeat (first | with_reducible exact Frm.last | with_reducible exact Frm.one | with_reducible apply Frm.init))) : Frm P X R := h
end
section
open Go Go.RowKit

def ex {α : Type} (P : α → SL) : SL := fun h => ∃ x, P x h
theorem Ymd {α : Type} (P : α → SL) (Q : SL) : ex P * Q = ex fun x => P x * Q := by
 funext h
 refine propext ⟨?_, ?_⟩
 ·rintro ⟨g, r, ⟨x, hx⟩, hq, d, rfl⟩; exact ⟨x, g, r, hx, hq, d, rfl⟩
 ·rintro ⟨x, g, r, hx, hq, d, rfl⟩; exact ⟨g, r, ⟨x, hx⟩, hq, d, rfl⟩
theorem Vfp {α : Type} (P : α → SL) (Q : SL) : Q * ex P = ex fun x => Q * P x := by
 rw [Yc8, Ymd]; congr 1; funext x; exact Yc8 _ _
section
variable {B : World} {P Q R : SL} {t : K}
theorem Ywt {α : Type} {X : α → SL} (h : ∀ x, T B (R * X x) t) : T B (R * ex X) t := by
 rw [Vfp]
 rintro w ⟨⟨g, ⟨x, hx⟩, hb⟩, k⟩
 exact h x w ⟨⟨g, hx, hb⟩, k⟩
theorem Sat.exI {α : Type} {X : α → SL} {w : World} (x : α) (s : Sat B (R * X x) w) : Sat B (R * ex X) w := by
 rw [Vfp]
 obtain ⟨⟨g, hg, hb⟩, k⟩ := s
 exact ⟨⟨g, ⟨x, hg⟩, hb⟩, k⟩
theorem Sat.puI {φ : Prop} {w : World} (h : φ) (s : Sat B P w) : Sat B (P * pu φ) w := by
 obtain ⟨⟨g, hg, hb⟩, k⟩ := s
 exact ⟨⟨g, ⟨g, _, hg, ⟨h, rfl⟩, fun _ => .inr rfl, (Yq0 g).symm⟩, hb⟩, k⟩
theorem Yjt {α : Type} {X : α → SL} (x : α) (h : T B (R * ex X) t) : T B (R * X x) t := fun w s => h w (s.exI x)
theorem Ysu {φ : Prop} (hφ : φ) (h : T B (P * pu φ) t) : T B P t := fun w s => h w (s.puI hφ)
theorem Sat.drew {w : World} (s : Sat B P w) (n : Nat) : Sat B P { w with drawn := n } := ⟨s.1, ⟨s.2.os, s.2.tape, s.2.output, s.2.size, s.2.block⟩⟩

/-- cells written from an offset on -/
def splice {α : Type} (l : List α) (o : Nat) (new : List α) : List α := l.take o ++ new ++ l.drop (o + new.length)
theorem Yls (l : List Value) (o : Nat) : splice l o [] = l := by simp [splice]
theorem Yyp (l : List Value) (o : Nat) (v : Value) (new : List Value) (h : o < l.length) : splice (l.set o v) (o + 1) new = splice l o (v :: new) := by
 unfold splice
 have e1 : (l.set o v).take (o + 1) = l.take o ++ [v] := by
  apply List.ext_getElem?
  intro i
  by_cases h1 : i < o
  ·rw [List.getElem?_append_left (by simp; omega)]
   simp [List.getElem?_take, List.getElem?_set, h1, Nat.lt_succ_of_lt h1, Nat.ne_of_gt h1]
  ·by_cases h2 : i = o
   ·subst h2
    rw [List.getElem?_append_right (by simp; omega)]
    simp [List.getElem?_take, List.getElem?_set, h, Nat.min_eq_left (Nat.le_of_lt h)]
   ·rw [List.getElem?_append_right (by simp; omega)]
    have : i - (l.take o).length ≠ 0 := by simp; omega
    rw [List.getElem?_eq_none (by simp; omega), List.getElem?_eq_none (by simp; omega)]
 have e2 : (l.set o v).drop (o + 1 + new.length) = l.drop (o + (v :: new).length) := by
  rw [List.drop_set_of_lt (by omega)]
  congr 1; simp; omega
 rw [e1, e2]; simp
variable {Pg : Program}
theorem Ynw {w : World} {b o : Nat} {l : List Value} {ty : TypeId} {P' : List Value → SL} (hU : ∀ l l', Upd (P' l) b (.cells l.toArray ty) (.cells l'.toArray ty) (P' l')) :
  ∀ {new : List Value} {l : List Value} {i : Nat} {w : World} {a : Addr}, a = ⟨b, o, none⟩ → new.all scal = true → o + i + new.length ≤ l.length → Sat B (P' l) w →
   ∃ w', (storeCells a new i).run Pg w = .ok () w' ∧ Sat B (P' (splice l (o + i) new)) w' := by
 intro new
 induction new with
 |nil => intro l i w a _ _ _ s; exact ⟨w, rfl, by rw [Yls]; exact s⟩
 |cons v new ih =>
  intro l i w a ha hs hl s
  simp only [List.all_cons, Bool.and_eq_true] at hs
  simp only [List.length_cons] at hl
  have hh : w.heap[b]? = some (.cells l.toArray ty) := by
   obtain ⟨⟨x, hx, hb⟩, _⟩ := s
   exact (hb b _ ((hU l l) x hx).1).2
  have hlt : b < w.heap.size := (Array.getElem?_eq_some_iff.1 hh).1
  have hadd : a.add i = ⟨b, o + i, none⟩ := by subst ha; exact Yay _ _ _
  have hi : o + i < l.length := by omega
  have hcell : w.cell? (a.add i) = some l[o + i] := by rw [hadd]; simp [World.cell?, hh, hi]
  have hfr : w.frozen? (a.add i) = false := by rw [hadd]; simp [World.frozen?, hh]
  have h1 : (store (a.add i) v .plain).run Pg w = .ok () (w.setCell (a.add i) v) := by
   rw [run_store Pg w _ _ _ (by cases v <;> simp_all [scal, Value.oneCell']), hcell]; simp [hfr]
  have s' : Sat B (P' (l.set (o + i) v)) (w.setCell (a.add i) v) := by
   refine s.upd (hU l _) ?_ ?_ rfl rfl rfl (by simp [World.setCell])
   ·rw [hadd]; simp only [World.setCell, Array.getElem?_modify, if_true]; rw [hh]; simp
   ·intro x hx; rw [hadd]; simp only [World.setCell, Array.getElem?_modify]; rw [if_neg (Ne.symm hx)]
  obtain ⟨w', hr, hs'⟩ := ih (l := l.set (o + i) v) (i := i + 1) ha hs.2 (by simp; omega) s'
  refine ⟨w', by simp only [storeCells, Sem.run_bind, h1, Result.andThen_ok, hr], ?_⟩
  have := Yyp l (o + i) v new hi
  rw [← this]; rw [show o + i + 1 = o + (i + 1) from by omega]; exact hs'
/-- so many cells from an offset on -/
def cut {α : Type} (l : List α) (o n : Nat) : List α := (l.drop o).take n
theorem Yd0 {α : Type} {l : List α} {o n : Nat} (h : o + n ≤ l.length) : (cut l o n).length = n := by simp [cut]; omega
theorem Yt1 {α β : Type} (f : α → β) (l : List α) (o : Nat) (new : List α) : (splice l o new).map f = splice (l.map f) o (new.map f) := by simp [splice, List.map_take, List.map_drop]
theorem Vf2 {α β : Type} (f : α → β) (l : List α) (o n : Nat) : (cut l o n).map f = cut (l.map f) o n := by simp [cut, List.map_take, List.map_drop]
theorem Yah {α : Type} {l new : List α} {o : Nat} (h : o + new.length ≤ l.length) : (splice l o new).length = l.length := by simp [splice]; omega
theorem Ynx {l rest new : List Value} {o : Nat} (h : o + new.length ≤ l.length) : splice (l ++ rest) o new = splice l o new ++ rest := by
 unfold splice
 rw [List.take_append_of_le_length (by omega), List.drop_append_of_le_length h]; simp
theorem Ymn {α : Type} {l : List α} {o n j : Nat} (h : j < n) : (cut l o n)[j]? = l[o + j]? := by unfold cut; rw [List.getElem?_take, if_pos h, List.getElem?_drop]

theorem Vcc (a : Addr) (m n : Nat) : (a.add m).add n = a.add (m + n) := by
 obtain ⟨b, o, sb⟩ := a
 unfold Addr.add
 by_cases hm : m = 0
 ·subst hm; simp
 ·by_cases hn : n = 0
  ·subst hn; simp [hm]
  ·simp [hm, hn, Nat.add_assoc]
/-- what a slice that is appended to reads as: its elements have sz cells each; it has a block of its own, or no room at all -/
def vec (E : TypeId) (sz : Nat) (s : Sl) (vs : List Value) : SL := fun h =>
 (s.n = 0 ∧ s.c = 0 ∧ vs = [] ∧ emp h) ∨
 (∃ b rest, s.p = some ⟨b, 0, none⟩ ∧ s.n * sz = vs.length ∧ s.c * sz = vs.length + rest.length ∧ s.c ≤ maxLen ∧ pt b (.cells (vs ++ rest).toArray E) h)
theorem Yp1 {E : TypeId} {sz b : Nat} {s : Sl} {vs rest : List Value} (h0 : s.p = some ⟨b, 0, none⟩) (h2 : s.n * sz = vs.length) (h1 : s.c * sz = vs.length + rest.length) (h3 : s.c ≤ maxLen) {w : World}
  (hs : Sat B (R * pt b (.cells (vs ++ rest).toArray E)) w) : Sat B (R * vec E sz s vs) w := by
 refine hs.imp ?_
 rintro _ ⟨g, r, hg, hr, d, rfl⟩
 exact ⟨_, ⟨g, r, hg, .inr ⟨b, rest, h0, h2, h1, h3, hr⟩, d, rfl⟩, fun _ _ e => e⟩
theorem Yuw {E : TypeId} {sz : Nat} {s : Sl} (h0 : s.n = 0) (h1 : s.c = 0) {w : World} (hs : Sat B R w) : Sat B (R * vec E sz s []) w := by
 rw [← Yuv R] at hs
 refine hs.imp ?_
 rintro _ ⟨g, r, hg, hr, d, rfl⟩
 exact ⟨_, ⟨g, r, hg, .inl ⟨h0, h1, rfl, hr⟩, d, rfl⟩, fun _ _ e => e⟩
theorem Yei {E : TypeId} {sz : Nat} {s : Sl} {vs : List Value} {w : World} (h : Sat B (R * vec E sz s vs) w) :
  (s.n = 0 ∧ s.c = 0 ∧ vs = [] ∧ Sat B R w) ∨
  (∃ b rest, s.p = some ⟨b, 0, none⟩ ∧ s.n * sz = vs.length ∧ s.c * sz = vs.length + rest.length ∧ s.c ≤ maxLen ∧ Sat B (R * pt b (.cells (vs ++ rest).toArray E)) w) := by
 have hl := h.left
 obtain ⟨⟨x, ⟨g, r, hg, hr, d, rfl⟩, hb⟩, k⟩ := h
 rcases hr with ⟨h1, h2, h3, he⟩ | ⟨b, rest, h1, h2, h3, h4, hp⟩
 ·exact .inl ⟨h1, h2, h3, hl⟩
 ·exact .inr ⟨b, rest, h1, h2, h3, h4, ⟨_, ⟨g, r, hg, hp, d, rfl⟩, hb⟩, k⟩

/-- what a slice reads as, wherever the assertion holds -/
def Rd (P : SL) (x : Sl) (sz : Nat) (vs : List Value) : Prop :=
 ∀ B w, Sat B P w → vs.length = x.n * sz ∧ x.n * sz ≤ x.c * sz ∧ ((x.p = none ∧ vs = []) ∨ ∃ a, x.p = some a ∧ ∀ j v, vs[j]? = some v → w.cell? (a.add j) = some v)
theorem Ya1 {x : Sl} {sz : Nat} {vs : List Value} (h : Rd P x sz vs) (ht : x.n * sz = vs.length → T B P t) : T B P t := fun w s => ht (h B w s).1.symm w s
theorem Rd.run {x : Sl} {sz : Nat} {vs : List Value} {w : World} (h : Rd P x sz vs) (s : Sat B P w) : (Builtin.firstCells sz x.n x.v).run Pg w = .ok vs.toArray w := by
 obtain ⟨p, n, c⟩ := x
 obtain ⟨h1, _, ⟨h2, rfl⟩ | ⟨a, h2, h3⟩⟩ := h B w s
 ·simp only at h2; subst h2; exact run_firstCells_none _ _ _ _ _
 ·simp only at h2; subst h2
  exact run_firstCells_some _ sz n a n c vs h1 h3
theorem Rd.init {x : Sl} {sz : Nat} {vs : List Value} (h : Rd P x sz vs) : Rd (P * Q) x sz vs := fun B w s => h B w s.left
theorem Rd.tail {x : Sl} {sz : Nat} {vs : List Value} (h : Rd Q x sz vs) : Rd (P * Q) x sz vs := fun B w s => h B w s.right
theorem Rd.perm {x : Sl} {sz : Nat} {vs : List Value} (e : P = Q) (h : Rd Q x sz vs) : Rd P x sz vs := e ▸ h
theorem Rd.of {x : Sl} {sz : Nat} {vs : List Value} {b o c : Nat} {l : List Value} {ty : TypeId} (hx : x.p = some ⟨b, o, none⟩) (hc : x.n ≤ x.c) (h : Has P b (.cells l.toArray ty)) (hl : o + x.n * sz ≤ l.length) (hv : vs = cut l o (x.n * sz)) : Rd P x sz vs := by
 subst hv
 refine fun B w s => ⟨Yd0 hl, Nat.mul_le_mul_right _ hc, .inr ⟨_, hx, fun j v hj => ?_⟩⟩
 rw [Yay]
 refine s.cell h ?_
 have hlt : j < x.n * sz := by rw [← Yd0 hl]; exact (List.getElem?_eq_some_iff.1 hj).1
 rw [Ymn hlt] at hj; exact hj
theorem Rd.one {b : Nat} {l : List Value} {ty : TypeId} {n c : Nat} {sz : Nat} (h : Has P b (.cells l.toArray ty)) (hn : n * sz = l.length) (hc : n ≤ c) : Rd P ⟨some ⟨b, 0, none⟩, n, c⟩ sz l :=
 Rd.of (b := b) (o := 0) (c := 0) rfl hc h (by simp [hn]) (by simp [cut, hn])
theorem Rd.vec {E : TypeId} {sz : Nat} {s : Sl} {vs : List Value} (h : Frm P (vec E sz s vs) R) : Rd P s sz vs := by
 unfold Frm at h; subst h
 intro B w hw
 rcases Yei hw with ⟨h1, h2, rfl, hR⟩ | ⟨b, rest, h1, h2, h3, h4, hR⟩
 ·refine ⟨by simp [h1], by simp [h1], ?_⟩
  cases hp : s.p with
  |none => exact .inl ⟨rfl, rfl⟩
  |some a => exact .inr ⟨a, rfl, fun j v hj => by simp at hj⟩
 ·refine ⟨h2.symm, by omega, .inr ⟨_, h1, fun j v hj => ?_⟩⟩
  rw [Yay, Nat.zero_add]
  refine hR.cell Has.last ?_
  rw [List.getElem?_append_left (List.getElem?_eq_some_iff.1 hj).1]; exact hj
theorem Rd.nil {sz : Nat} {x : Sl} (h : x.n = 0) : Rd P x sz [] := fun B w s => by
 refine ⟨by simp [h], by simp [h], ?_⟩
 cases hp : x.p with
 |none => exact .inl ⟨rfl, rfl⟩
 |some a => exact .inr ⟨a, rfl, fun j v hj => by simp at hj⟩
/-- a piece of a slice -/
theorem Rd.piece {x y : Sl} {sz : Nat} {vs : List Value} {o n : Nat} (hsz : 0 < sz) (h : Rd P x sz vs) (ho : (o + n) * sz ≤ vs.length) (h1 : y.p = cutP x.p o x.c sz) (h2 : y.n = n) (h3 : y.c = x.c - o) : Rd P y sz (cut vs (o * sz) (n * sz)) := by
 intro B w s
 obtain ⟨e1, e2, e3⟩ := h B w s
 have hxc : x.n ≤ x.c := Nat.le_of_mul_le_mul_right e2 hsz
 have hon : o + n ≤ x.n := by rw [e1] at ho; exact Nat.le_of_mul_le_mul_right ho hsz
 rw [Nat.add_mul] at ho
 have hl : (cut vs (o * sz) (n * sz)).length = n * sz := Yd0 ho
 refine ⟨by rw [hl, h2], Nat.mul_le_mul_right _ (by omega), ?_⟩
 rcases e3 with ⟨p1, rfl⟩ | ⟨a, p1, p2⟩
 ·simp only [List.length_nil] at ho
  refine .inl ⟨by rw [h1, p1]; unfold cutP; simp, by simp [cut]⟩
 ·by_cases hco : x.c = o
  ·have : n = 0 := by omega
   subst this
   refine .inr ⟨a, by rw [h1]; unfold cutP; rw [if_pos hco, p1], fun j v hj => by simp [cut] at hj⟩
  ·refine .inr ⟨a.add (o * sz), by rw [h1]; unfold cutP; rw [if_neg hco, p1]; rfl, fun j v hj => ?_⟩
   have hlt : j < n * sz := by rw [← hl]; exact (List.getElem?_eq_some_iff.1 hj).1
   rw [Ymn hlt] at hj
   have : (a.add (o * sz)).add j = a.add (o * sz + j) := Vcc a _ _
   rw [this]; exact p2 _ _ hj

/-- a kind of slices: the type's number, its element's, how many cells and bytes that has -/
structure Kd (Pg : Program) (Tid E : TypeId) (sz : Nat) : Prop where
 und : Pg.underlying Tid = some (.slice E)
 ok : okT Pg E = true
 size : szP Pg E = sz
 zero : (zeroP Pg E).isSome = true
 zlen : (zerosP Pg E).length = sz
 bytes : bytesP Pg E ≤ 64
 pos : 1 ≤ bytesP Pg E
theorem Kd.sz0 {Tid E : TypeId} {sz : Nat} (hK : Kd Pg Tid E sz) : 0 < sz := by have := (Yfn hK.ok).2; rw [hK.size] at this; omega
theorem Ybs {Tid E : TypeId} {sz ty : Nat} (hK : Kd Pg Tid E sz) {s x : Sl} {vs new : List Value} {k : Sl → K} (hx : Rd R x sz new) (hsc : new.all scal = true)
  (hlen : vs.length / sz + x.n ≤ 2 ^ 40) (hk : ∀ s', T B (R * vec E sz s' (vs ++ new)) (k s')) :
  T B (R * vec E sz s vs) (semT Pg (Builtin.append_ #[Tid, Tid] ty #[s.v, x.v]) (.one (.sc .slice)) k) := by
 have hsz0 := hK.sz0
 obtain ⟨⟨d, hd⟩, _⟩ := Yfn hK.ok
 obtain ⟨i, hi⟩ := Yra hd
 obtain ⟨z, hz⟩ := Option.isSome_iff_exists.1 hK.zero
 have hzl := Yut hz
 have hiz : i.zero = some z := by simpa [zeroP, hi] using hz
 have his : i.size = sz := by have := hK.size; simpa [szP, hi] using this
 have hzs : z.cells.size = sz := by have := hK.zlen; rw [hzl] at this; simpa using this
 have hby : i.bytes = bytesP Pg E := by simp [bytesP, hi]
 have hone : ∀ u ∈ new, u.oneCell' = true := by
  intro u hu
  have := List.all_eq_true.1 hsc u hu
  cases u <;> simp_all [scal, Value.oneCell']
 have hsv : s.v = .slice s.p s.n s.c := rfl
 have hxv : x.v = .slice x.p x.n x.c := rfl
 -- nothing is appended
 have same : ∀ w, new = [] → s.n ≤ s.c → x.n = 0 → Sat B R w → (Builtin.append_ #[Tid, Tid] ty #[s.v, x.v]).run Pg w = .ok s.v w := by
  intro w h1 h2 h3 hR
  have hf := hx.run (Pg := Pg) hR
  rw [h3, h1, hxv] at hf
  rw [hsv, hxv, h3]
  rw [h3] at hf
  cases hp : s.p <;> simp [Builtin.append_, Ycl hK.und, Yew hK.ok, Builtin.lenOf, h2, storeCells, hK.size, hf]
 intro w hw
 have hRw : Sat B R w := hw.left
 obtain ⟨hnl, _, hxc⟩ := hx B w hRw
 unfold semT
 have hold : vs.length = s.n * sz ∧ s.n ≤ s.c ∧ s.c ≤ maxLen ∧ ((s.p = none ∧ s.n = 0 ∧ s.c = 0 ∧ vs = []) ∨ ∃ a, s.p = some a ∧ ∀ j v, vs[j]? = some v → w.cell? (a.add j) = some v) := by
  rcases Yei hw with ⟨h1, h2, rfl, _⟩ | ⟨b, rest, h1, h2, h3, h4, hR⟩
  ·refine ⟨by simp [h1], by omega, by rw [h2]; exact Nat.zero_le _, ?_⟩
   cases hp : s.p with
   |none => exact .inl ⟨rfl, h1, h2, rfl⟩
   |some a => exact .inr ⟨a, rfl, fun j v hj => by simp at hj⟩
  ·refine ⟨h2.symm, Nat.le_of_mul_le_mul_right (show s.n * sz ≤ s.c * sz by omega) hsz0, h4, .inr ⟨_, h1, fun j v hj => ?_⟩⟩
   rw [Yay, Nat.zero_add]
   refine hR.cell Has.last ?_
   rw [List.getElem?_append_left (List.getElem?_eq_some_iff.1 hj).1]; exact hj
 obtain ⟨hvl, hnc, hcm, holds⟩ := hold
 have hn : vs.length / sz = s.n := by rw [hvl]; exact Nat.mul_div_cancel _ hsz0
 rw [hn] at hlen
 by_cases h0 : x.n = 0
 ·have hnew : new = [] := List.eq_nil_of_length_eq_zero (by rw [hnl, h0]; simp)
  rw [same w hnew hnc h0 hRw]
  refine ⟨s, rfl, hk _ w ?_⟩
  rw [hnew, List.append_nil]; exact hw
 obtain ⟨a, x1, hcells⟩ : ∃ a, x.p = some a ∧ ∀ j v, new[j]? = some v → w.cell? (a.add j) = some v := by
  rcases hxc with ⟨_, rfl⟩ | h
  ·exfalso
   have : 0 < x.n * sz := Nat.mul_pos (by omega) hsz0
   simp at hnl; omega
  ·exact h
 -- what is made anew
 have anew : Sat B (R * vec E sz ⟨some ⟨w.heap.size, 0, none⟩, s.n + x.n, grownCap w (s.n + x.n) s.c E⟩ (vs ++ new))
   (w.drew.alloc (.cells (vs.toArray ++ new.toArray ++ Builtin.zeroCells z.cells (grownCap w (s.n + x.n) s.c E - (s.n + x.n))) E)) := by
  have hge := grownCap_ge w (s.n + x.n) s.c E
  have hvl' : (vs ++ new).length = (s.n + x.n) * sz := by rw [List.length_append, hvl, hnl, Nat.add_mul]
  have s1 := (hRw.drew (w.drawn + 1)).alloc (o := .cells ((vs ++ new) ++ (Builtin.zeroCells z.cells (grownCap w (s.n + x.n) s.c E - (s.n + x.n))).toList).toArray E)
  have hbound : s.n + x.n ≤ maxLen := by unfold maxLen; omega
  have := Yp1 (sz := sz) (s := ⟨some ⟨w.heap.size, 0, none⟩, s.n + x.n, grownCap w (s.n + x.n) s.c E⟩) rfl hvl'.symm (by rw [hvl']; simp [size_zeroCells, hzs]; rw [← Nat.add_mul]; congr 1; omega) (grownCap_le_maxLen w _ s.c E hbound) s1
  have ea : (vs.toArray ++ new.toArray ++ Builtin.zeroCells z.cells (grownCap w (s.n + x.n) s.c E - (s.n + x.n))) = ((vs ++ new) ++ (Builtin.zeroCells z.cells (grownCap w (s.n + x.n) s.c E - (s.n + x.n))).toList).toArray := by
   apply Array.ext'; simp
  rw [ea]
  exact this
 rcases holds with ⟨p1, p2, p3, rfl⟩ | ⟨a0, p1, hold⟩
 ·rw [p2, p3] at anew
  have h48 : x.n * i.bytes ≤ 281474976710656 := by
   rw [hby]; have := Nat.mul_le_mul (show x.n ≤ 2 ^ 40 by omega) hK.bytes; omega
  have hr := run_append_nil (P := Pg) w Tid ty E i z hK.und hi hiz a x.n x.c new (by rw [hnl, his]) hcells (by omega) (by omega) h48
  rw [hxv, x1, hsv, p1, p2, p3, hr]
  refine ⟨⟨some ⟨w.heap.size, 0, none⟩, x.n, grownCap w x.n 0 E⟩, rfl, hk _ _ ?_⟩
  simp only [Nat.zero_add, List.nil_append, Array.empty_append] at anew ⊢
  simpa using anew
 ·by_cases hroom : s.n + x.n ≤ s.c
  ·rcases Yei hw with ⟨h1, h2, rfl, _⟩ | ⟨b, rest, h1, h2, h3, h4, hR⟩
   ·omega
   ·have hh : w.heap[b]? = some (.cells (vs ++ rest).toArray E (0, 0)) := (hR.has Has.last).1
    have hfit : s.n * i.size + new.length ≤ (vs ++ rest).toArray.size := by
     rw [his, hnl]
     simp only [List.size_toArray, List.length_append]
     have : (s.n + x.n) * sz ≤ s.c * sz := Nat.mul_le_mul_right _ hroom
     rw [Nat.add_mul] at this
     omega
    have hr := run_append_room (P := Pg) w Tid ty E i hK.und hi b s.n s.c _ hh a x.n x.c new (by rw [hnl, his]) hcells hone hroom hfit
    rw [hxv, x1, hsv, h1, hr]
    refine ⟨⟨some ⟨b, 0, none⟩, s.n + x.n, s.c⟩, rfl, hk _ _ ?_⟩
    have hnew : ((vs ++ rest).toArray.toList.take (s.n * i.size) ++ new ++ (vs ++ rest).toArray.toList.drop (s.n * i.size + new.length)) = (vs ++ new) ++ rest.drop new.length := by
     rw [his, h2]
     simp
    rw [hnew]
    rw [his, h2] at hfit
    simp at hfit
    refine Yp1 (s := ⟨some ⟨b, 0, none⟩, s.n + x.n, s.c⟩) (rest := rest.drop new.length) rfl ?_ ?_ hcm ?_
    ·simp only [List.length_append, hnl, Nat.add_mul]; omega
    ·simp only [List.length_append, List.length_drop]; omega
    ·exact hR.upd Upd.last (setRow_heap w b _ _ E _ hh) (fun y hy => setRow_other w b y _ hy) rfl rfl rfl (by simp)
  ·have hfit : Builtin.nextslicecap (s.n + x.n) s.c * i.bytes ≤ 281474976710656 := growslice_fits (by omega) (by
    rw [hby]; have := Nat.mul_le_mul hlen hK.bytes; omega)
   have hr := run_append_grow (P := Pg) w Tid ty E i z hK.und hi hiz a0 s.n s.c vs (by rw [his]; exact hvl) hold a x.n x.c new (by rw [hnl, his]) hcells (by omega) (by omega) hfit
   rw [hxv, x1, hsv, p1, hr]
   exact ⟨⟨some ⟨w.heap.size, 0, none⟩, _, _⟩, rfl, hk _ _ anew⟩
theorem Yux {X : SL} (h : T B (P * X) t) : T B (P * Q * X) t := by
 intro w s
 rw [Yad, Yc8 Q, ← Yad] at s
 exact h w s.left
theorem Yt2 {E : TypeId} {sz b : Nat} {s : Sl} {vs rest : List Value} (h0 : s.p = some ⟨b, 0, none⟩) (h2 : s.n * sz = vs.length) (h1 : s.c * sz = vs.length + rest.length) (h3 : s.c ≤ maxLen)
  (ht : T B (R * vec E sz s vs) t) : T B (R * pt b (.cells (vs ++ rest).toArray E)) t := fun w s => ht w (Yp1 h0 h2 h1 h3 s)
theorem Ydh {E : TypeId} {sz : Nat} {s : Sl} (h0 : s.n = 0) (h1 : s.c = 0) (ht : T B (R * vec E sz s []) t) : T B R t := fun w hs => ht w (Yuw h0 h1 hs)
theorem Yc0 {E : TypeId} {sz : Nat} {s : Sl} {vs : List Value} (h : Frm P (vec E sz s vs) R) (ht : s.n * sz = vs.length → T B P t) : T B P t := Ya1 (Rd.vec h) ht
/-- a slice made shorter -/
theorem Ywu {E : TypeId} {sz : Nat} {s s' : Sl} {vs : List Value} {n : Nat} (hsz : 0 < sz) (hp : s'.p = s.p) (hn : s'.n = n) (hc : s'.c = s.c) (hl : n * sz ≤ vs.length) (ht : T B (R * vec E sz s' (vs.take (n * sz))) t) :
  T B (R * vec E sz s vs) t := by
 intro w hw
 refine ht w ?_
 rcases Yei hw with ⟨h1, h2, rfl, hR⟩ | ⟨b, rest, h1, h2, h3, h4, hR⟩
 ·simp only [List.take_nil]
  simp only [List.length_nil] at hl
  have h0 : n = 0 := by
   rcases Nat.eq_zero_or_pos n with h | h
   ·exact h
   ·have := Nat.mul_pos h hsz; omega
  exact Yuw (by omega) (by omega) hR
 ·refine Yp1 (rest := vs.drop (n * sz) ++ rest) (hp.trans h1) (by rw [hn]; simp; omega) ?_ (by rw [hc]; exact h4) ?_
  ·rw [hc, h3]; simp; omega
  ·rw [← List.append_assoc, List.take_append_drop]; exact hR
theorem Yej {s : Sl} {vs : List Value} {kd : IntKind} {i : Int} {n : Int} {k : Int → K} (h : Rd P s 1 vs) (h0 : 0 ≤ i) (hi : vs[i.toNat]? = some (.int kd n)) (ht : T B P (k n)) :
  T B P (ixS s.p s.n i 1 fun a => ldI kd a k) := by
 intro w hw
 obtain ⟨e1, _, e3⟩ := h B w hw
 have hlt : i.toNat < vs.length := (List.getElem?_eq_some_iff.1 hi).1
 rcases e3 with ⟨_, rfl⟩ | ⟨a, p1, p2⟩
 ·simp at hlt
 ·exact ⟨a, p1, ⟨h0, by omega⟩, n, by rw [Nat.mul_one]; exact p2 _ _ hi, ht w hw⟩
theorem Vfq {s : Sl} {vs : List Value} {i : Int} {n : Bool} {k : Bool → K} (h : Rd P s 1 vs) (h0 : 0 ≤ i) (hi : vs[i.toNat]? = some (.bool n)) (ht : T B P (k n)) :
  T B P (ixS s.p s.n i 1 fun a => ldB a k) := by
 intro w hw
 obtain ⟨e1, _, e3⟩ := h B w hw
 have hlt : i.toNat < vs.length := (List.getElem?_eq_some_iff.1 hi).1
 rcases e3 with ⟨_, rfl⟩ | ⟨a, p1, p2⟩
 ·simp at hlt
 ·exact ⟨a, p1, ⟨h0, by omega⟩, n, by rw [Nat.mul_one]; exact p2 _ _ hi, ht w hw⟩
theorem Ywv {E : TypeId} {s : Sl} {vs : List Value} {i : Int} {v : Value} (h : Frm P (vec E 1 s vs) R) (h0 : 0 ≤ i) (hi : i.toNat < vs.length) (ht : T B (R * vec E 1 s (vs.set i.toNat v)) t) :
  T B P (ixS s.p s.n i 1 fun a => stK (a.add 0) v t) := by
 unfold Frm at h; subst h
 intro w hw
 rcases Yei hw with ⟨_, _, rfl, _⟩ | ⟨b, rest, h1, h2, h3, h4, hR⟩
 ·simp at hi
 ·refine ⟨⟨b, 0, none⟩, h1, ⟨h0, by omega⟩, ?_⟩
  have hT : T B (R * pt b (.cells (vs ++ rest).toArray E)) (stK ((Addr.add ⟨b, 0, none⟩ (i.toNat * 1)).add 0) v t) := by
   refine Ybc (i := i.toNat) (by rw [Yay, Yay]; simp) Upd.last (by simp; omega) ?_
   rw [List.set_append_left _ _ hi]
   exact Yt2 h1 (by simpa using h2) (by simpa using h3) h4 ht
  exact hT w hR
theorem Vcd {Tid T2 E : TypeId} {ty : Nat} (hK : Kd Pg Tid E 1) {s x d : Sl} {vs new : List Value} {k : Int → K} {o : Nat} (hF : Frm P (vec E 1 s vs) R) (hx : Rd R x 1 new) (hsc : new.all scal = true)
  (hd : d.p = cutP s.p o s.c 1) (hdn : d.n = x.n) (ho : o + x.n ≤ vs.length) (hk : T B (R * vec E 1 s (splice vs o new)) (k x.n)) :
  T B P (semT Pg (Builtin.copy_ #[Tid, T2] ty #[d.v, x.v]) (.one (.sc (.int .i64))) k) := by
 unfold Frm at hF; subst hF
 intro w hw
 have hRw : Sat B R w := hw.left
 obtain ⟨hnl, _, hxc⟩ := hx B w hRw
 have hf := hx.run (Pg := Pg) hRw
 have hmin : Nat.min x.n d.n = x.n := by rw [hdn]; exact Nat.min_self _
 unfold semT
 have hpre : ∀ w', (match d.p with | some a => storeCells a new | none => pure ()).run Pg w = .ok () w' → (Builtin.copy_ #[Tid, T2] ty #[d.v, x.v]).run Pg w = .ok (goInt x.n) w' := by
  intro w' hst
  have hdv : d.v = .slice d.p d.n d.c := rfl
  have hxv : x.v = .slice x.p x.n x.c := rfl
  rw [hxv] at hf
  rw [hdv, hxv]
  cases hp : d.p with
  |none => rw [hp] at hst; simp [Builtin.copy_, Ycl hK.und, Yew hK.ok, Builtin.lenOf, hK.size, hmin, hf] at hst ⊢; exact hst
  |some a => rw [hp] at hst; simp [Builtin.copy_, Ycl hK.und, Yew hK.ok, Builtin.lenOf, hK.size, hmin, hf, hst]
 rcases Yei hw with ⟨h1, h2, rfl, _⟩ | ⟨b, rest, h1, h2, h3, h4, hR⟩
 ·have h0 : x.n = 0 := by simp at ho; omega
  have hnew : new = [] := List.eq_nil_of_length_eq_zero (by rw [hnl, h0])
  rw [hpre w (by rw [hnew]; cases d.p <;> rfl)]
  refine ⟨x.n, rfl, hk w ?_⟩
  rw [hnew, Yls]; exact hw
 ·by_cases hco : s.c = o
  ·have h0 : x.n = 0 := by omega
   have hnew : new = [] := List.eq_nil_of_length_eq_zero (by rw [hnl, h0])
   rw [hpre w (by rw [hnew]; cases d.p <;> rfl)]
   refine ⟨x.n, rfl, hk w ?_⟩
   rw [hnew, Yls]; exact hw
  ·have hdp : d.p = some ⟨b, o, none⟩ := by rw [hd]; unfold cutP; rw [if_neg hco, h1]; simp [Yay]
   obtain ⟨w', hr, hs'⟩ := Ynw (Pg := Pg) (B := B) (b := b) (o := o) (ty := E) (P' := fun l => R * pt b (.cells l.toArray E)) (fun _ _ => Upd.last) (new := new) (l := vs ++ rest) (i := 0) (w := w) rfl hsc (by simp; omega) hR
   rw [hpre w' (by rw [hdp]; exact hr)]
   refine ⟨x.n, rfl, hk w' ?_⟩
   rw [Nat.add_zero, Ynx (by omega)] at hs'
   exact Yp1 h1 (by rw [Yah (by omega)]; exact h2) (by rw [Yah (by omega)]; exact h3) h4 hs'
/-- a whole array stored -/
theorem Vf3 {ty : TypeId} {b : Nat} {l cs : List Value} {z : TypeId} {a : Addr} (ha : a = ⟨b, 0, none⟩) (hk : okT Pg z = true) (hz : szP Pg z = cs.length) (hl : cs.length = l.length) (hsc : cs.all scal = true)
  (ht : T B (R * pt b (.cells cs.toArray ty)) t) : T B (R * pt b (.cells l.toArray ty)) (semU Pg (Instr.storeAt z (.pointer (some a)) (.agg cs.toArray)) t) := by
 subst ha
 intro w hw
 obtain ⟨w', hr, hs⟩ := Ynw (Pg := Pg) (B := B) (b := b) (o := 0) (ty := ty) (P' := fun l => R * pt b (.cells l.toArray ty)) (fun _ _ => Upd.last) (new := cs) (l := l) (i := 0) (w := w) rfl hsc (by omega) hw
 have e : splice l (0 + 0) cs = cs := by unfold splice; simp [hl]
 rw [e] at hs
 have hrun : (Instr.storeAt z (.pointer (some ⟨b, 0, none⟩)) (.agg cs.toArray)).run Pg w = .ok () w' := by
  simp [Instr.storeAt, Instr.sureAddr, storeVar, Yew hk, hz, hr, Value.cells]
 unfold semU
 rw [hrun]
 exact ht w' hs
end
end
section
open Go Go.RowKit
section
variable {B : World} {P Q R : SL} {t : K} {Pg : Program}
theorem Va4 (z : List Value) {l c : Nat} (h : l ≤ c) : repZ z c = repZ z l ++ repZ z (c - l) := by
 unfold repZ
 rw [← List.flatten_append, List.replicate_append_replicate]
 congr 2; omega
theorem Ysv {Tid E : TypeId} {sz : Nat} (hK : Kd Pg Tid E sz) {li ci : Int} {k : Nat → K} (h0 : 0 ≤ li) (h1 : li ≤ ci) (h2 : ci ≤ 2 ^ 40)
  (hk : ∀ b, T B (R * vec E sz ⟨some ⟨b, 0, none⟩, li.toNat, ci.toNat⟩ (repZ (zerosP Pg E) li.toNat)) (k b)) : T B R (mkS Pg E li ci k) := by
 have hsz0 : 0 < sz := by have := (Yfn hK.ok).2; rw [hK.size] at this; omega
 refine T_mkS h0 h1 ?_ fun b => ?_
 ·have h3 : bytesP Pg E * ci.toNat ≤ 64 * 2 ^ 40 := Nat.mul_le_mul hK.bytes (by omega)
  have h4 : ((bytesP Pg E * ci.toNat : Nat) : Int) = bytesP Pg E * ci := by rw [Int.natCast_mul]; congr 1; omega
  omega
 ·rw [Va4 (zerosP Pg E) (show li.toNat ≤ ci.toNat by omega)]
  have e : (repZ (zerosP Pg E) li.toNat).length = li.toNat * sz := by rw [Yfj, hK.zlen]
  refine Yt2 (sz := sz) (s := ⟨some ⟨b, 0, none⟩, li.toNat, ci.toNat⟩) rfl e.symm ?_ ?_ (hk b)
  ·rw [e, Yfj, hK.zlen, ← Nat.add_mul]; congr 1; simp only; omega
  ·unfold maxLen; simp only; omega
theorem Vhg {x : Sl} {sz : Nat} {vs : List Value} (h : Rd P x sz vs) (ht : (x.p = none → vs = []) → T B P t) : T B P t := fun w s => ht (fun e => by
 rcases (h B w s).2.2 with h | ⟨a, h, _⟩
 ·exact h.2
 ·rw [e] at h; cases h) w s
theorem Yl2 {σ : Type} {body : σ → (σ → K) → K} {s0 : σ} (X : Nat → σ → SL) (φ : Nat → σ → Prop) (n0 : Nat) (hP : ∀ t, T B (X n0 s0) t → T B P t) (h0 : φ n0 s0)
  (h : ∀ n s (c : σ → K), φ n s → (∀ m s', m < n → φ m s' → T B (X m s') (c s')) → T B (X n s) (body s c)) : T B P (lp body s0) := hP _ (Ycz X φ n0 rfl h0 h)
theorem Yek {α : Type} {x y : α} {k : α → K} (h : T B R (k x)) (hP : ∀ t, T B R t → T B P t) (e : x = y) : T B P (k y) := e ▸ hP _ h
/-- one element, of cells told -/
theorem Vhh {Tid E : TypeId} {sz ty : Nat} (hK : Kd Pg Tid E sz) {s : Sl} {vs new : List Value} {k : Sl → K} {E' : TypeId} (hn : new.length = sz) (hsc : new.all scal = true)
  (hlen : vs.length / sz + 1 ≤ 2 ^ 40) (hk : ∀ s', T B (R * vec E sz s' (vs ++ new)) (k s')) :
  T B (R * vec E sz s vs) (alK (.cells new.toArray E') fun b => semT Pg (Builtin.append_ #[Tid, Tid] ty #[s.v, .slice (some ⟨b, 0, none⟩) 1 1]) (.one (.sc .slice)) k) := by
 refine Ya7 fun b => ?_
 refine Yaa (X := vec E sz s vs) (.init .last) ?_
 refine Ybs (x := ⟨some ⟨b, 0, none⟩, 1, 1⟩) (new := new) hK (Rd.one Has.last (by rw [hn]; simp) (Nat.le_refl _)) hsc hlen fun s' => ?_
 exact Yux (hk s')
end
end
def rfOf : Code → Option Code
 |.rangeFunc _ _ _ b => some b
 |.seq a b => (match rfOf a with | some x => some x | none => rfOf b)
 |.block _ c => rfOf c
 |.loop c => rfOf c
 |.scope c => rfOf c
 |.cond _ a b => (match rfOf a with | some x => some x | none => rfOf b)
 |_ => none
def rfBody (f : Func) : Code := match f.body with | some c => (match rfOf c with | some b => b | none => .skip) | none => .skip
def rfQ (kN kR : K) : Exit → Env → K
 |.normal, _ => kN
 |.ret, _ => kR
 |_, _ => kF
section
variable {B : World} {P R : SL} {t : K}
theorem Sat.perm {Q : SL} {w : World} (e : P = Q) (h : Sat B P w) : Sat B Q w := e ▸ h
theorem Ygs {w : World} {r : Nat} {o o' : Obj} (s : Sat B (R * pt r o) w) : Sat B (R * pt r o') (w.putObj r o') := by
 have hr := (s.has (b := r) (o := o) Has.last).1
 have hlt : r < w.heap.size := (Array.getElem?_eq_some_iff.1 hr).1
 refine s.upd Upd.last (World.putObj_heap_same hlt) (fun x hx => World.putObj_heap_other hx) rfl rfl rfl (by simp)
theorem Vce {α : Type} {X : α → SL} {w : World} (h : Sat B (ex X) w) : ∃ x, Sat B (X x) w := by
 obtain ⟨⟨g, ⟨x, hx⟩, hb⟩, k⟩ := h
 exact ⟨x, ⟨g, hx, hb⟩, k⟩
theorem Yds {α : Type} {X : α → SL} {w : World} (x : α) (h : Sat B (X x) w) : Sat B (ex X) w := by
 obtain ⟨⟨g, hx, hb⟩, k⟩ := h
 exact ⟨⟨g, ⟨x, hx⟩, hb⟩, k⟩
theorem Ysw {α : Type} {X : α → SL} {φ : α → Prop} (h : ∀ s, φ s → T B (X s) t) : T B (ex fun s => X s * pu (φ s)) t := by
 intro w hw
 obtain ⟨s, hw⟩ := Vce hw
 have k : T B (X s * pu (φ s)) t := Yz5 fun hφ => h s hφ
 exact k w hw
/-- how a loop's yield answers: on, or no more -/
def Yld (B : World) (Pg : Program) {β : Type} (l : Nat) (enc : β → Array Value) (ok : List β → β → Prop) (I : List β → SL) (J : SL) : Prop :=
 ∀ m pre x W, ok pre x → Sat B (I pre) W → YieldAt Fence.wide m Pg l (enc x) W fun e W' => (e = .returned (.bool true) ∧ Sat B (I (pre ++ [x])) W') ∨ (e = .returned (.bool false) ∧ Sat B J W')
theorem Vf4 {Pg : Program} {β : Type} {l : Nat} {enc : β → Array Value} {ok : List β → β → Prop} {I : List β → SL} {J : SL} (hy : Yld B Pg l enc ok I J) {pre : List β} {x : β} (hok : ok pre x) {k : Bool → K}
  (h1 : T B (I (pre ++ [x])) (k true)) (h0 : T B J (k false)) : T B (I pre) (dyn Pg (Fv.v ⟨.yield l, #[], #[]⟩) (enc x) (.one (.sc .bool)) k) := by
 intro w hw
 refine .inr ⟨l, rfl, (hy 0 pre x w hok hw).mono ?_⟩
 rintro e W' (⟨rfl, hs⟩ | ⟨rfl, hs⟩)
 ·exact ⟨true, rfl, h1 _ hs⟩
 ·exact ⟨false, rfl, h0 _ hs⟩
theorem Vcf {Pg : Program} {β : Type} {g : Operand} {ps : Array Tmp} {assign body : Code} {Q : Exit → Act → World → Prop} {a : Act} {w : World} {n gf : Nat} {lb : Array Value} (hn : 1 ≤ n)
  (hg : a.eval g = .func (.func gf) #[] lb) (eg : ∀ args w, (callFunc gf args).run Pg w = .ok (.enter gf args) w) (enc : β → Array Value) (hps : ∀ x, (enc x).size = ps.size) (ok : List β → β → Prop)
  (I : List β → SL) (J : SL) (all : List β) (h0 : Sat B (I []) w) (Ag : β → Act → Prop)
  (hseq : ∀ (l : Nat) (X X' : SL), Yld B Pg l enc ok (fun pre => I pre * X) (J * X') →
   ∀ W, Sat B (I [] * X) W → CallsIn Fence.wide (n - 1) Pg gf (#[.func (.yield l) #[] #[]] ++ lb) W fun e W' => (∃ v, e = .returned v) ∧ (Sat B (I all * X) W' ∨ Sat B (J * X') W'))
  (hassign : ∀ (m l : Nat) (x : β) (W : World) (K : Act → World → Prop), (∀ a', Ag x a' → K a' W) → assign.wpIn (Fence.wide.inRound l) m Pg (Exit.then K (fun _ _ _ => False)) { tmps := (ps.zip (enc x)).foldl (fun t (p, v) => t.setIfInBounds p v) a.tmps, defers := [] } W)
  (hbody : ∀ (m l : Nat) (pre : List β) (x : β) (W : World) (X : SL) (a' : Act), Ag x a' → ok pre x → Sat B (I pre * X) W → body.wpIn (Fence.wide.inRound l) m Pg (fun e _ W' => (e = .normal ∧ Sat B (I (pre ++ [x]) * X) W') ∨ (e = .ret ∧ Sat B (J * X) W')) a' W)
  (hdone : ∀ (D : Nat) (W : World), Sat B (I all * pt D (.deferred (some []))) W → Q .normal { a with defers := { target := .collected D, args := #[] } :: a.defers } W)
  (hret : ∀ (D : Nat) (W : World), Sat B (J * pt D (.deferred (some []))) W → Q .ret { a with defers := { target := .collected D, args := #[] } :: a.defers } W) :
  (Code.rangeFunc g ps assign body).wpIn Fence.wide n Pg Q a w := by
 refine wpIn_rangeFunc ?_
 intro fn hfn
 rw [show Fence.wide.round = none from rfl]
 obtain ⟨rec, hrec⟩ : ∃ rec : LoopState → Option Code → Loop, rec = fun st pe => { state := st, pending := pe, fn, tmps := a.tmps, params := ps, assign, body, defers := w.heap.size } := ⟨_, rfl⟩
 have s1 : Sat B (I [] * pt w.heap.size (.deferred (some []))) (w.alloc (.deferred (some []))) := h0.alloc
 have s2 : Sat B (I [] * pt w.heap.size (.deferred (some [])) * pt (w.heap.size + 1) (.loop (rec .ready none))) ((w.alloc (.deferred (some []))).alloc (.loop (rec .ready none))) := by
  have := s1.alloc (o := .loop (rec .ready none))
  rwa [World.size_alloc] at this
 obtain ⟨W1, hW1⟩ : ∃ W1, (w.alloc (.deferred (some []))).alloc (.loop (rec .ready none)) = W1 := ⟨_, rfl⟩
 rw [hW1] at s2
 have sw : ∀ o (W : World) (Y : SL), Sat B (Y * (pt w.heap.size (.deferred (some [])) * pt (w.heap.size + 1) o)) W ↔ Sat B (Y * pt w.heap.size (.deferred (some [])) * pt (w.heap.size + 1) o) W := fun o W Y => by rw [Yad]
 refine ⟨w.heap.size + 1, [{ target := .collected w.heap.size, args := #[] }], W1, { target := .fn (.func gf) lb, args := #[.func (.yield (w.heap.size + 1)) #[] #[]] }, W1, gf,
  #[.func (.yield (w.heap.size + 1)) #[] #[]] ++ lb, W1, ?_, ?_, fun _ _ => trivial, ?_, fun _ => hn, ?_⟩
 ·rw [← hW1, hrec]; exact run_enterLoop_outer _ _ _ _ _
 ·simp only [resolve, hg]
  simp [go_sem]
 ·simp [invoke, go_sem, eg]
 ·refine (hseq (w.heap.size + 1) (pt w.heap.size (.deferred (some [])) * pt (w.heap.size + 1) (.loop (rec .ready none))) (pt w.heap.size (.deferred (some [])) * pt (w.heap.size + 1) (.loop (rec .done (some .ret)))) ?_ W1 ((sw _ _ _).2 s2)).mono ?_
  ·intro m pre x W hx hs
   rw [sw] at hs
   have hl : W.heap[w.heap.size + 1]? = some (.loop (rec .ready none)) := (hs.has Has.last).1
   have hy := run_yield (P := Pg) (args := enc x) hl (by rw [hrec]; exact hps x)
   rw [hrec] at hy
   refine ⟨fn, _, assign, body, hy, roundIn_of_wpIn hfn (hassign _ _ x W _ fun a' hAg => ⟨_, run_beginRound hl (by rw [hrec]), ?_⟩)⟩
   have hs2 := Ygs (o' := .loop { rec .ready none with state := .busy }) hs
   rw [← sw] at hs2
   refine wpIn_mono (hbody _ _ pre x _ _ a' hAg hx hs2) ?_
   rintro e a3 W3 (⟨rfl, hs3⟩ | ⟨rfl, hs3⟩)
   ·rw [sw] at hs3
    have hl3 : W3.heap[w.heap.size + 1]? = some (.loop { rec .ready none with state := .busy }) := (hs3.has Has.last).1
    have hend := run_endRound (P := Pg) none hl3
    refine ⟨_, _, hend, .inl ⟨rfl, ?_⟩⟩
    have hs4 := Ygs (o' := .loop (rec .ready none)) hs3
    rw [sw]
    rw [hrec] at hs4 ⊢
    exact hs4
   ·rw [sw] at hs3
    have hl3 : W3.heap[w.heap.size + 1]? = some (.loop { rec .ready none with state := .busy }) := (hs3.has Has.last).1
    have hend := run_endRound (P := Pg) (some .ret) hl3
    refine ⟨_, _, hend, .inr ⟨rfl, ?_⟩⟩
    have hs4 := Ygs (o' := .loop (rec .done (some .ret))) hs3
    rw [sw]
    rw [hrec] at hs4 ⊢
    exact hs4
  ·rintro e W2 ⟨⟨v, rfl⟩, hs | hs⟩
   ·rw [sw] at hs
    have hl : W2.heap[w.heap.size + 1]? = some (.loop (rec .ready none)) := (hs.has Has.last).1
    refine ⟨none, _, by have := run_endLoop (P := Pg) hl (by rw [hrec]; simp); rw [hrec] at this; exact this, ?_⟩
    exact hdone _ _ (Ygs hs).left
   ·rw [sw] at hs
    have hl : W2.heap[w.heap.size + 1]? = some (.loop (rec .done (some .ret))) := (hs.has Has.last).1
    refine ⟨some .ret, _, by have := run_endLoop (P := Pg) hl (by rw [hrec]; simp); rw [hrec] at this; exact this, ?_⟩
    exact wpIn_ret (hret _ _ (Ygs hs).left)
/-- one piece of code behind another one, with slots known -/
theorem Yz6 {Pg : Program} {m n : Nat} {D : List Deferred} {E : Env} {a : Act} {w : World} {c d : Code} {t : K} {Q : Exit → Act → World → Prop} (l : List (Nat × Sg)) (cl : List Nat) (t2 : Tup l → K)
  (h1 : RefK Pg m c E t (thenQ (fun E' => getAll l E' t2) (fun _ _ => kF))) (ha : Agree D m E a) (ht : t w) (hc : clean (wr c) cl = true)
  (h2 : ∀ x a' w', Agree D m (encE l x ++ pick E cl) a' → t2 x w' → d.wpIn Fence.wide n Pg Q a' w') : (Code.seq c d).wpIn Fence.wide n Pg Q a w := by
 refine wpIn_seq (h1 none n D _ a w ha ht fun e E' a' w' ha' hf h => ?_)
 cases e <;> try exact h.elim
 obtain ⟨x, hs, h⟩ := Ygx h
 exact h2 x a' w' (carry ha (ha'.sub hs) hf hc) h
/-- the round's parameter, assigned -/
theorem Vcg {Pg : Program} {m n lp p : Nat} {D : List Deferred} {E : Env} {a : Act} {W : World} {c : Code} {v : Value} {K : Act → World → Prop} (l : List (Nat × Sg)) (cl : List Nat) (z : Tup l) (ha : Agree D n E a) (hp : p < n)
  (h1 : RefK Pg n c (E.put (some p) v) (fun w => z = z ∧ w = W) (thenQ (fun E' => getAll l E' (fun x w => x = z ∧ w = W)) (fun _ _ => kF)))
  (hc : clean (wr c) cl = true) (hK : ∀ a', Agree [] n (encE l z ++ pick (E.put (some p) v) cl) a' → K a' W) {T : Array Value} (hT : T = a.tmps.setIfInBounds p v) :
  c.wpIn (Fence.wide.inRound lp) m Pg (Exit.then K (fun _ _ _ => False)) { tmps := T, defers := [] } W := by
 subst hT
 have ha0 : Agree [] n E { tmps := a.tmps, defers := [] } := ⟨rfl, ha.2.1, ha.2.2⟩
 have ha1 : Agree [] n (E.put (some p) v) { tmps := a.tmps.setIfInBounds p v, defers := [] } := ha0.put (dst := some p) fun d hd => by cases hd; exact hp
 refine h1 (some lp) m [] _ _ W ha1 ⟨rfl, rfl⟩ fun e E' a' w' ha' hf h => ?_
 cases e <;> try exact h.elim
 obtain ⟨x, hs, rfl, rfl⟩ := Ygx h
 exact hK a' (carry ha1 (ha'.sub hs) hf hc)
/-- behind a range over a function: the mark is come to, the results are read -/
theorem Vf5 {Pg : Program} {fn : Func} {m n D : Nat} {a : Act} {E : Env} {S : SL} {W : World} {r : RSh} {k : r.T → K} (ha : Agree [{ target := .collected D, args := #[] }] m E a) (hs : Sat B (S * pt D (.deferred (some []))) W)
  (hk : T B S (resK Pg fn.results.toList E [] fun vs => decR r (packR vs) k)) :
  LeavesInM Fence.wide n Pg fn a.tmps (fun e w' => ∃ x : r.T, e = .returned (r.enc x) ∧ k x w') a.defers .returning W := by
 have hK : W.heap[D]? = some (.deferred (some [])) := (hs.has Has.last).1
 have hs2 := (Ygs (o' := .deferred none) hs).left
 obtain ⟨v, hr, hd⟩ := Yyn (fn := fn) (k := fun v => decR r v k) ha (hk _ hs2)
 obtain ⟨x, hx, hkx⟩ := Ywi hd
 rw [ha.1]
 refine ⟨by simp, .inl ⟨_, _, rfl, run_takeDeferred hK, ?_⟩⟩
 exact ⟨_, hr, x, by rw [hx], hkx⟩
end
section
set_option maxRecDepth 100000
def Yez (x0 : Int) (x1 : Sl) (x2 : Sl) : M Bool := cl Tryz.prog 4 #[.int .i8 x0, x1.v, x2.v] (.one (.sc (.bool)))
def Yip : M Bool := cl Tryz.prog 9 #[] (.one (.sc (.bool)))
def Ygi (blocks : Int) (most : Int) : M ((OA × (OA × (Sl × (OA × OA)))) × Bool) := cl Tryz.prog 10 #[.int .i64 blocks, .int .i64 most] (.tup [.agg [.ptr, .ptr, .slice, .ptr, .ptr], .sc (.bool)])
def Ygy (x0 : (OA × (OA × (Sl × (OA × OA))))) (x1 : (Int × (Int × (Int × (Int × Int))))) : M Bool := cl Tryz.prog 11 #[.agg #[.pointer x0.1, .pointer x0.2.1, x0.2.2.1.v, .pointer x0.2.2.2.1, .pointer x0.2.2.2.2], .agg #[.int .i64 x1.1, .int .i64 x1.2.1, .int .i64 x1.2.2.1, .int .i64 x1.2.2.2.1, .int .i64 x1.2.2.2.2]] (.one (.sc (.bool)))
def Yan (a : OA) : M Sl := cl Tryz.prog 12 #[.pointer a] (.one (.sc (.slice)))
def Ybf (t : OA) : M Int := cl Tryz.prog 13 #[.pointer t] (.one (.sc (.int .i64)))
def Yc9 (c : OA) : M Int := cl Tryz.prog 14 #[.pointer c] (.one (.sc (.int .i64)))
def Yda (c : OA) : M Int := cl Tryz.prog 15 #[.pointer c] (.one (.sc (.int .i64)))
def Ya9 (c : OA) (steps : Int) : M (Bool × Int) := cl Tryz.prog 16 #[.pointer c, .int .i64 steps] (.tup [.sc (.bool), .sc (.int .i64)])
def Ygz (l : Sl) (gone : Sl) : M Sl := cl Tryz.prog 17 #[l.v, gone.v] (.one (.sc (.slice)))
def Yd1 (r : (OA × (OA × (Sl × (OA × OA))))) : M Sl := cl Tryz.prog 18 #[.agg #[.pointer r.1, .pointer r.2.1, r.2.2.1.v, .pointer r.2.2.2.1, .pointer r.2.2.2.2]] (.one (.sc (.slice)))
def Ycg (x0 : OA) : M Int := cl Tryz.prog 19 #[.pointer x0] (.one (.sc (.int .i64)))
def Yc1 (c : OA) : M Int := cl Tryz.prog 20 #[.pointer c] (.one (.sc (.int .i64)))
def Ybo (x0 : OA) (x1 : Int) (x2 : Int) : M Int := cl Tryz.prog 24 #[.pointer x0, .int .i64 x1, .int .i64 x2] (.one (.sc (.int .i64)))
def Ydb (c : OA) (at_1 : Int) : M Unit := cl Tryz.prog 25 #[.pointer c, .int .i64 at_1] (.tup [])
def Yc2 (c : OA) (at_1 : Int) : M Int := cl Tryz.prog 26 #[.pointer c, .int .i64 at_1] (.one (.sc (.int .i64)))
def Ybp (a : OA) (at_1 : Int) : M Bool := cl Tryz.prog 27 #[.pointer a, .int .i64 at_1] (.one (.sc (.bool)))
def Yj9 (a : Sl) (b : Sl) : M Bool := cl Tryz.prog 28 #[a.v, b.v] (.one (.sc (.bool)))
def Yb3 (x0 : OA) (x1 : Int) (x2 : Int) (x3 : Int) : M (Int × Int) := cl Tryz.prog 32 #[.pointer x0, .int .i64 x1, .int .i64 x2, .int .i64 x3] (.tup [.sc (.int .i64), .sc (.int .i64)])
def Yft (o : (Int × Int)) : M Int := cl Tryz.prog 34 #[.agg #[.int .i64 o.1, .int .i64 o.2]] (.one (.sc (.int .i64)))
def Ydp (t : OA) : M Sl := cl Tryz.prog 36 #[.pointer t] (.one (.sc (.slice)))
def Yd2 (w_1 : (OA × (OA × Sl))) : M (Sl × (Sl × (Sl × (Sl × (Sl × (Int × (Int × Bool))))))) := cl Tryz.prog 50 #[.agg #[.pointer w_1.1, .pointer w_1.2.1, w_1.2.2.v]] (.one (.agg [.slice, .slice, .slice, .slice, .slice, .int .i64, .int .i64, .bool]))
def Ybw (d : OA) (at_1 : Int) : M Int := cl Tryz.prog 53 #[.pointer d, .int .i64 at_1] (.one (.sc (.int .u64)))
def Ya5 (d : OA) (at_1 : Int) (w_1 : Int) : M Int := cl Tryz.prog 54 #[.pointer d, .int .i64 at_1, .int .u64 w_1] (.one (.sc (.int .i64)))
def Ye0 (d : OA) (at_1 : Int) : M ((Int × Int) × Int) := cl Tryz.prog 55 #[.pointer d, .int .i64 at_1] (.tup [.agg [.int .i64, .int .i64], .sc (.int .i64)])
def Yhk (x0 : OA) (x1 : Int) (x2 : Sl) (x3 : Int) : M ((Int × Int) × Bool) := cl Tryz.prog 56 #[.pointer x0, .agg #[.int .i64 x1], x2.v, .int .i64 x3] (.tup [.agg [.int .i64, .int .i64], .sc (.bool)])
def Ydc (m : OA) : M Int := cl Tryz.prog 57 #[.pointer m] (.one (.agg [.int .i64]))
def Ydd (c : OA) : M Int := cl Tryz.prog 58 #[.pointer c] (.one (.sc (.int .i64)))
def Yiq (n : Int) : M ((OA × (OA × Sl)) × Bool) := cl Tryz.prog 59 #[.int .i64 n] (.tup [.agg [.ptr, .ptr, .slice], .sc (.bool)])
def Ymo (a : OA) (most : Int) (roots : Fv) : M OA := cl Tryz.prog 60 #[.pointer a, .int .i64 most, roots.v] (.one (.sc (.ptr)))
def Yka (cap0 : Addr) : M Sl := cl Tryz.prog 61 #[.pointer (some cap0)] (.one (.sc (.slice)))
def Ygj (i : Int) : M Int := cl Tryz.prog 62 #[.int .i64 i] (.one (.sc (.int .i64)))
def Ydk (c : OA) (at_1 : Int) : M Unit := cl Tryz.prog 63 #[.pointer c, .int .i64 at_1] (.tup [])
def Yfu (d : OA) (at_1 : Int) (i : Int) : M (Int × Int) := cl Tryz.prog 64 #[.pointer d, .int .i64 at_1, .int .i64 i] (.tup [.sc (.int .i64), .sc (.int .i64)])
def Yc3 (c : OA) (at_1 : Int) : M Unit := cl Tryz.prog 65 #[.pointer c, .int .i64 at_1] (.tup [])
def Ye1 (d : OA) (at_1 : Int) (i : Int) (to : Int) : M Int := cl Tryz.prog 66 #[.pointer d, .int .i64 at_1, .int .i64 i, .int .i64 to] (.one (.sc (.int .i64)))
def Yhz (s : OA) : M Sl := cl Tryz.prog 67 #[.pointer s] (.one (.sc (.slice)))
def Ykb (d : (Sl × (Sl × (Sl × (Sl × (Sl × (Int × (Int × Bool)))))))) (used : Sl) (from_1 : Sl) : M Sl := cl Tryz.prog 68 #[.agg #[d.1.v, d.2.1.v, d.2.2.1.v, d.2.2.2.1.v, d.2.2.2.2.1.v, .int .i64 d.2.2.2.2.2.1, .int .i64 d.2.2.2.2.2.2.1, .bool d.2.2.2.2.2.2.2], used.v, from_1.v] (.one (.sc (.slice)))
def Yeu (m : OA) : M Unit := cl Tryz.prog 69 #[.pointer m] (.tup [])
def Ya2 (c : OA) : M Bool := cl Tryz.prog 70 #[.pointer c] (.one (.sc (.bool)))
def Ye2 (m : OA) : M Bool := cl Tryz.prog 71 #[.pointer m] (.one (.sc (.bool)))
def Ydt (s : OA) : M Unit := cl Tryz.prog 72 #[.pointer s] (.tup [])
def Yd9 (s : OA) : M Int := cl Tryz.prog 73 #[.pointer s] (.one (.sc (.int .i64)))
def Ycw (s : OA) : M Bool := cl Tryz.prog 74 #[.pointer s] (.one (.sc (.bool)))
def Yb4 (a : OA) (at_1 : Int) : M ((Int × Int) × Bool) := cl Tryz.prog 76 #[.pointer a, .int .i64 at_1] (.tup [.agg [.int .i64, .int .i64], .sc (.bool)])
def Yaw (s : OA) (at_1 : Int) : M Bool := cl Tryz.prog 77 #[.pointer s, .int .i64 at_1] (.one (.sc (.bool)))
def Ybj (o : (Int × Int)) : M (Int × Bool) := cl Tryz.prog 78 #[.agg #[.int .i64 o.1, .int .i64 o.2]] (.tup [.sc (.int .i64), .sc (.bool)])
def Ych (m : OA) (block : Int) : M Int := cl Tryz.prog 79 #[.pointer m, .int .i64 block] (.one (.sc (.int .i64)))
def Ya3 (g : Int) (at_1 : Int) : M Int := cl Tryz.prog 80 #[.agg #[.int .i64 g], .int .i64 at_1] (.one (.sc (.int .i64)))
def Yb6 (s : OA) (at_1 : Int) : M Bool := cl Tryz.prog 81 #[.pointer s, .int .i64 at_1] (.one (.sc (.bool)))
def Yc4 (l : OA) (k_1 : Int) (at_1 : Int) : M Int := cl Tryz.prog 82 #[.pointer l, .int .i64 k_1, .int .i64 at_1] (.one (.sc (.int .i64)))
def Yga (x0 : OA) (x1 : Int) (x2 : Int) (x3 : Int) : M Int := cl Tryz.prog 83 #[.pointer x0, .int .i64 x1, .int .i64 x2, .int .i64 x3] (.one (.sc (.int .i64)))
def Yea (m : OA) (at_1 : Int) : M Unit := cl Tryz.prog 84 #[.pointer m, .int .i64 at_1] (.tup [])
def Ybk (m : OA) (at_1 : Int) : M Int := cl Tryz.prog 85 #[.pointer m, .int .i64 at_1] (.one (.sc (.int .i64)))
def Yav (o : (Int × Int)) : M Int := cl Tryz.prog 86 #[.agg #[.int .i64 o.1, .int .i64 o.2]] (.one (.sc (.int .i64)))
def Yeb (g : Int) : M Int := cl Tryz.prog 87 #[.agg #[.int .i64 g]] (.one (.sc (.int .i64)))
def Ycn (o : (Int × Int)) : M Int := cl Tryz.prog 88 #[.agg #[.int .i64 o.1, .int .i64 o.2]] (.one (.sc (.int .i64)))
def Yci (x0 : OA) (x1 : Int) (x2 : (Int × Int)) : M (Int × Int) := cl Tryz.prog 89 #[.pointer x0, .int .i64 x1, .agg #[.int .i64 x2.1, .int .i64 x2.2]] (.tup [.sc (.int .i64), .sc (.int .i64)])
def Yir (d : OA) (at_1 : Int) (o : (Int × Int)) : M Int := cl Tryz.prog 90 #[.pointer d, .int .i64 at_1, .agg #[.int .i64 o.1, .int .i64 o.2]] (.one (.sc (.int .i64)))
def Ybl (s : OA) (at_1 : Int) : M Bool := cl Tryz.prog 91 #[.pointer s, .int .i64 at_1] (.one (.sc (.bool)))
def Yde (k_1 : Int) : M Int := cl Tryz.prog 93 #[.int .i64 k_1] (.one (.sc (.int .i64)))
def Ya8 (k_1 : Int) : M Bool := cl Tryz.prog 100 #[.int .i64 k_1] (.one (.sc (.bool)))
def Ygk (k_1 : Int) : M Int := cl Tryz.prog 102 #[.int .i64 k_1] (.one (.sc (.int .i64)))
def Ydl (a : OA) (block : Int) : M (Bool × Int) := cl Tryz.prog 104 #[.pointer a, .int .i64 block] (.tup [.sc (.bool), .sc (.int .i64)])
def Ybu (a : OA) : M OA := cl Tryz.prog 106 #[.pointer a] (.one (.sc (.ptr)))
def Ykc (d : (Sl × (Sl × (Sl × (Sl × (Sl × (Int × (Int × Bool)))))))) (at_1 : Int) : M ((Int × Int) × Bool) := cl Tryz.prog 110 #[.agg #[d.1.v, d.2.1.v, d.2.2.1.v, d.2.2.2.1.v, d.2.2.2.2.1.v, .int .i64 d.2.2.2.2.2.1, .int .i64 d.2.2.2.2.2.2.1, .bool d.2.2.2.2.2.2.2], .int .i64 at_1] (.tup [.agg [.int .i64, .int .i64], .sc (.bool)])
def Yat (d : OA) : M Int := cl Tryz.prog 112 #[.pointer d] (.one (.sc (.int .i64)))
def Ykd (words : Sl) : M (Sl × (Sl × (Sl × (Sl × (Sl × (Int × (Int × Bool))))))) := cl Tryz.prog 113 #[words.v] (.one (.agg [.slice, .slice, .slice, .slice, .slice, .int .i64, .int .i64, .bool]))
def Yc5 (d : OA) : M Bool := cl Tryz.prog 115 #[.pointer d] (.one (.sc (.bool)))
def Yhl (at_1 : Int) (w_1 : Int) : M ((Int × Int) × Int) := cl Tryz.prog 116 #[.int .i64 at_1, .int .u64 w_1] (.tup [.agg [.int .i64, .int .i64], .sc (.int .i64)])
def Yo6 (g : Int) (k_1 : Int) (at_1 : Int) : M ((Int × Int) × Bool) := cl Tryz.prog 117 #[.agg #[.int .i64 g], .int .i64 k_1, .int .i64 at_1] (.tup [.agg [.int .i64, .int .i64], .sc (.bool)])
def Ygl (list : Sl) (block : Int) : M (Int × Bool) := cl Tryz.prog 118 #[list.v, .int .i64 block] (.tup [.sc (.int .i64), .sc (.bool)])
def Yba (g : Int) (block : Int) : M Int := cl Tryz.prog 119 #[.agg #[.int .i64 g], .int .i64 block] (.one (.sc (.int .i64)))
def Yrc (words : Int) : M OA := cl Tryz.prog 120 #[.int .i64 words] (.one (.sc (.ptr)))
def Yco (g : Int) : M Int := cl Tryz.prog 121 #[.agg #[.int .i64 g]] (.one (.sc (.int .i64)))
def Yg0 (d : OA) (g : Int) : M Int := cl Tryz.prog 122 #[.pointer d, .agg #[.int .i64 g]] (.one (.sc (.int .i64)))
def Ymp (d : OA) (g : Int) : M (OA × Int) := cl Tryz.prog 123 #[.pointer d, .agg #[.int .i64 g]] (.tup [.sc (.ptr), .sc (.int .i64)])
def Ymq (x0 : OA) (x1 : OA) (x2 : Sl) : M (OA × Int) := cl Tryz.prog 124 #[.pointer x0, .pointer x1, x2.v] (.tup [.sc (.ptr), .sc (.int .i64)])
def Yo7 (a : OA) (most : Int) : M OA := cl Tryz.prog 125 #[.pointer a, .int .i64 most] (.one (.sc (.ptr)))
def Ymr (a : OA) (m : OA) : M OA := cl Tryz.prog 126 #[.pointer a, .pointer m] (.one (.sc (.ptr)))
def Ydu (m : OA) (at_1 : Int) : M Unit := cl Tryz.prog 127 #[.pointer m, .int .i64 at_1] (.tup [])
def Yfo (d : OA) (at_1 : Int) (i : Int) (data : Bool) : M (Int × Int) := cl Tryz.prog 128 #[.pointer d, .int .i64 at_1, .int .i64 i, .bool data] (.tup [.sc (.int .i64), .sc (.int .i64)])
def Yb9 (m : OA) (at_1 : Int) : M Bool := cl Tryz.prog 129 #[.pointer m, .int .i64 at_1] (.one (.sc (.bool)))
def Ygb (s : OA) : M Fv := cl Tryz.prog 130 #[.pointer s] (.one (.sc (.func)))
def Yis (x0 : (Sl × (Sl × (Sl × (Sl × (Sl × (Int × (Int × Bool)))))))) (x1 : Sl) (x2 : Sl) (x3 : Sl) : M Sl := cl Tryz.prog 131 #[.agg #[x0.1.v, x0.2.1.v, x0.2.2.1.v, x0.2.2.2.1.v, x0.2.2.2.2.1.v, .int .i64 x0.2.2.2.2.2.1, .int .i64 x0.2.2.2.2.2.2.1, .bool x0.2.2.2.2.2.2.2], x1.v, x2.v, x3.v] (.one (.sc (.slice)))
def Ydq (s : OA) : M Unit := cl Tryz.prog 132 #[.pointer s] (.tup [])
def Ydf (s : OA) : M Unit := cl Tryz.prog 133 #[.pointer s] (.tup [])
def Ye3 (s : OA) : M Int := cl Tryz.prog 134 #[.pointer s] (.one (.sc (.int .i64)))
def Ycp (s : OA) : M (Int × Bool) := cl Tryz.prog 135 #[.pointer s] (.tup [.sc (.int .i64), .sc (.bool)])
def Ydr (m : OA) (at_1 : Int) : M Unit := cl Tryz.prog 136 #[.pointer m, .int .i64 at_1] (.tup [])
def Ye4 (m : OA) : M (Int × Bool) := cl Tryz.prog 137 #[.pointer m] (.tup [.sc (.int .i64), .sc (.bool)])
def Ycq (s : OA) (block : Int) : M Sl := cl Tryz.prog 138 #[.pointer s, .int .i64 block] (.one (.sc (.slice)))
def Ye5 (s : OA) (at_1 : Int) : M Bool := cl Tryz.prog 139 #[.pointer s, .int .i64 at_1] (.one (.sc (.bool)))
def Ylt (words : Int) : M (Int × Bool) := cl Tryz.prog 140 #[.int .i64 words] (.tup [.sc (.int .i64), .sc (.bool)])
def Ycr (t : OA) (block : Int) : M (Int × (Int × Int)) := cl Tryz.prog 141 #[.pointer t, .int .i64 block] (.one (.agg [.int .i64, .int .i64, .int .i64]))
def Ya6 (x0 : OA) (x1 : Int) (x2 : Sl) : M Int := cl Tryz.prog 142 #[.pointer x0, .int .i64 x1, x2.v] (.one (.sc (.int .i64)))
def Yb7 (x0 : OA) (x1 : Int) (x2 : Int) : M Int := cl Tryz.prog 143 #[.pointer x0, .int .i64 x1, .int .i64 x2] (.one (.sc (.int .i64)))
def Yeq (l : OA) (k_1 : Int) (at_1 : Int) : M Bool := cl Tryz.prog 144 #[.pointer l, .int .i64 k_1, .int .i64 at_1] (.one (.sc (.bool)))
def Yg9 (mutator : Int) (k_1 : Int) : M Bool := cl Tryz.prog 145 #[.int .i64 mutator, .int .i64 k_1] (.one (.sc (.bool)))
def Ybg (s : Sl) : M Sl := cl Tryz.prog 146 #[s.v] (.one (.sc (.slice)))
def Yke (ptrs : Int) (datas : Int) : M (Int × Int) := cl Tryz.prog 147 #[.int .i64 ptrs, .int .i64 datas] (.tup [.sc (.int .i64), .sc (.int .i64)])
def Ykf (n : Int) (size : Int) : M Int := cl Tryz.prog 148 #[.int .i64 n, .int .i64 size] (.one (.sc (.int .i64)))
def Yec (m : OA) (n : Int) : M (Int × Int) := cl Tryz.prog 149 #[.pointer m, .int .i64 n] (.tup [.sc (.int .i64), .sc (.int .i64)])
def Yc6 (x0 : OA) (x1 : Int) (x2 : Int) : M (Int × Int) := cl Tryz.prog 150 #[.pointer x0, .int .i64 x1, .int .i64 x2] (.tup [.sc (.int .i64), .sc (.int .i64)])
def Yed (m : OA) (k_1 : Int) : M (Int × Int) := cl Tryz.prog 151 #[.pointer m, .int .i64 k_1] (.tup [.sc (.int .i64), .sc (.int .i64)])
def Ybh (a : OA) (block : Int) (k_1 : Int) : M Unit := cl Tryz.prog 152 #[.pointer a, .int .i64 block, .int .i64 k_1] (.tup [])
def Yb5 (a : OA) (mutator : Int) (k_1 : Int) : M (Int × Int) := cl Tryz.prog 153 #[.pointer a, .int .i64 mutator, .int .i64 k_1] (.tup [.sc (.int .i64), .sc (.int .i64)])
def Ycs (o : (Int × Int)) (at_1 : Int) : M Int := cl Tryz.prog 154 #[.agg #[.int .i64 o.1, .int .i64 o.2], .int .i64 at_1] (.one (.sc (.int .u64)))
def Yit : M (List Value) := cl Tryz.prog 155 #[] (.one (.blob))
def Yfk (l : OA) (k_1 : Int) : M Sl := cl Tryz.prog 157 #[.pointer l, .int .i64 k_1] (.one (.sc (.slice)))
def Yee (s : OA) (from_1 : Int) (to : Int) : M Int := cl Tryz.prog 162 #[.pointer s, .int .i64 from_1, .int .i64 to] (.one (.sc (.int .i64)))
def Yev (x0 : OA) (x1 : Int) (x2 : Int) (x3 : Int) : M Int := cl Tryz.prog 163 #[.pointer x0, .int .i64 x1, .int .i64 x2, .int .i64 x3] (.one (.sc (.int .i64)))
def Yhm (block : Int) (w_1 : Int) : M ((Int × (Int × Int)) × Int) := cl Tryz.prog 164 #[.int .i64 block, .int .u64 w_1] (.tup [.agg [.int .i64, .int .i64, .int .i64], .sc (.int .i64)])
def Ya0 (g : Int) (block : Int) : M Int := cl Tryz.prog 165 #[.agg #[.int .i64 g], .int .i64 block] (.one (.sc (.int .i64)))
def Ykg (list : Sl) : M (Int × Bool) := cl Tryz.prog 167 #[list.v] (.tup [.sc (.int .i64), .sc (.bool)])
def Yhn (at_1 : Int) (w_1 : Int) : M ((Int × Int) × Int) := cl Tryz.prog 170 #[.int .i64 at_1, .int .u64 w_1] (.tup [.agg [.int .i64, .int .i64], .sc (.int .i64)])
def Yiu (l : Sl) (at_1 : Int) : M Int := cl Tryz.prog 171 #[l.v, .int .i64 at_1] (.one (.sc (.int .u64)))
def Ylu (w_1 : Int) (place : Int) : M (Int × Bool) := cl Tryz.prog 172 #[.int .u64 w_1, .int .i64 place] (.tup [.sc (.int .u32), .sc (.bool)])
def Yex (w_1 : Int) (at_1 : Int) (width : Int) : M Int := cl Tryz.prog 173 #[.int .u64 w_1, .int .i64 at_1, .int .i64 width] (.one (.sc (.int .u64)))
def Yef (g : Int) (at_1 : Int) : M Bool := cl Tryz.prog 174 #[.agg #[.int .i64 g], .int .i64 at_1] (.one (.sc (.bool)))
def Ye6 (g : Int) (k_1 : Int) (c : (Int × Int)) : M Int := cl Tryz.prog 175 #[.agg #[.int .i64 g], .int .i64 k_1, .agg #[.int .i64 c.1, .int .i64 c.2]] (.one (.sc (.int .i64)))
def Yo8 (words : Sl) : M OA := cl Tryz.prog 176 #[words.v] (.one (.sc (.ptr)))
def Yel (block : Int) (h : (Int × (Int × Int))) : M Int := cl Tryz.prog 177 #[.int .i64 block, .agg #[.int .i64 h.1, .int .i64 h.2.1, .int .i64 h.2.2]] (.one (.sc (.int .u64)))
def Ycx (d : OA) (at_1 : Int) (words : Int) : M Int := cl Tryz.prog 178 #[.pointer d, .int .i64 at_1, .int .i64 words] (.one (.sc (.int .i64)))
def Yiv (d : OA) (g : Int) : M (OA × Int) := cl Tryz.prog 179 #[.pointer d, .agg #[.int .i64 g]] (.tup [.sc (.ptr), .sc (.int .i64)])
def Yms (limit : Int) (list : Sl) : M (OA × Int) := cl Tryz.prog 180 #[.int .i64 limit, list.v] (.tup [.sc (.ptr), .sc (.int .i64)])
def Yeg (t : OA) : M Sl := cl Tryz.prog 181 #[.pointer t] (.one (.sc (.slice)))
def Yfv (limit : Int) : M OA := cl Tryz.prog 182 #[.int .i64 limit] (.one (.sc (.ptr)))
def Yo9 : M OA := cl Tryz.prog 183 #[] (.one (.sc (.ptr)))
def Yg1 (most : Int) : M OA := cl Tryz.prog 184 #[.int .i64 most] (.one (.sc (.ptr)))
def Yha (o : (Int × Int)) (i : Int) : M (Int × Bool) := cl Tryz.prog 185 #[.agg #[.int .i64 o.1, .int .i64 o.2], .int .i64 i] (.tup [.sc (.int .i64), .sc (.bool)])
def Ymt (o : (Int × Int)) (i : Int) : M (Int × Bool) := cl Tryz.prog 186 #[.agg #[.int .i64 o.1, .int .i64 o.2], .int .i64 i] (.tup [.sc (.int .i64), .sc (.bool)])
def Ydm (s : OA) (x : Int) : M Bool := cl Tryz.prog 187 #[.pointer s, .int .i64 x] (.one (.sc (.bool)))
def Yhb (yield : Fv) (cap0 : Addr) : M Unit := cl Tryz.prog 188 #[yield.v, .pointer (some cap0)] (.tup [])
def Yap (s : OA) (at_1 : Int) : M (Int × Bool) := cl Tryz.prog 189 #[.pointer s, .int .i64 at_1] (.tup [.sc (.int .i64), .sc (.bool)])
def Ydv (l : Sl) (at_1 : Int) : M Bool := cl Tryz.prog 190 #[l.v, .int .i64 at_1] (.one (.sc (.bool)))
def Ykh (d : (Sl × (Sl × (Sl × (Sl × (Sl × (Int × (Int × Bool)))))))) (at_1 : Int) : M Sl := cl Tryz.prog 191 #[.agg #[d.1.v, d.2.1.v, d.2.2.1.v, d.2.2.2.1.v, d.2.2.2.2.1.v, .int .i64 d.2.2.2.2.2.1, .int .i64 d.2.2.2.2.2.2.1, .bool d.2.2.2.2.2.2.2], .int .i64 at_1] (.one (.sc (.slice)))
def Yiw (d : OA) (at_1 : Int) : M (Sl × Int) := cl Tryz.prog 192 #[.pointer d, .int .i64 at_1] (.tup [.sc (.slice), .sc (.int .i64)])
def Ybq (a : OA) (at_1 : Int) : M (Int × Bool) := cl Tryz.prog 193 #[.pointer a, .int .i64 at_1] (.tup [.sc (.int .i64), .sc (.bool)])
def Yki : M Int := cl Tryz.prog 194 #[] (.one (.sc (.int .i64)))
def Ybz (h : (Int × (Int × Int))) : M Bool := cl Tryz.prog 195 #[.agg #[.int .i64 h.1, .int .i64 h.2.1, .int .i64 h.2.2]] (.one (.sc (.bool)))
def Ygc (x : OA) (block : Int) : M Bool := cl Tryz.prog 196 #[.pointer x, .int .i64 block] (.one (.sc (.bool)))
def Yb8 (x : OA) (start : Int) : M Unit := cl Tryz.prog 197 #[.pointer x, .int .i64 start] (.tup [])
def Yck (x : OA) (start : Int) (n : Int) : M Unit := cl Tryz.prog 198 #[.pointer x, .int .i64 start, .int .i64 n] (.tup [])
def Ybm (s : Sl) (v : Int) : M Bool := cl Tryz.prog 199 #[s.v, .int .i64 v] (.one (.sc (.bool)))
def Yd3 (x0 : OA) (x1 : Int) : M (Int × Int) := cl Tryz.prog 200 #[.pointer x0, .int .i64 x1] (.tup [.sc (.int .i64), .sc (.int .i64)])
def Ymu (many : Int) : M Sl := cl Tryz.prog 201 #[.int .i64 many] (.one (.sc (.slice)))
def Ygd (l : OA) (mutator : Int) (k_1 : Int) : M Int := cl Tryz.prog 202 #[.pointer l, .int .i64 mutator, .int .i64 k_1] (.one (.sc (.int .i64)))
def Ye7 (l : OA) (mutator : Int) : M Unit := cl Tryz.prog 203 #[.pointer l, .int .i64 mutator] (.tup [])
def Yey (w_1 : Int) (at_1 : Int) (width : Int) (n : Int) : M Int := cl Tryz.prog 204 #[.int .u64 w_1, .int .i64 at_1, .int .i64 width, .int .u64 n] (.one (.sc (.int .u64)))
def Yh0 (n : Int) (place : Int) : M Int := cl Tryz.prog 205 #[.int .u32 n, .int .i64 place] (.one (.sc (.int .u64)))
def Ycj (x : Sl) : M Unit := cl Tryz.prog 206 #[x.v] (.tup [])
def Yer (l : OA) (k_1 : Int) : M Int := cl Tryz.prog 209 #[.pointer l, .int .i64 k_1] (.one (.sc (.int .i64)))
def Yfw (at_1 : Int) (cap0 : Addr) (cap1 : Addr) : M Bool := cl Tryz.prog 210 #[.int .i64 at_1, .pointer (some cap0), .pointer (some cap1)] (.one (.sc (.bool)))
def Ybd (s : Sl) (del : Fv) : M Sl := cl Tryz.prog 211 #[s.v, del.v] (.one (.sc (.slice)))
def Ykj (w_1 : Int) (place : Int) : M (Int × Bool) := cl Tryz.prog 214 #[.int .u64 w_1, .int .i64 place] (.tup [.sc (.int .u32), .sc (.bool)])
def Yho (o : (Int × Int)) (at_1 : Int) : M Int := cl Tryz.prog 215 #[.agg #[.int .i64 o.1, .int .i64 o.2], .int .i64 at_1] (.one (.sc (.int .u64)))
def Yix (width : Int) : M Int := cl Tryz.prog 216 #[.int .i64 width] (.one (.sc (.int .u64)))
def Yab (s : Sl) : M Sl := cl Tryz.prog 217 #[s.v] (.one (.sc (.slice)))
def Ye8 (d : OA) (line : Int) : M Int := cl Tryz.prog 218 #[.pointer d, .int .i64 line] (.one (.sc (.int .i64)))
def Ye9 (d : OA) : M Int := cl Tryz.prog 219 #[.pointer d] (.one (.sc (.int .i64)))
def Yiy (d : OA) (g : Int) : M (Sl × (Int × Int)) := cl Tryz.prog 220 #[.pointer d, .agg #[.int .i64 g]] (.tup [.sc (.slice), .sc (.int .i64), .sc (.int .i64)])
def Ypa (limit : Int) : M OA := cl Tryz.prog 221 #[.int .i64 limit] (.one (.sc (.ptr)))
def Yhp (list : Sl) : M Sl := cl Tryz.prog 222 #[list.v] (.one (.sc (.slice)))
def Yiz (w_1 : Int) : M Int := cl Tryz.prog 223 #[.int .u64 w_1] (.one (.sc (.int .i64)))
def Ymv (w_1 : Int) : M Int := cl Tryz.prog 224 #[.int .u64 w_1] (.one (.sc (.int .i64)))
def Ydg (s : Sl) (v : Int) : M Int := cl Tryz.prog 225 #[s.v, .int .i64 v] (.one (.sc (.int .i64)))
def Ymw (list : Sl) : M Int := cl Tryz.prog 226 #[list.v] (.one (.sc (.int .u32)))
def Yca (s : Sl) (f : Fv) : M Int := cl Tryz.prog 230 #[s.v, f.v] (.one (.sc (.int .i64)))
def Yhc (n : Int) (place : Int) : M Int := cl Tryz.prog 232 #[.int .u32 n, .int .i64 place] (.one (.sc (.int .u64)))
def Ybb (d : OA) (words : Sl) (line : Int) : M Sl := cl Tryz.prog 233 #[.pointer d, words.v, .int .i64 line] (.one (.sc (.slice)))
def Ybx (s1 : Sl) (s2 : Sl) : M Bool := cl Tryz.prog 234 #[s1.v, s2.v] (.one (.sc (.bool)))
def Ykk (w_1 : Int) : M Int := cl Tryz.prog 235 #[.int .u64 w_1] (.one (.sc (.int .i64)))
def Yww (data : Sl) : M Int := cl Tryz.prog 236 #[data.v] (.one (.sc (.int .u32)))
def Ykl (words : Sl) : M Sl := cl Tryz.prog 237 #[words.v] (.one (.sc (.slice)))
def Yny (l : Sl) : M Int := cl Tryz.prog 257 #[l.v] (.one (.sc (.int .u32)))
def Ypb (sum : Int) (data : Sl) : M Int := cl Tryz.prog 258 #[.int .u32 sum, data.v] (.one (.sc (.int .u32)))
def Ykm (sum : Int) (data : Sl) : M Int := cl Tryz.prog 268 #[.int .u32 sum, data.v] (.one (.sc (.int .u32)))
def Yi0 (words : Sl) : M Sl := cl Tryz.prog 269 #[words.v] (.one (.sc (.slice)))
def Yi1 (i : Int) : M Int := cl Tryz.prog 270 #[.int .u8 i] (.one (.sc (.int .u32)))
end
end Go.Proofs.YtdgcbapclnnkkaaGreat.X
