/-
  A region whose order is open, whose operations read and whose calls hand back one value in every world that holds given facts: one walk serves every order.
  Conditions: the facts are kept by whatever leaves the old blocks alone.
-/
import Derived.Test.YtcgpmdfcdngnlaaDoorB0
import Derived.Deep.QuietTactic
import Derived.BigQuiet
set_option linter.unusedVariables false
set_option linter.unusedSimpArgs false
namespace Go.Proofs.YtcgpmdfcdngnlaaDoor
open Go.RowKit

/-- Facts that are kept where all old blocks are. -/
def Keeps (F : World → Prop) : Prop := ∀ W W' : World, F W → Below W.heap.size W W' → F W'
/-- A call in one of the worlds hands back v and leaves one of them. -/
def HeldCall (P : Program) {U : Type} (val : U → World) : Prop :=
  ∀ (f : FuncId) (args : Array Value) (v : Value) (u : U), (Calls P f args (val u) fun e w'' => e = .returned v ∧ Below (val u).heap.size (val u) w'') → Calls P f args (val u) fun e w'' => e = .returned v ∧ ∃ u', w'' = val u'

theorem region_held {P : Program} {id : Nat} {Q : Exit → Act → World → Prop} {a : Act} {w : World} {l : List Oper} (F : World → Prop) (hm : P.follows .mixedOrders = true) (hB : Region.lexB .any l.toArray = true)
    (hF : F w.drew) (hk : Keeps F)
    (h : ∀ (U : Type) (val : U → World), Nonempty U → (∀ u, F (val u)) → HeldCall P val →
      wpQuiet P l.toArray (fun W => ∃ u : U, W = val u) (fun a' => ∀ W, (∃ u : U, W = val u) → Q .normal a' W) l a) : (Code.region id l.toArray true).wp P Q a w := by
  refine wp_region_quiet (C := fun W => ∃ u : { W : World // F W }, W = u.val) hm hB ⟨⟨w.drew, hF⟩, rfl⟩ ?_
  have := h { W : World // F W } (·.val) ⟨⟨w.drew, hF⟩⟩ (fun u => u.2) (fun f args v u hc => hc.mono fun _ w'' ⟨he, hb⟩ => ⟨he, ⟨w'', hk _ _ u.2 hb⟩, rfl⟩)
  simpa using this

theorem retB {P : Program} {f : FuncId} {args : Array Value} {w : World} {b b' : Bool} {X : World → Prop} (h : Calls P f args w fun e w' => e = .returned (.bool b) ∧ X w') (hb : b = b') : Calls P f args w fun e w' => e = .returned (.bool b') ∧ X w' := hb ▸ h
theorem retSame {P : Program} {f : FuncId} {args : Array Value} {w : World} {v : Value} {B : Nat} (h : Calls P f args w fun e w' => e = .returned v ∧ w = w') : Calls P f args w fun e w' => e = .returned v ∧ Below B w w' := h.mono fun _ _ ⟨p, q⟩ => ⟨p, q ▸ Below.refl _ _⟩
theorem retDrew {P : Program} {f : FuncId} {args : Array Value} {w : World} {v : Value} {B : Nat} (h : Calls P f args w fun e w' => e = .returned v ∧ ∃ n, w' = w.drewN n) : Calls P f args w fun e w' => e = .returned v ∧ Below B w w' := h.mono fun _ _ ⟨p, n, q⟩ => ⟨p, q ▸ bel_drewN (Below.refl _ _) n⟩

/-- Two cells of a box, as a fact of a world. -/
def Box2 (p : Nat) (v0 v1 : Value) (W : World) : Prop := W.cell? ⟨p, 0, none⟩ = some v0 ∧ W.cell? ⟨p, 1, none⟩ = some v1
theorem Box2.keeps (p : Nat) (v0 v1 : Value) : Keeps (Box2 p v0 v1) := fun _ _ h b => ⟨cellAfter b h.1, cellAfter b h.2⟩
theorem Box2.new (X : World) (v0 v1 : Value) (t : TypeId) : Box2 X.heap.size v0 v1 (X.alloc (.cells #[v0, v1] t)) := ⟨cellNew _ _ _ 0 rfl, cellNew _ _ _ 1 rfl⟩
theorem Box2.alloc {X : World} {p : Nat} {v0 v1 : Value} (h : Box2 p v0 v1 X) (o : Obj) : Box2 p v0 v1 (X.alloc o) := ⟨cellAlloc _ h.1, cellAlloc _ h.2⟩
theorem Box2.drew {X : World} {p : Nat} {v0 v1 : Value} (h : Box2 p v0 v1 X) : Box2 p v0 v1 X.drew := h
theorem Box2.after {X w1 : World} {p : Nat} {v0 v1 : Value} (h : Box2 p v0 v1 X) (b : Below X.heap.size X w1) : Box2 p v0 v1 w1 := Box2.keeps _ _ _ _ _ h b

/-- What a function with one boxed rhythm holds: nothing below has turned, the box is there. -/
def Held1 (w : World) (v0 v1 : Value) (W : World) : Prop := Below w.heap.size w W ∧ Box2 w.heap.size v0 v1 W
theorem Held1.keeps (w : World) (v0 v1 : Value) : Keeps (Held1 w v0 v1) := fun _ _ h b => ⟨bel_step h.1 b h.1.size, Box2.keeps _ _ _ _ _ h.2 b⟩
theorem Held1.new (w : World) (v0 v1 : Value) (t : TypeId) : Held1 w v0 v1 (w.alloc (.cells #[v0, v1] t)) := ⟨(Below.refl _ _).alloc (Nat.le_refl _) _, Box2.new w _ _ _⟩
theorem Held1.alloc {w X : World} {v0 v1 : Value} (h : Held1 w v0 v1 X) (o : Obj) : Held1 w v0 v1 (X.alloc o) := ⟨bel_alloc h.1 o, h.2.alloc o⟩
theorem Held1.drew {w X : World} {v0 v1 : Value} (h : Held1 w v0 v1 X) : Held1 w v0 v1 X.drew := ⟨h.1.drew, h.2⟩
theorem Held1.after {w X w1 : World} {v0 v1 : Value} (h : Held1 w v0 v1 X) (b : Below X.heap.size X w1) : Held1 w v0 v1 w1 := Held1.keeps _ _ _ _ _ h b
/-- .. with two. -/
def Held2 (w : World) (v0 v1 u0 u1 : Value) (W : World) : Prop := Below w.heap.size w W ∧ Box2 w.heap.size v0 v1 W ∧ Box2 (w.heap.size + 1) u0 u1 W
theorem Held2.keeps (w : World) (v0 v1 u0 u1 : Value) : Keeps (Held2 w v0 v1 u0 u1) := fun _ _ h b => ⟨bel_step h.1 b h.1.size, Box2.keeps _ _ _ _ _ h.2.1 b, Box2.keeps _ _ _ _ _ h.2.2 b⟩
theorem Held2.new (w : World) (v0 v1 u0 u1 : Value) (t t' : TypeId) : Held2 w v0 v1 u0 u1 ((w.alloc (.cells #[v0, v1] t)).alloc (.cells #[u0, u1] t')) := by
  refine ⟨((Below.refl _ _).alloc (Nat.le_refl _) _).alloc (by simp) _, (Box2.new w _ _ _).alloc _, ?_⟩
  have := Box2.new (w.alloc (.cells #[v0, v1] t)) u0 u1 t'
  rw [World.size_alloc] at this; exact this
theorem Held2.alloc {w X : World} {v0 v1 u0 u1 : Value} (h : Held2 w v0 v1 u0 u1 X) (o : Obj) : Held2 w v0 v1 u0 u1 (X.alloc o) := ⟨bel_alloc h.1 o, h.2.1.alloc o, h.2.2.alloc o⟩
theorem Held2.drew {w X : World} {v0 v1 u0 u1 : Value} (h : Held2 w v0 v1 u0 u1 X) : Held2 w v0 v1 u0 u1 X.drew := ⟨h.1.drew, h.2⟩
theorem Held2.after {w X w1 : World} {v0 v1 u0 u1 : Value} (h : Held2 w v0 v1 u0 u1 X) (b : Below X.heap.size X w1) : Held2 w v0 v1 u0 u1 w1 := Held2.keeps _ _ _ _ _ _ _ h b
end Go.Proofs.YtcgpmdfcdngnlaaDoor
