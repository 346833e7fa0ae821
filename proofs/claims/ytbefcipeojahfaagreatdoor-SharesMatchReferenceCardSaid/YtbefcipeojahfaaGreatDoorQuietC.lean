/- wp_region_below with what follows hidden behind a variable: many skipped operations in a row else make Lean unfold the region at each step (an expected type is put into weak head normal form). -/
import Derived.Test.YtbefcipeojahfaaGreatDoorQuietB
namespace Go.Proofs.YtbefcipeojahfaaGreatDoor
open Go.RowKit

def QStep (WQ : Program → Array Oper → (World → Prop) → (Act → Prop) → List Oper → Act → Prop) : Prop :=
  ∀ (P : Program) (ops : Array Oper) (C : World → Prop) (Q : Act → Prop) (a : Act) (o : Oper) (rest : List Oper),
    (∀ K : Act → Prop, (∀ a, WQ P ops C Q rest a → K a) → if Region.wanted o (yielded ops a.tmps) then o.quiet P a C K else K (a.put o.dst undef)) → WQ P ops C Q (o :: rest) a
def QNil (WQ : Program → Array Oper → (World → Prop) → (Act → Prop) → List Oper → Act → Prop) : Prop :=
  ∀ (P : Program) (ops : Array Oper) (C : World → Prop) (Q : Act → Prop) (a : Act), Q a → WQ P ops C Q [] a

theorem QStep.go {WQ : Program → Array Oper → (World → Prop) → (Act → Prop) → List Oper → Act → Prop} (h : QStep WQ) {P : Program} {ops : Array Oper} {C : World → Prop} {Q : Act → Prop} {a : Act} {o : Oper} {rest : List Oper}
    (hk : ∀ K : Act → Prop, (∀ a, WQ P ops C Q rest a → K a) → if Region.wanted o (yielded ops a.tmps) then o.quiet P a C K else K (a.put o.dst undef)) : WQ P ops C Q (o :: rest) a := h P ops C Q a o rest hk
theorem QNil.go {WQ : Program → Array Oper → (World → Prop) → (Act → Prop) → List Oper → Act → Prop} (h : QNil WQ) {P : Program} {ops : Array Oper} {C : World → Prop} {Q : Act → Prop} {a : Act} (hq : Q a) : WQ P ops C Q [] a := h P ops C Q a hq

theorem wp_region_belowC {P : Program} {id : Nat} {Q : Exit → Act → World → Prop} {a : Act} {w : World} {l : List Oper} (hm : P.follows .mixedOrders = true) (hB : Region.lexB .any l.toArray = true)
    (h : ∀ WQ, QStep WQ → QNil WQ → WQ P l.toArray (fun W => Below w.heap.size w W) (fun a' => ∀ W, Below w.heap.size w W → Q .normal a' W) l a) : (Code.region id l.toArray true).wp P Q a w :=
  wp_region_below hm hB (h wpQuiet (fun _ _ _ _ _ _ _ hk => wpQuiet_step hk) (fun _ _ _ _ _ hq => wpQuiet_nil hq))

end Go.Proofs.YtbefcipeojahfaaGreatDoor
