/-
  A region that draws its order, in a round of a range over a function.
-/
import Derived.Test.YtfbcdmhmpfijjaaGreatDoorQ14
import Derived.Deep.RegionHeld3
import Derived.OrdersIn
set_option linter.unusedVariables false
set_option linter.unusedSimpArgs false
set_option linter.unusedSectionVars false
namespace Go.Proofs.YtfbcdmhmpfijjaaGreatDoor
open Go Go.RowKit
def OnlyN (Q:Exit → Act → World → Prop):Exit → Act → World → Prop:=fun e a w => e=.normal ∧ Q .normal a w
theorem onlyN_panic {Q:Exit → Act → World → Prop} {o:Option Tmp} {v:Value}:∀ c (a:Act) w,OnlyN Q (.panic c) (a.put o v) w → OnlyN Q (.panic c) a w:=fun _ _ _ h => by cases h.1
theorem rows_wide {l n:Nat} {P:Program} {row:String} {args:Array Value} {w:World} {R:Value → World → Prop} (h:Rows P row args w R):RowsIn (Fence.wide.inRound l) n P row args w R :=
 fun c cs _ => let ⟨v,w',r,s⟩:=h c cs;⟨v,w',r,stepsIn_wide.2 s⟩
theorem wpOp_round {l n i:Nat} {P:Program} {ops:Array Oper} {Q:Exit → Act → World → Prop} {K K':Act → World → Prop} {a:Act} {w:World} (hnd:∀ o:Oper,ops[i]?=some o → ∀ c:Call,Oper.op o ≠ Op.defer c) (hK:∀ a w,K a w → K' a w)
 (h:wpOp P ops (OnlyN Q) i K a w):wpOpIn (Fence.wide.inRound l) n P ops Q i K' a w:=by
 unfold wpOp at h
 unfold wpOpIn
 cases ho:ops[i]? with
 | none => rw [ho] at h;exact hK _ _ h
 | some o =>
  simp only [ho] at h ⊢
  split
  ·rename_i hw
   rw [if_pos hw] at h
   rcases h with h | ⟨_,a',w',he,_⟩
   ·refine ⟨fun _ _ => trivial,?_⟩
    unfold Oper.wp at h
    rw [show (Fence.wide.inRound l).round=some l from rfl,Oper.semAt_some l _ _ (hnd o ho)]
    generalize (execOp a.eval o).run P w=r at h ⊢
    cases r with
    | ok x w1 =>
     cases x with
     | value v => exact hK _ _ h
     | skip => exact hK _ _ h
     | defer d => exact hK _ _ h
     | enter f args =>
      refine ⟨fun hh => (by cases hh),CallsIn.inRound _ (callsIn_wide.2 (Calls.mono (show Calls P f args w1 _ from h) ?_))⟩
      intro e w2 h2
      cases e with
      | returned v => exact hK _ _ h2
      | panicked ch => exact (by cases h2.1)
      | outgrown => obtain ⟨_,_,he,_⟩:=h2;cases he
     | row row args => exact ⟨fun hh => (by cases hh),rows_wide (Rows.mono (show Rows P row args w1 _ from h) fun v w' h2 => hK _ _ h2)⟩
     | _ => exact False.elim h
    | halt x w1 =>
     cases x with
     | panic v => exact (by cases h.1)
     | _ => exact False.elim h
   ·cases he
  ·rename_i hw
   rw [if_neg hw] at h
   exact ⟨fun _ _ => trivial,hK _ _ h⟩
theorem wpAny_round {l n:Nat} {P:Program} {md:Region.Mode} {ops:Array Oper} {Q:Exit → Act → World → Prop} {S:World → Prop} (hnd:∀ (i:Nat) (o:Oper),ops[i]?=some o → ∀ c:Call,Oper.op o ≠ Op.defer c) :
 ∀ (fuel:Nat) (listed:Array Bool) (a:Act) (w:World),wpAnyH P md ops (OnlyN Q) S fuel listed a w → wpAnyIn (Fence.wide.inRound l) n P md ops Q fuel listed a w
 | 0,_,_,_,h => ⟨h.1,h.2.2⟩
 | fuel + 1,_listed,_a,_w,h => ⟨fun hr => (h.1 hr).2,fun i hi => wpOp_round (hnd i) (fun a w hk => wpAny_round hnd fuel _ a w hk.2) (h.2 i hi)⟩
theorem wpIn_region_round {l n id:Nat} {P:Program} {ops:Array Oper} {Q:Exit → Act → World → Prop} {a:Act} {w:World} (S:World → Prop) (hm:P.follows .mixedOrders=true)
 (hnd:∀ (i:Nat) (o:Oper),ops[i]?=some o → ∀ c:Call,Oper.op o ≠ Op.defer c) (hS:S w.drew) (h:S w.drew → wpAnyH P .any ops (OnlyN Q) S ops.size (Array.replicate ops.size false) a w.drew) :
 (Code.region id ops true).wpIn (Fence.wide.inRound l) n P Q a w :=
 wpIn_region_any hm (wpAny_round hnd _ _ _ _ (h hS))
theorem no_defer {ops:Array Oper} (h:ops.all (fun o:Oper => match o.op with | .defer _ => false | _ => true)=true):∀ (i:Nat) (o:Oper),ops[i]?=some o → ∀ c:Call,Oper.op o ≠ Op.defer c:=by
 intro i o ho c hc
 rw [Array.all_eq_true] at h
 obtain ⟨hi,he⟩:=Array.getElem?_eq_some_iff.1 ho
 have:=h i hi
 rw [he,hc] at this
 cases this
end Go.Proofs.YtfbcdmhmpfijjaaGreatDoor
