/- The abstract machine, part 24: where the parts of a code lie. No condition. -/
import Derived.Test.YtaabgjmcikolfaaGreatDoorZa23
namespace Go.Za
def subC : List Nat → Code → Code
  | [], c => c
  | k :: ps, c => match c with
    | .seq a b => match k with | 0 => subC ps a | _ => subC ps b
    | .cond _ a b => match k with | 0 => subC ps a | _ => subC ps b
    | .block _ b => subC ps b
    | .loop b => subC ps b
    | .rangeFunc _ _ a b => match k with | 0 => subC ps a | _ => subC ps b
    | c => c
def bodyC (f : Func) : Code := match f.body with | some c => c | none => .skip
/-- Of which statements, in all regions of the function. -/
def hintL (l : List Nat) (r i : Nat) : Bool := match l with
  | [] => false
  | b :: l => match Nat.beq b i with | true => true | false => hintL l r i
/-- Of all that a trie holds. -/
def TrAll {α : Type} (Q : B → α → Prop) : Tr α → (B → B) → Prop
  | .e, _ => True
  | .n l v r, c => (match v with | none => True | some x => Q (c .e) x) ∧ TrAll Q l (fun p => c (.l p)) ∧ TrAll Q r (fun p => c (.r p))
theorem trAll_get {α : Type} {Q : B → α → Prop} : ∀ {t : Tr α} {c : B → B}, TrAll Q t c → ∀ p x, t.get p = some x → Q (c p) x
  | .e, c, _, p, x, h => by rw [Tr.get_e] at h; cases h
  | .n l v r, c, hq, .e, x, h => by
    simp only [Tr.get] at h
    subst h
    exact hq.1
  | .n l v r, c, hq, .l p, x, h => trAll_get (c := fun p => c (.l p)) hq.2.1 p x h
  | .n l v r, c, hq, .r p, x, h => trAll_get (c := fun p => c (.r p)) hq.2.2 p x h
theorem tabOK_of {P : Program} {T : Tr FnT} (h : TrAll (fun p F => FnOK P (p.toNat - 1) F) T id) : TabOK P T := fun f F hF => by
  have := trAll_get h _ _ hF
  simpa [path_toNat] using this
end Go.Za
