/-
  Values of types that name themselves: what cells of such a type read as, by the size of what is read.
-/
import Derived.Test.YtlmgomgpiideoaaGreatDoorLc
namespace Go.Own
open Go.ChangeShapes Go.WideShapes Go.RowKit
def OpensS (P:Program) (t:TypeId) (n:Nat) (R:List AV→Prop) (N:Nat):Prop :=
 P.cellsOf t=n∧∀ {H:Type} (ec:TypeId×Value→H) (W:World) (fuel:Nat) (cs:List Value) (x:DataW H×List MemPlace),SizeOf.sizeOf x.1<N→DataW.trod ec P W 0 (fun _=>true) true fuel t cs=some x →
  ∃ l,R l∧cs.length=l.length∧l.length=n∧(∀ b∈l,b.one=true)∧∀ (j:Nat) (c:Value) (b:AV),cs[j]?=some c→l[j]?=some b→RelT (All W) W c b
theorem OpensR.at {P:Program} {t:TypeId} {n:Nat} {R:List AV→Prop} (h:OpensR P t n R) (N:Nat):OpensS P t n R N:=⟨h.1,fun ec W fuel cs x _ hx=>h.2 ec W fuel cs x hx⟩
theorem OpensS.le {P:Program} {t:TypeId} {n:Nat} {R:List AV→Prop} {N M:Nat} (h:OpensS P t n R N) (hM:M≤N):OpensS P t n R M :=
 ⟨h.1,fun ec W fuel cs x hs hx=>h.2 ec W fuel cs x (Nat.lt_of_lt_of_le hs hM) hx⟩
theorem OpensS.mono {P:Program} {t:TypeId} {n:Nat} {R R':List AV→Prop} {N:Nat} (h:OpensS P t n R N) (hR:∀ l,R l→R' l):OpensS P t n R' N :=
 ⟨h.1,fun ec W fuel cs x hs hx=>let ⟨l,h1,h2⟩:=h.2 ec W fuel cs x hs hx;⟨l,hR l h1,h2⟩⟩
def FieldsS (P:Program) (N:Nat):Nat→List Field→List (Nat×(List AV→Prop))→Nat→Prop
 | off,[],[],n=>off=n
 | off,f::fs,(k,R)::Rs,n=>f.offset=off∧OpensS P f.type k R N∧FieldsS P N (off+k) fs Rs n
 | _,_,_,_=>False
end Go.Own
