import Derived.Test.YtmlfelbkgoplhaaGreatDoorZfPkM
import Derived.ProofKit
import Derived.OpenShut
import Derived.SizedLaws
import Derived.Deep.Matrix
import Derived.Carry
set_option linter.unusedVariables false
set_option linter.unusedSimpArgs false
namespace Go.Proofs.YtmlfelbkgoplhaaGreatDoor
open Go.ChangeShapes Go.WideShapes Go.ChangeAt Go.RowKit
section
variable {H : Type} {enc : TypeId × Value → H} {P : Program}
theorem zcJ (hl : laidOutB P = true) {W W' : World} (hb : Below W.heap.size W W') : ∀ {ts : List TypeId} {vs : List Value} {ds : List (DataW H)} {p : List MemPlace},
 DataW.TrodAll enc P W 0 (fun _ => true) true ts vs ds p → (∀ t ∈ ts,P.readableRec t = true ∧ t < P.types.size) → (∀ x ∈ p,x.block < W.heap.size) →
 DataW.TrodAll enc P W' 0 (fun b => decide (b < W.heap.size)) true ts vs ds p
 | [],vs,ds,p,h,_,_ => by obtain ⟨rfl,rfl,rfl⟩:=trodAll_nil h;exact trodAll_mk0
 | t :: ts,vs,ds,p,h,ht,hlt => by
  obtain ⟨v,vs',d,ds',p1,q,rfl,rfl,rfl,h1,h2⟩:=trodAll_cons h
  have h3:=ht t (by simp)
  exact trodAll_cons_mk (Below.trod hl h3.1 h3.2 h1 hb (fun x hx => hlt x (by simp [hx]))) (zcJ hl hb h2 (fun t' ht' => ht t' (by simp [ht'])) (fun x hx => hlt x (by simp [hx])))
theorem zoG {s : ChangeSpec} {f : Func} {W W' : World} {args : Array Value} {ds : List (DataW H)} {before : List MemPlace} {tb : TypeId} (hl : laidOutB P = true) (hvars : s.vars = []) (hres : f.resultTypes = #[tb]) (htb : P.underlying tb = some .bool)
 (hr : ∀ t ∈ f.params.toList,P.readableRec t = true ∧ t < P.types.size) (hW : DataW.Whole enc P f.params.toList s.vars false W args.toList ds [] before)
 (hfn : s.fn H (ds ++ []) = { results:=[.lit (.bool true)],args:=ds }) (hg : Below W.heap.size W W') : s.post enc P f false true false false W args (.bool true) W':=by
 have hW':=hW
 obtain ⟨p,q,hA,hV,rfl,_,_⟩:=hW
 have hlt : ∀ x ∈ p,x.block < W.heap.size:=fun x hx => hW'.lt x (by simp [hx])
 refine ⟨ds,[],_,[] ++ [],p,[],hW',?_,?_,?_,hg.frame _,fun h => by cases h⟩
 ·
  rw [hfn,hres]
  exact trodAll_mk1 (shut_bool htb true)
 ·
  rw [hfn]
  exact zcJ hl hg hA hr hlt
 ·
  rw [hfn,hvars]
  exact rfl
end
