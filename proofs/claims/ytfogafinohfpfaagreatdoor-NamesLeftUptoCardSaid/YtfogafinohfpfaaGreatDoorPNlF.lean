/- The plain law of chapter 12: NamesLeft, of trees that are not too great. -/
import Derived.Test.YtfogafinohfpfaaGreatDoorPNlE
import Derived.Test.YtfogafinohfpfaaGreatDoorWe
namespace Go.Proofs.YtfogafinohfpfaaGreatDoorV
theorem PB_of {x : Node} (h : NK 1048576 x) : PB x := by
  induction h with
  | mk k s n a l p hl hp ih => exact .mk _ _ _ _ _ _ (fun y hy => by obtain ⟨i, hi, rfl⟩ := List.getElem_of_mem hy; exact ih i hi) hp
theorem namesLeft_law (x : Node) (h : WF .node x) (z : NK 1048576 x) (w : Int) (hw : WF (.int .u8) w) : bautalaw12_NamesLeft 4294304002 x.k x.s x.n x.a x.l x.p w = some true := by
  simp only [WF, Lit.wf, Bool.and_eq_true, decide_eq_true_eq] at hw
  exact namesLeft_N 4294304002 (by omega) x (PB_of z) w hw
end Go.Proofs.YtfogafinohfpfaaGreatDoorV
