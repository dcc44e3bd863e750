/- The three closed facts of a row that read the words of the cut, by a written list of signs (the kernel's reading of the string's own list outgrows its memory). -/
import Derived.Test.YtclgglffbpfmhaaGreatRows
import Derived.ProofKit
namespace Go.Proofs.YtclgglffbpfmhaaGreat
set_option maxRecDepth 100000 in
def signs : List Char := List.map Char.ofNat [104, 97, 114, 110, 101, 115, 115, 32, 99, 102, 54, 57, 101, 101, 56, 53, 97, 51, 101, 100, 48, 99, 57, 54, 53, 55, 102, 51, 100, 56, 57, 100, 99, 50, 53, 
  50, 100, 50, 97, 54, 54, 101, 55, 102, 55, 48, 55, 56, 101, 102, 99, 48, 97, 48, 53, 100, 52, 52, 52, 51, 53, 97, 100, 99, 48, 51, 99, 100, 101, 50, 97, 
  100, 32, 99, 117, 116, 32, 97, 116, 32, 102, 97, 108, 115, 101, 119, 111, 114, 107, 47, 102, 97, 108, 115, 101, 119, 111, 114, 107, 108, 97, 119, 50, 49, 
  46, 76, 111, 97, 110, 78, 97, 109, 101, 115, 32, 102, 97, 108, 115, 101, 119, 111, 114, 107, 47, 102, 97, 108, 115, 101, 119, 111, 114, 107, 108, 97, 119, 
  50, 54, 46, 80, 97, 115, 116, 78, 97, 109, 101, 115, 32, 102, 97, 108, 115, 101, 119, 111, 114, 107, 47, 102, 97, 108, 115, 101, 119, 111, 114, 107, 108, 
  97, 119, 50, 51, 46, 66, 111, 111, 107, 78, 97, 109, 101, 115, 32, 102, 97, 108, 115, 101, 119, 111, 114, 107, 47, 102, 97, 108, 115, 101, 119, 111, 114, 
  107, 108, 97, 119, 50, 52, 46, 83, 101, 114, 118, 105, 99, 101, 114, 78, 97, 109, 101, 115, 32, 102, 97, 108, 115, 101, 119, 111, 114, 107, 47, 102, 97, 
  108, 115, 101, 119, 111, 114, 107, 108, 97, 119, 50, 53, 46, 83, 99, 114, 105, 112, 116, 78, 97, 109, 101, 115]
def cutSigns : List Char := [Char.ofNat 99, Char.ofNat 117, Char.ofNat 116]
set_option maxRecDepth 100000 in
theorem order_signs : Tryz.prog.initOrder = String.ofList signs := by kernel_rfl
theorem order_list : Tryz.prog.initOrder.toList = signs := by rw [order_signs, String.toList_ofList]
set_option maxRecDepth 100000 in
theorem order_head : ∃ r, behindMainWord (wordsSigns signs) = cutSigns :: r := ⟨(behindMainWord (wordsSigns signs)).tail, by kernel_rfl⟩
theorem make_of (P : Program) (r : List (List Char)) (h : behindMainWord (wordsSigns P.initOrder.toList) = cutSigns :: r) : P.make = some .cut := by unfold Program.make; rw [h]; rfl
theorem strip_cut (r : List (List Char)) : stripLifts liftWords (cutSigns :: r) = ([], cutSigns :: r) := by kernel_rfl
theorem may_of (P : Program) (r : List (List Char)) (h : behindMainWord (wordsSigns P.initOrder.toList) = cutSigns :: r) (h1 : P.laysLater = false) (h2 : P.bearsReflect = false) (h3 : P.doorFits [] = true) : P.mayEnter = true := by
  unfold Program.mayEnter; rw [h]; simp only [strip_cut, h1, h2, h3]; rfl
theorem lifts_of (P : Program) (r : List (List Char)) (h : behindMainWord (wordsSigns P.initOrder.toList) = cutSigns :: r) : P.liftsFinal = false := by
  unfold Program.liftsFinal Program.headLifts; rw [h]; simp only [strip_cut]; rfl
theorem head_prog : ∃ r, behindMainWord (wordsSigns Tryz.prog.initOrder.toList) = cutSigns :: r := by
  obtain ⟨r, h⟩ := order_head
  exact ⟨r, by rw [order_list]; exact h⟩
theorem make_cut : Tryz.prog.make = some .cut := by
  obtain ⟨r, h⟩ := head_prog
  exact make_of _ r h
theorem lifts_final : Tryz.prog.liftsFinal = false := by
  obtain ⟨r, h⟩ := head_prog
  exact lifts_of _ r h
theorem lays_later : Tryz.prog.laysLater = false := by kernel_rfl
theorem bears_reflect : Tryz.prog.bearsReflect = false := by kernel_rfl
theorem door_fits : Tryz.prog.doorFits [] = true := by kernel_rfl
theorem may_enter : Tryz.prog.mayEnter = true := by
  obtain ⟨r, h⟩ := head_prog
  exact may_of _ r h lays_later bears_reflect door_fits
end Go.Proofs.YtclgglffbpfmhaaGreat
