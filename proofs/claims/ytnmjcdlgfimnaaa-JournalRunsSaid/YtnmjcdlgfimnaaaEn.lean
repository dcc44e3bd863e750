/- The three closed facts of a row that read the words of the cut, by a written list of signs (the kernel's reading of the string's own list outgrows its memory). -/
import Derived.Test.YtnmjcdlgfimnaaaRows
import Derived.ProofKit
namespace Go.Proofs.Ytnmjcdlgfimnaaa
set_option maxRecDepth 100000 in
def signs : List Char := List.map Char.ofNat [104, 97, 114, 110, 101, 115, 115, 32, 53, 54, 100, 102, 101, 56, 51, 49, 50, 50, 98, 50, 99, 56, 54, 48, 53, 52, 52, 49, 53, 50, 97, 100, 49, 52, 54, 98, 
 56, 53, 48, 54, 98, 57, 50, 101, 100, 51, 57, 97, 54, 99, 99, 101, 57, 54, 48, 57, 52, 48, 49, 54, 100, 53, 50, 50, 99, 52, 55, 52, 51, 57, 99, 51, 32, 
 99, 117, 116, 32, 97, 116, 32, 102, 97, 108, 115, 101, 119, 111, 114, 107, 47, 102, 97, 108, 115, 101, 119, 111, 114, 107, 108, 97, 119, 48, 56, 46, 68, 
 105, 115, 107, 78, 97, 109, 101, 115, 32, 102, 97, 108, 115, 101, 119, 111, 114, 107, 47, 102, 97, 108, 115, 101, 119, 111, 114, 107, 108, 97, 119, 48, 
 56, 46, 68, 105, 115, 107, 66, 117, 114, 110, 115, 32, 102, 97, 108, 115, 101, 119, 111, 114, 107, 47, 102, 97, 108, 115, 101, 119, 111, 114, 107, 108, 
 97, 119, 48, 56, 46, 68, 105, 115, 107, 84, 101, 97, 114, 115, 32, 102, 97, 108, 115, 101, 119, 111, 114, 107, 47, 102, 97, 108, 115, 101, 119, 111, 114, 
 107, 108, 97, 119, 48, 56, 46, 68, 105, 115, 107, 81, 117, 105, 101, 116, 32, 102, 97, 108, 115, 101, 119, 111, 114, 107, 47, 102, 97, 108, 115, 101, 119, 
 111, 114, 107, 108, 97, 119, 48, 56, 46, 68, 105, 115, 107, 68, 111, 101, 115, 32, 102, 97, 108, 115, 101, 119, 111, 114, 107, 47, 102, 97, 108, 115, 101, 
 119, 111, 114, 107, 108, 97, 119, 48, 57, 46, 83, 116, 97, 109, 112, 78, 97, 109, 101, 115, 32, 102, 97, 108, 115, 101, 119, 111, 114, 107, 47, 102, 97, 
 108, 115, 101, 119, 111, 114, 107, 108, 97, 119, 48, 57, 46, 83, 116, 97, 109, 112, 66, 97, 99, 107, 32, 102, 97, 108, 115, 101, 119, 111, 114, 107, 47, 
 102, 97, 108, 115, 101, 119, 111, 114, 107, 108, 97, 119, 48, 57, 46, 83, 116, 97, 109, 112, 82, 117, 110, 115, 32, 102, 97, 108, 115, 101, 119, 111, 114, 
 107, 47, 102, 97, 108, 115, 101, 119, 111, 114, 107, 108, 97, 119, 48, 57, 46, 83, 116, 97, 109, 112, 84, 111, 114, 110, 32, 102, 97, 108, 115, 101, 119, 
 111, 114, 107, 47, 102, 97, 108, 115, 101, 119, 111, 114, 107, 108, 97, 119, 49, 48, 46, 76, 111, 103, 78, 97, 109, 101, 115, 32, 102, 97, 108, 115, 101, 
 119, 111, 114, 107, 47, 102, 97, 108, 115, 101, 119, 111, 114, 107, 108, 97, 119, 49, 48, 46, 76, 111, 103, 82, 111, 111, 109, 32, 102, 97, 108, 115, 101, 
 119, 111, 114, 107, 47, 102, 97, 108, 115, 101, 119, 111, 114, 107, 108, 97, 119, 49, 49, 46, 83, 108, 111, 116, 78, 97, 109, 101, 115, 32, 102, 97, 108, 
 115, 101, 119, 111, 114, 107, 47, 102, 97, 108, 115, 101, 119, 111, 114, 107, 108, 97, 119, 49, 49, 46, 83, 108, 111, 116, 84, 117, 114, 110, 115, 32, 102, 
 97, 108, 115, 101, 119, 111, 114, 107, 47, 102, 97, 108, 115, 101, 119, 111, 114, 107, 108, 97, 119, 49, 48, 46, 76, 111, 103, 75, 101, 101, 112, 115, 32, 
 102, 97, 108, 115, 101, 119, 111, 114, 107, 47, 102, 97, 108, 115, 101, 119, 111, 114, 107, 108, 97, 119, 49, 49, 46, 83, 108, 111, 116, 82, 117, 110, 115, 
 32, 102, 97, 108, 115, 101, 119, 111, 114, 107, 47, 102, 97, 108, 115, 101, 119, 111, 114, 107, 108, 97, 119, 49, 49, 46, 83, 108, 111, 116, 84, 111, 114, 
 110, 32, 102, 97, 108, 115, 101, 119, 111, 114, 107, 47, 102, 97, 108, 115, 101, 119, 111, 114, 107, 108, 97, 119, 49, 50, 46, 74, 111, 117, 114, 110, 97, 
 108, 78, 97, 109, 101, 115, 32, 102, 97, 108, 115, 101, 119, 111, 114, 107, 47, 102, 97, 108, 115, 101, 119, 111, 114, 107, 108, 97, 119, 49, 50, 46, 74, 
 111, 117, 114, 110, 97, 108, 70, 108, 111, 111, 114, 115, 32, 102, 97, 108, 115, 101, 119, 111, 114, 107, 47, 102, 97, 108, 115, 101, 119, 111, 114, 107, 
 108, 97, 119, 49, 50, 46, 74, 111, 117, 114, 110, 97, 108, 75, 101, 101, 112, 115, 32, 102, 97, 108, 115, 101, 119, 111, 114, 107, 47, 102, 97, 108, 115, 
 101, 119, 111, 114, 107, 108, 97, 119, 49, 50, 46, 74, 111, 117, 114, 110, 97, 108, 82, 117, 110, 115]
def cutSigns : List Char := [Char.ofNat 99, Char.ofNat 117, Char.ofNat 116]
set_option maxRecDepth 100000 in
theorem order_signs : Try.prog.initOrder = String.ofList signs := by kernel_rfl
theorem order_list : Try.prog.initOrder.toList = signs := by rw [order_signs, String.toList_ofList]
set_option maxRecDepth 100000 in
theorem order_head : ∃ r, behindMainWord (wordsSigns signs) = cutSigns :: r := ⟨(behindMainWord (wordsSigns signs)).tail, by kernel_rfl⟩
theorem make_of (P : Program) (r : List (List Char)) (h : behindMainWord (wordsSigns P.initOrder.toList) = cutSigns :: r) : P.make = some .cut := by unfold Program.make; rw [h]; rfl
theorem strip_cut (r : List (List Char)) : stripLifts liftWords (cutSigns :: r) = ([], cutSigns :: r) := by kernel_rfl
theorem may_of (P : Program) (r : List (List Char)) (h : behindMainWord (wordsSigns P.initOrder.toList) = cutSigns :: r) (h1 : P.laysLater = false) (h2 : P.bearsReflect = false) (h3 : P.doorFits [] = true) : P.mayEnter = true := by
 unfold Program.mayEnter; rw [h]; simp only [strip_cut, h1, h2, h3]; rfl
theorem lifts_of (P : Program) (r : List (List Char)) (h : behindMainWord (wordsSigns P.initOrder.toList) = cutSigns :: r) : P.liftsFinal = false := by
 unfold Program.liftsFinal Program.headLifts; rw [h]; simp only [strip_cut]; rfl
theorem head_prog : ∃ r, behindMainWord (wordsSigns Try.prog.initOrder.toList) = cutSigns :: r := by
 obtain ⟨r, h⟩ := order_head
 exact ⟨r, by rw [order_list]; exact h⟩
theorem make_cut : Try.prog.make = some .cut := by
 obtain ⟨r, h⟩ := head_prog
 exact make_of _ r h
theorem lifts_final : Try.prog.liftsFinal = false := by
 obtain ⟨r, h⟩ := head_prog
 exact lifts_of _ r h
theorem lays_later : Try.prog.laysLater = false := by kernel_rfl
theorem bears_reflect : Try.prog.bearsReflect = false := by kernel_rfl
theorem door_fits : Try.prog.doorFits [] = true := by kernel_rfl
theorem may_enter : Try.prog.mayEnter = true := by
 obtain ⟨r, h⟩ := head_prog
 exact may_of _ r h lays_later bears_reflect door_fits
end Go.Proofs.Ytnmjcdlgfimnaaa
