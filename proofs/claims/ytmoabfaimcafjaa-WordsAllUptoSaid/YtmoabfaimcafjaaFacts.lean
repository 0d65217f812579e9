/-
  CLOSED FACTS OF THE PROGRAM that every law's row asks: proved once, the head's words over a list of signs in the place of the string (so the kernel need not take a long string apart).
-/
import Derived.Test.YtmoabfaimcafjaaRows
import Derived.JoinedOf
import Derived.KernelRfl
namespace Go.Proofs.Ytmoabfaimcafjaa.Facts
open Go

def signs : List Char := [104, 97, 114, 110, 101, 115, 115, 32, 55, 48, 100, 101, 53, 100, 55, 54, 97, 54, 97, 53, 56, 57, 51, 57, 48, 98, 57, 55, 50, 55, 51, 51, 50, 53, 100, 53, 56, 51, 97, 48, 53, 99, 98, 101, 49, 98, 51, 100, 102, 53, 56, 54, 54, 98, 98, 99, 49, 48, 99, 97, 100, 100, 50, 57, 53, 52, 97, 52, 55, 53, 53, 49, 32, 99, 117, 116, 32, 97, 116, 32, 98, 111, 97, 116, 104, 111, 117, 115, 101, 47, 98, 111, 97, 116, 104, 111, 117, 115, 101, 108, 97, 119, 49, 49, 46, 70, 105, 108, 101, 66, 97, 99, 107, 32, 98, 111, 97, 116, 104, 111, 117, 115, 101, 47, 98, 111, 97, 116, 104, 111, 117, 115, 101, 108, 97, 119, 56, 46, 87, 111, 114, 100, 115, 65, 108, 108, 32, 98, 111, 97, 116, 104, 111, 117, 115, 101, 47, 98, 111, 97, 116, 104, 111, 117, 115, 101, 108, 97, 119, 56, 46, 87, 111, 114, 100, 115, 66, 97, 99, 107, 32, 98, 111, 97, 116, 104, 111, 117, 115, 101, 47, 98, 111, 97, 116, 104, 111, 117, 115, 101, 108, 97, 119, 49, 49, 46, 70, 105, 108, 101, 67, 111, 108, 117, 109, 110, 115, 32, 98, 111, 97, 116, 104, 111, 117, 115, 101, 47, 98, 111, 97, 116, 104, 111, 117, 115, 101, 108, 97, 119, 56, 46, 87, 111, 114, 100, 115, 77, 111, 114, 101, 32, 98, 111, 97, 116, 104, 111, 117, 115, 101, 47, 98, 111, 97, 116, 104, 111, 117, 115, 101, 108, 97, 119, 57, 46, 86, 101, 99, 80, 117, 116, 115, 32, 98, 111, 97, 116, 104, 111, 117, 115, 101, 47, 98, 111, 97, 116, 104, 111, 117, 115, 101, 108, 97, 119, 57, 46, 86, 101, 99, 71, 101, 116, 115, 32, 98, 111, 97, 116, 104, 111, 117, 115, 101, 47, 98, 111, 97, 116, 104, 111, 117, 115, 101, 108, 97, 119, 57, 46, 86, 101, 99, 66, 97, 99, 107, 32, 98, 111, 97, 116, 104, 111, 117, 115, 101, 47, 98, 111, 97, 116, 104, 111, 117, 115, 101, 108, 97, 119, 57, 46, 86, 101, 99, 79, 114, 100, 101, 114, 32, 98, 111, 97, 116, 104, 111, 117, 115, 101, 47, 98, 111, 97, 116, 104, 111, 117, 115, 101, 108, 97, 119, 57, 46, 86, 101, 99, 83, 104, 111, 114, 116, 32, 98, 111, 97, 116, 104, 111, 117, 115, 101, 47, 98, 111, 97, 116, 104, 111, 117, 115, 101, 108, 97, 119, 57, 46, 86, 101, 99, 76, 105, 109, 105, 116, 115].map Char.ofNat

theorem init_is : Try.prog.initOrder = String.ofList signs := by kernel_rfl
theorem init_eq : Try.prog.initOrder.toList = signs := by rw [init_is]; exact String.toList_ofList

/-- The head's words behind the harness's own: 'cut', then whatever. -/
theorem words_cons : behindMainWord (wordsSigns signs) = "cut".toList :: (behindMainWord (wordsSigns signs)).tail := by kernel_rfl
theorem strip_cut (rest : List (List Char)) : stripLifts liftWords ("cut".toList :: rest) = ([], "cut".toList :: rest) := by kernel_rfl
theorem lifts_gen (P : Program) (rest : List (List Char)) (h : behindMainWord (wordsSigns P.initOrder.toList) = "cut".toList :: rest) : P.headLifts = [] := by
  unfold Program.headLifts; rw [h, strip_cut]; rfl
theorem make_gen (P : Program) (rest : List (List Char)) (h : behindMainWord (wordsSigns P.initOrder.toList) = "cut".toList :: rest) : P.make = some .cut := by
  unfold Program.make; rw [h]
  kernel_rfl
theorem final_gen (P : Program) (rest : List (List Char)) (h : behindMainWord (wordsSigns P.initOrder.toList) = "cut".toList :: rest) : P.liftsFinal = false := by
  unfold Program.liftsFinal; rw [lifts_gen P rest h, h]
  kernel_rfl
theorem enter_gen (P : Program) (rest : List (List Char)) (h : behindMainWord (wordsSigns P.initOrder.toList) = "cut".toList :: rest)
    (h1 : P.laysLater = false) (h2 : P.bearsReflect = false) (h3 : P.doorFits [] = true) : P.mayEnter = true := by
  unfold Program.mayEnter; rw [h]
  simp only [strip_cut, h1, h2, h3]
  kernel_rfl
theorem head_is : behindMainWord (wordsSigns Try.prog.initOrder.toList) = "cut".toList :: (behindMainWord (wordsSigns signs)).tail := by rw [init_eq]; exact words_cons
theorem make_eq : Try.prog.make = some .cut := make_gen Try.prog _ head_is
theorem final_eq : Try.prog.liftsFinal = false := final_gen Try.prog _ head_is
theorem later_eq : Try.prog.laysLater = false := by kernel_rfl
theorem reflect_eq : Try.prog.bearsReflect = false := by kernel_rfl
theorem door_eq : Try.prog.doorFits [] = true := by kernel_rfl
theorem enter_eq : Try.prog.mayEnter = true := enter_gen Try.prog _ head_is later_eq reflect_eq door_eq
theorem laid_eq : laidOutB Try.prog = true := by kernel_rfl
theorem maps_eq : mapsRowed Try.prog = true := by kernel_rfl
theorem heard_eq : Try.prog.stopsHeard = true := by kernel_rfl
theorem keys_eq : Try.prog.plainKeys = false := by kernel_rfl
theorem own : ownKnob Try.prog.godebug = none := by kernel_rfl
end Go.Proofs.Ytmoabfaimcafjaa.Facts
