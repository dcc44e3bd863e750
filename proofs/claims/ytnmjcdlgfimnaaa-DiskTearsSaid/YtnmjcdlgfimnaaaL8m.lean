/- Chapter 8's statements: plain functions. -/
import Derived.Test.YtnmjcdlgfimnaaaMd
namespace Go.Proofs.Ytnmjcdlgfimnaaa
def paintL (c : Int) : List Int := (List.range 64).map fun (i : Nat) => (c + i) % 256
theorem paintL_len (c : Int) : (paintL c).length = 64 := by simp [paintL]
theorem paint_succ (c : Int) (i : Nat) (h : i < 64) : ((List.range i).map (fun (i : Nat) => (c + i) % 256) ++ repl (64 - i) 0).set i ((c + i) % 256) = (List.range (i + 1)).map (fun (i : Nat) => (c + i) % 256) ++ repl (64 - (i + 1)) 0 := by
  have e : 64 - i = (64 - (i + 1)) + 1 := by omega
  rw [List.range_succ, List.map_append, List.append_assoc, List.set_append_right _ _ (by simp), e]
  simp [repl, List.replicate_succ]
theorem u8_wrap (n : Int) : IntKind.u8.wrap n = n % 256 := by simp [IntKind.wrap, IntKind.signed, IntKind.bits]
theorem mix_at (a b : List Int) (ha : a.length = 64) (hb : b.length = 64) (n : Int) :
    List.take 64 (List.take (min (max n 0) 64 - 0).toNat b ++ List.take (64 - min (max n 0) 64).toNat (List.drop (min (max n 0) 64).toNat a)) = mixTo (min n.toNat 64) a b := by
  have e1 : (min (max n 0) 64 - 0).toNat = min n.toNat 64 := by omega
  have e2 : (min (max n 0) 64).toNat = min n.toNat 64 := by omega
  have e3 : (64 - min (max n 0) 64).toNat = 64 - min n.toNat 64 := by omega
  rw [e1, e2, e3, List.take_of_length_le (i := 64 - min n.toNat 64) (by rw [List.length_drop, ha]; omega), List.take_of_length_le (by simp only [List.length_append, List.length_take, List.length_drop, ha, hb]; omega)]
  rfl
end Go.Proofs.Ytnmjcdlgfimnaaa
