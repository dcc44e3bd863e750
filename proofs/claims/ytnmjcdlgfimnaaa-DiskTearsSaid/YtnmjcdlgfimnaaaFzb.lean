/- A round's end, a row being open. -/
import Derived.Test.YtnmjcdlgfimnaaaFza
namespace Go.Proofs.Ytnmjcdlgfimnaaa
def SymSt.shut (s : SymSt) {α : Type} (A : Rep α) (m id : Nat) (M : Int → List α) (V : Int → Value) (k : Int) (l : List α) : SymSt := ⟨s.sl, rmM (setM s.mem m (.mpr A (updM M k l) V none)) id, s.pins⟩
theorem GLe.shut {s : SymSt} {α : Type} {A : Rep α} {m id : Nat} {M : Int → List α} {V : Int → Value} {k : Int} {l : List α} (hg : getM s.mem m = some (.mpr A M V (some (k, some id)))) (hgd : getM s.mem id = some (.arr A l)) : GLe (s.shut A m id M V k l) s :=
  ⟨rfl, fun _ G γ _ _ hs => ⟨G, γ, Hp.le_refl G, ⟨hs.sl, hs.mem.closeRow hg hgd, hs.df, hs.pn⟩⟩⟩
theorem loopK_row {ι : Type} {ok : ι → Prop} {St : ι → SymSt} {μ : ι → Nat} {i : ι} {K : KC} {s : SymSt} {α : Type} {A : Rep α} (m id : Nat) {M : Int → List α} {V : Int → Value} {k : Int} {l : List α} (hg : getM s.mem m = some (.mpr A M V (some (k, some id)))) (hgd : getM s.mem id = some (.arr A l))
    (j : ι) (h : ok j) (hm : μ j < μ i) (hl : Le2 (St j) (s.shut A m id M V k l)) : loopK ok St μ i K .normal s := by
  unfold loopK
  exact ⟨j, h, hm, GLe.trans (.of_le2 hl) (.shut hg hgd)⟩
attribute [push_cast] SymSt.shut
end Go.Proofs.Ytnmjcdlgfimnaaa
