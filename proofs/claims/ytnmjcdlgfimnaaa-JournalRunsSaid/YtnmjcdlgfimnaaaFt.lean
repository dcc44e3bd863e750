/- The types of this translation, as the contracts use them. -/
import Derived.Test.YtnmjcdlgfimnaaaFs
import Derived.Test.YtnmjcdlgfimnaaaProg
namespace Go.Proofs.Ytnmjcdlgfimnaaa
def Rep.zcells : {α : Type} → Rep α → List Value
 | _, .int k => [.int k 0]
 | _, .bool => [.bool false]
 | _, .str => [.string ⟨#[]⟩]
 | _, .unit => []
 | _, .pair A B => A.zcells ++ B.zcells
 | _, .arr n A => (List.replicate n A.zcells).flatten
 | _, .slice _ => [.slice none 0 0]
 | _, .iso A _ _ _ _ => A.zcells
theorem Rep.zenc : {α : Type} → (R : Rep α) → (G : Hp) → R.enc G R.zero R.zcells
 | _, .int _, _ => ⟨rfl, Qmc _⟩
 | _, .bool, _ => rfl
 | _, .str, _ => ⟨rfl, Nat.zero_le _⟩
 | _, .unit, _ => rfl
 | _, .pair A B, G => (enc_pair A B G _ _).2 ⟨_, _, rfl, A.zenc G, B.zenc G⟩
 | _, .arr n A, G => by
  refine (enc_arr n A G _ _).2 ⟨by simp [zero, Qc1], ?_⟩
  have h := A.zenc G
  show EncL _ (List.replicate n A.zero) (List.replicate n A.zcells).flatten
  induction n with
  | zero => rfl
  | succ n ih => exact ⟨A.zcells, (List.replicate n A.zcells).flatten, by simp [List.replicate_succ], h, ih⟩
 | _, .slice _, G => (enc_slice _ G _ _).2 ⟨none, 0, rfl, Nat.le_refl _, Nat.zero_le _, fun _ => rfl, .inl rfl⟩
 | _, .iso A to of h h', G => (enc_iso A to of h h' G _ _).2 (by show A.enc G (to (of A.zero)) A.zcells; rw [h']; exact A.zenc G)
theorem Qb8.ofRep {P : Program} {t : TypeId} (d : TD) (α : Type) (A : Rep α) (sz bytes : Nat) (hi : (P.info? t).map (fun i => (i.size, i.bytes, i.zero.map fun z => z.cells.toList)) = some (sz, bytes, some A.zcells))
    (hd : d.fits P t) (hs : A.size = sz) (hag : A.agg = d.agg) (hg : ∀ n e, d = .arr n e → P.eqGuardType P.depth t = false) : Qb8 P t ⟨d, sz, bytes, [A.leaf A.zero], some ⟨α, A⟩⟩ := by
 cases hx : P.info? t with
 | none => rw [hx] at hi; simp at hi
 | some x =>
  rw [hx] at hi
  simp only [Option.map_some, Option.some.injEq, Prod.mk.injEq, Option.map_eq_some_iff] at hi
  obtain ⟨h1, h2, z, hz, h3⟩ := hi
  refine ⟨⟨x, z, hx, h1, h2, hz, fun G γ => ?_⟩, fun h => ?_, hd, ?_, ?_, hg⟩
  ·rw [h3]; exact .one ((A.leaf_rel G γ _ _).2 (A.zenc G))
  ·have := A.size_of_not_agg (hag.trans h); simp only at *; omega
  ·rintro r hr G z' x' hx' hz'
   simp only [Option.some.injEq] at hr
   subst hr
   rw [hx] at hx'
   simp only [Option.some.injEq] at hx'
   subst hx'
   rw [hz] at hz'
   simp only [Option.some.injEq] at hz'
   subst hz'
   simp only [h3]
   exact A.zenc G
  ·rintro r hr
   simp only [Option.some.injEq] at hr
   subst hr
   exact hag
theorem Qb8.ofLeaves {P : Program} {t : TypeId} (d : TD) (sz bytes : Nat) (l : List LV) (cs : List Value) (hi : (P.info? t).map (fun i => (i.size, i.bytes, i.zero.map fun z => z.cells.toList)) = some (sz, bytes, some cs))
    (hd : d.fits P t) (hl : ∀ (G : Hp) (γ : Nat → Value), Qb5 G γ l cs) (hag : d.agg = false → sz = 1) (hg : ∀ n e, d ≠ .arr n e) : Qb8 P t ⟨d, sz, bytes, l, none⟩ := by
 cases hx : P.info? t with
 | none => rw [hx] at hi; simp at hi
 | some x =>
  rw [hx] at hi
  simp only [Option.map_some, Option.some.injEq, Prod.mk.injEq, Option.map_eq_some_iff] at hi
  obtain ⟨h1, h2, z, hz, h3⟩ := hi
  exact ⟨⟨x, z, hx, h1, h2, hz, fun G γ => by rw [h3]; exact hl G γ⟩, hag, hd, by simp, by simp, fun n e h => absurd h (hg n e)⟩
abbrev T2 : TyI := ⟨.int .i64, 1, 8, [(.int .i64 : Rep (Int)).leaf (.int .i64 : Rep (Int)).zero], some ⟨Int, .int .i64⟩⟩
theorem Q0y : Qb8 Try.prog 2 T2 := Qb8.ofRep _ _ (.int .i64 : Rep (Int)) _ _ (by kernel_rfl) Try.underlying2 rfl rfl (fun _ _ h => by cases h)
abbrev T3 : TyI := ⟨.int .i64, 1, 8, [(.int .i64 : Rep (Int)).leaf (.int .i64 : Rep (Int)).zero], some ⟨Int, .int .i64⟩⟩
theorem Q0t : Qb8 Try.prog 3 T3 := Qb8.ofRep _ _ (.int .i64 : Rep (Int)) _ _ (by kernel_rfl) Try.underlying3 rfl rfl (fun _ _ h => by cases h)
abbrev T4 : TyI := ⟨.bool, 1, 1, [(.bool : Rep (Bool)).leaf (.bool : Rep (Bool)).zero], some ⟨Bool, .bool⟩⟩
theorem Q1j : Qb8 Try.prog 4 T4 := Qb8.ofRep _ _ (.bool : Rep (Bool)) _ _ (by kernel_rfl) Try.underlying4 rfl rfl (fun _ _ h => by cases h)
abbrev T5 : TyI := ⟨.int .u8, 1, 1, [(.int .u8 : Rep (Int)).leaf (.int .u8 : Rep (Int)).zero], some ⟨Int, .int .u8⟩⟩
theorem Q06 : Qb8 Try.prog 5 T5 := Qb8.ofRep _ _ (.int .u8 : Rep (Int)) _ _ (by kernel_rfl) Try.underlying5 rfl rfl (fun _ _ h => by cases h)
abbrev T9 : TyI := ⟨.str, 1, 16, [(.str : Rep (List UInt8)).leaf (.str : Rep (List UInt8)).zero], some ⟨List UInt8, .str⟩⟩
theorem Q09 : Qb8 Try.prog 9 T9 := Qb8.ofRep _ _ (.str : Rep (List UInt8)) _ _ (by kernel_rfl) Try.underlying9 rfl rfl (fun _ _ h => by cases h)
abbrev T12 : TyI := ⟨.int .u64, 1, 8, [(.int .u64 : Rep (Int)).leaf (.int .u64 : Rep (Int)).zero], some ⟨Int, .int .u64⟩⟩
theorem Q0a : Qb8 Try.prog 12 T12 := Qb8.ofRep _ _ (.int .u64 : Rep (Int)) _ _ (by kernel_rfl) Try.underlying12 rfl rfl (fun _ _ h => by cases h)
abbrev T21 : TyI := ⟨.int .i32, 1, 4, [(.int .i32 : Rep (Int)).leaf (.int .i32 : Rep (Int)).zero], some ⟨Int, .int .i32⟩⟩
theorem Qy0 : Qb8 Try.prog 21 T21 := Qb8.ofRep _ _ (.int .i32 : Rep (Int)) _ _ (by kernel_rfl) Try.underlying21 rfl rfl (fun _ _ h => by cases h)
abbrev T23 : TyI := ⟨.ptr, 1, 8, [.nilp], none⟩
theorem Qys : Qb8 Try.prog 23 T23 := Qb8.ofLeaves _ _ _ _ [.pointer none] (by kernel_rfl) ⟨_, Try.underlying23⟩ (fun _ _ => .one rfl) (fun _ => rfl) (fun _ _ h => by cases h)
abbrev T26 : TyI := ⟨.arr 4 3, 4, 32, [(.arr 4 (.int .i64) : Rep (List Int)).leaf (.arr 4 (.int .i64) : Rep (List Int)).zero], some ⟨List Int, .arr 4 (.int .i64)⟩⟩
theorem Qyq : Qb8 Try.prog 26 T26 := Qb8.ofRep _ _ (.arr 4 (.int .i64) : Rep (List Int)) _ _ (by kernel_rfl) Try.underlying26 rfl rfl (fun _ _ _ => by kernel_rfl)
abbrev T27 : TyI := ⟨.arr 64 5, 64, 64, [(.arr 64 (.int .u8) : Rep (List Int)).leaf (.arr 64 (.int .u8) : Rep (List Int)).zero], some ⟨List Int, .arr 64 (.int .u8)⟩⟩
theorem Q0e : Qb8 Try.prog 27 T27 := Qb8.ofRep _ _ (.arr 64 (.int .u8) : Rep (List Int)) _ _ (by kernel_rfl) Try.underlying27 rfl rfl (fun _ _ _ => by kernel_rfl)
abbrev T28 : TyI := ⟨.arr 64 5, 64, 64, [(.arr 64 (.int .u8) : Rep (List Int)).leaf (.arr 64 (.int .u8) : Rep (List Int)).zero], some ⟨List Int, .arr 64 (.int .u8)⟩⟩
theorem Qze : Qb8 Try.prog 28 T28 := Qb8.ofRep _ _ (.arr 64 (.int .u8) : Rep (List Int)) _ _ (by kernel_rfl) Try.underlying28 rfl rfl (fun _ _ _ => by kernel_rfl)
abbrev T29 : TyI := ⟨.int .i64, 1, 8, [(.int .i64 : Rep (Int)).leaf (.int .i64 : Rep (Int)).zero], some ⟨Int, .int .i64⟩⟩
theorem Qzl : Qb8 Try.prog 29 T29 := Qb8.ofRep _ _ (.int .i64 : Rep (Int)) _ _ (by kernel_rfl) Try.underlying29 rfl rfl (fun _ _ h => by cases h)
abbrev T32 : TyI := ⟨.slice 3, 1, 24, [(.slice (.int .i64) : Rep (List Int)).leaf (.slice (.int .i64) : Rep (List Int)).zero], some ⟨List Int, .slice (.int .i64)⟩⟩
theorem Qyx : Qb8 Try.prog 32 T32 := Qb8.ofRep _ _ (.slice (.int .i64) : Rep (List Int)) _ _ (by kernel_rfl) Try.underlying32 rfl rfl (fun _ _ h => by cases h)
abbrev T39 : TyI := ⟨.arr 3 5, 3, 3, [(.arr 3 (.int .u8) : Rep (List Int)).leaf (.arr 3 (.int .u8) : Rep (List Int)).zero], some ⟨List Int, .arr 3 (.int .u8)⟩⟩
theorem Qz7 : Qb8 Try.prog 39 T39 := Qb8.ofRep _ _ (.arr 3 (.int .u8) : Rep (List Int)) _ _ (by kernel_rfl) Try.underlying39 rfl rfl (fun _ _ _ => by kernel_rfl)
abbrev T40 : TyI := ⟨.arr 3 3, 3, 24, [(.arr 3 (.int .i64) : Rep (List Int)).leaf (.arr 3 (.int .i64) : Rep (List Int)).zero], some ⟨List Int, .arr 3 (.int .i64)⟩⟩
theorem Qz6 : Qb8 Try.prog 40 T40 := Qb8.ofRep _ _ (.arr 3 (.int .i64) : Rep (List Int)) _ _ (by kernel_rfl) Try.underlying40 rfl rfl (fun _ _ _ => by kernel_rfl)
abbrev T43 : TyI := ⟨.slice 45, 1, 24, [(.slice (Qcb) : Rep (List Qc6)).leaf (.slice (Qcb) : Rep (List Qc6)).zero], some ⟨List Qc6, .slice (Qcb)⟩⟩
theorem Qzd : Qb8 Try.prog 43 T43 := Qb8.ofRep _ _ (.slice (Qcb) : Rep (List Qc6)) _ _ (by kernel_rfl) Try.underlying43 rfl rfl (fun _ _ h => by cases h)
abbrev T44 : TyI := ⟨.struct [(0, 3), (1, 3), (2, 5), (3, 32)], 4, 48, [(Qcb : Rep (Qc6)).leaf (Qcb : Rep (Qc6)).zero], some ⟨Qc6, Qcb⟩⟩
theorem Qzj : Qb8 Try.prog 44 T44 := Qb8.ofRep _ _ (Qcb : Rep (Qc6)) _ _ (by kernel_rfl) ⟨_, Try.underlying44, rfl⟩ rfl rfl (fun _ _ h => by cases h)
abbrev T45 : TyI := ⟨.struct [(0, 3), (1, 3), (2, 5), (3, 32)], 4, 48, [(Qcb : Rep (Qc6)).leaf (Qcb : Rep (Qc6)).zero], some ⟨Qc6, Qcb⟩⟩
theorem Q0g : Qb8 Try.prog 45 T45 := Qb8.ofRep _ _ (Qcb : Rep (Qc6)) _ _ (by kernel_rfl) ⟨_, Try.underlying45, rfl⟩ rfl rfl (fun _ _ h => by cases h)
abbrev T46 : TyI := ⟨.arr 4 28, 256, 256, [(.arr 4 (.arr 64 (.int .u8)) : Rep (List (List Int))).leaf (.arr 4 (.arr 64 (.int .u8)) : Rep (List (List Int))).zero], some ⟨List (List Int), .arr 4 (.arr 64 (.int .u8))⟩⟩
theorem Qzo : Qb8 Try.prog 46 T46 := Qb8.ofRep _ _ (.arr 4 (.arr 64 (.int .u8)) : Rep (List (List Int))) _ _ (by kernel_rfl) Try.underlying46 rfl rfl (fun _ _ _ => by kernel_rfl)
abbrev T48 : TyI := ⟨.slice 28, 1, 24, [(.slice (.arr 64 (.int .u8)) : Rep (List (List Int))).leaf (.slice (.arr 64 (.int .u8)) : Rep (List (List Int))).zero], some ⟨List (List Int), .slice (.arr 64 (.int .u8))⟩⟩
theorem Qzc : Qb8 Try.prog 48 T48 := Qb8.ofRep _ _ (.slice (.arr 64 (.int .u8)) : Rep (List (List Int))) _ _ (by kernel_rfl) Try.underlying48 rfl rfl (fun _ _ h => by cases h)
abbrev T49 : TyI := ⟨.slice 56, 1, 24, [(.slice (Qb4) : Rep (List Qad)).leaf (.slice (Qb4) : Rep (List Qad)).zero], some ⟨List Qad, .slice (Qb4)⟩⟩
theorem Qy6 : Qb8 Try.prog 49 T49 := Qb8.ofRep _ _ (.slice (Qb4) : Rep (List Qad)) _ _ (by kernel_rfl) Try.underlying49 rfl rfl (fun _ _ h => by cases h)
abbrev T50 : TyI := ⟨.struct [(0, 48), (1, 49), (2, 3), (3, 4)], 4, 64, [(Qa2 : Rep (Qab)).leaf (Qa2 : Rep (Qab)).zero], some ⟨Qab, Qa2⟩⟩
theorem Qzf : Qb8 Try.prog 50 T50 := Qb8.ofRep _ _ (Qa2 : Rep (Qab)) _ _ (by kernel_rfl) ⟨_, Try.underlying50, rfl⟩ rfl rfl (fun _ _ h => by cases h)
abbrev T51 : TyI := ⟨.struct [(0, 48), (1, 49), (2, 3), (3, 4)], 4, 64, [(Qa2 : Rep (Qab)).leaf (Qa2 : Rep (Qab)).zero], some ⟨Qab, Qa2⟩⟩
theorem Qzz : Qb8 Try.prog 51 T51 := Qb8.ofRep _ _ (Qa2 : Rep (Qab)) _ _ (by kernel_rfl) ⟨_, Try.underlying51, rfl⟩ rfl rfl (fun _ _ h => by cases h)
abbrev T55 : TyI := ⟨.struct [(0, 28), (64, 3)], 65, 72, [(Qb4 : Rep (Qad)).leaf (Qb4 : Rep (Qad)).zero], some ⟨Qad, Qb4⟩⟩
theorem Qz2 : Qb8 Try.prog 55 T55 := Qb8.ofRep _ _ (Qb4 : Rep (Qad)) _ _ (by kernel_rfl) ⟨_, Try.underlying55, rfl⟩ rfl rfl (fun _ _ h => by cases h)
abbrev T56 : TyI := ⟨.struct [(0, 28), (64, 3)], 65, 72, [(Qb4 : Rep (Qad)).leaf (Qb4 : Rep (Qad)).zero], some ⟨Qad, Qb4⟩⟩
theorem Qz5 : Qb8 Try.prog 56 T56 := Qb8.ofRep _ _ (Qb4 : Rep (Qad)) _ _ (by kernel_rfl) ⟨_, Try.underlying56, rfl⟩ rfl rfl (fun _ _ h => by cases h)
abbrev T60 : TyI := ⟨.slice 5, 1, 24, [(.slice (.int .u8) : Rep (List Int)).leaf (.slice (.int .u8) : Rep (List Int)).zero], some ⟨List Int, .slice (.int .u8)⟩⟩
theorem Q0i : Qb8 Try.prog 60 T60 := Qb8.ofRep _ _ (.slice (.int .u8) : Rep (List Int)) _ _ (by kernel_rfl) Try.underlying60 rfl rfl (fun _ _ h => by cases h)
abbrev T61 : TyI := ⟨.int .u64, 1, 8, [(.int .u64 : Rep (Int)).leaf (.int .u64 : Rep (Int)).zero], some ⟨Int, .int .u64⟩⟩
theorem Qzh : Qb8 Try.prog 61 T61 := Qb8.ofRep _ _ (.int .u64 : Rep (Int)) _ _ (by kernel_rfl) Try.underlying61 rfl rfl (fun _ _ h => by cases h)
abbrev T66 : TyI := ⟨.arr 2 3, 2, 16, [(.arr 2 (.int .i64) : Rep (List Int)).leaf (.arr 2 (.int .i64) : Rep (List Int)).zero], some ⟨List Int, .arr 2 (.int .i64)⟩⟩
theorem Qyw : Qb8 Try.prog 66 T66 := Qb8.ofRep _ _ (.arr 2 (.int .i64) : Rep (List Int)) _ _ (by kernel_rfl) Try.underlying66 rfl rfl (fun _ _ _ => by kernel_rfl)
abbrev T68 : TyI := ⟨.slice 71, 1, 24, [(.slice (Qb2) : Rep (List Qcr)).leaf (.slice (Qb2) : Rep (List Qcr)).zero], some ⟨List Qcr, .slice (Qb2)⟩⟩
theorem Qy8 : Qb8 Try.prog 68 T68 := Qb8.ofRep _ _ (.slice (Qb2) : Rep (List Qcr)) _ _ (by kernel_rfl) Try.underlying68 rfl rfl (fun _ _ h => by cases h)
abbrev T70 : TyI := ⟨.struct [(0, 3), (1, 3), (2, 61), (3, 60), (4, 32)], 5, 72, [(Qb2 : Rep (Qcr)).leaf (Qb2 : Rep (Qcr)).zero], some ⟨Qcr, Qb2⟩⟩
theorem Qyj : Qb8 Try.prog 70 T70 := Qb8.ofRep _ _ (Qb2 : Rep (Qcr)) _ _ (by kernel_rfl) ⟨_, Try.underlying70, rfl⟩ rfl rfl (fun _ _ h => by cases h)
abbrev T71 : TyI := ⟨.struct [(0, 3), (1, 3), (2, 61), (3, 60), (4, 32)], 5, 72, [(Qb2 : Rep (Qcr)).leaf (Qb2 : Rep (Qcr)).zero], some ⟨Qcr, Qb2⟩⟩
theorem Q0c : Qb8 Try.prog 71 T71 := Qb8.ofRep _ _ (Qb2 : Rep (Qcr)) _ _ (by kernel_rfl) ⟨_, Try.underlying71, rfl⟩ rfl rfl (fun _ _ h => by cases h)
abbrev T84 : TyI := ⟨.ptr, 1, 8, [.nilp], none⟩
theorem Qzb : Qb8 Try.prog 84 T84 := Qb8.ofLeaves _ _ _ _ [.pointer none] (by kernel_rfl) ⟨_, Try.underlying84⟩ (fun _ _ => .one rfl) (fun _ => rfl) (fun _ _ h => by cases h)
abbrev T85 : TyI := ⟨.slice 60, 1, 24, [(.slice (.slice (.int .u8)) : Rep (List (List Int))).leaf (.slice (.slice (.int .u8)) : Rep (List (List Int))).zero], some ⟨List (List Int), .slice (.slice (.int .u8))⟩⟩
theorem Qy3 : Qb8 Try.prog 85 T85 := Qb8.ofRep _ _ (.slice (.slice (.int .u8)) : Rep (List (List Int))) _ _ (by kernel_rfl) Try.underlying85 rfl rfl (fun _ _ h => by cases h)
abbrev T89 : TyI := ⟨.slice 9, 1, 24, [(.slice (.str) : Rep (List (List UInt8))).leaf (.slice (.str) : Rep (List (List UInt8))).zero], some ⟨List (List UInt8), .slice (.str)⟩⟩
theorem Qyy : Qb8 Try.prog 89 T89 := Qb8.ofRep _ _ (.slice (.str) : Rep (List (List UInt8))) _ _ (by kernel_rfl) Try.underlying89 rfl rfl (fun _ _ h => by cases h)
abbrev T97 : TyI := ⟨.slice 99, 1, 24, [(.slice (Qb2) : Rep (List Qcr)).leaf (.slice (Qb2) : Rep (List Qcr)).zero], some ⟨List Qcr, .slice (Qb2)⟩⟩
theorem Qy1 : Qb8 Try.prog 97 T97 := Qb8.ofRep _ _ (.slice (Qb2) : Rep (List Qcr)) _ _ (by kernel_rfl) Try.underlying97 rfl rfl (fun _ _ h => by cases h)
abbrev T99 : TyI := ⟨.struct [(0, 3), (1, 3), (2, 61), (3, 60), (4, 32)], 5, 72, [(Qb2 : Rep (Qcr)).leaf (Qb2 : Rep (Qcr)).zero], some ⟨Qcr, Qb2⟩⟩
theorem Qzk : Qb8 Try.prog 99 T99 := Qb8.ofRep _ _ (Qb2 : Rep (Qcr)) _ _ (by kernel_rfl) ⟨_, Try.underlying99, rfl⟩ rfl rfl (fun _ _ h => by cases h)
abbrev Qxy : TyI := ⟨.slice 103, 1, 24, [(.slice (Qb2) : Rep (List Qcr)).leaf (.slice (Qb2) : Rep (List Qcr)).zero], some ⟨List Qcr, .slice (Qb2)⟩⟩
theorem Qwa : Qb8 Try.prog 101 Qxy := Qb8.ofRep _ _ (.slice (Qb2) : Rep (List Qcr)) _ _ (by kernel_rfl) Try.underlying101 rfl rfl (fun _ _ h => by cases h)
abbrev Qx0 : TyI := ⟨.struct [(0, 3), (1, 3), (2, 61), (3, 60), (4, 32)], 5, 72, [(Qb2 : Rep (Qcr)).leaf (Qb2 : Rep (Qcr)).zero], some ⟨Qcr, Qb2⟩⟩
theorem Qwd : Qb8 Try.prog 103 Qx0 := Qb8.ofRep _ _ (Qb2 : Rep (Qcr)) _ _ (by kernel_rfl) ⟨_, Try.underlying103, rfl⟩ rfl rfl (fun _ _ h => by cases h)
abbrev Qxk : TyI := ⟨.ptr, 1, 8, [.nilp], none⟩
theorem Qwo : Qb8 Try.prog 110 Qxk := Qb8.ofLeaves _ _ _ _ [.pointer none] (by kernel_rfl) ⟨_, Try.underlying110⟩ (fun _ _ => .one rfl) (fun _ => rfl) (fun _ _ h => by cases h)
abbrev Qxm : TyI := ⟨.slice 121, 1, 24, [(.slice (Qce) : Rep (List Qct)).leaf (.slice (Qce) : Rep (List Qct)).zero], some ⟨List Qct, .slice (Qce)⟩⟩
theorem Qw8 : Qb8 Try.prog 116 Qxm := Qb8.ofRep _ _ (.slice (Qce) : Rep (List Qct)) _ _ (by kernel_rfl) Try.underlying116 rfl rfl (fun _ _ h => by cases h)
abbrev Qxt : TyI := ⟨.struct [(0, 9), (1, 89)], 2, 40, [(Qci : Rep (Qdm)).leaf (Qci : Rep (Qdm)).zero], some ⟨Qdm, Qci⟩⟩
theorem Qv8 : Qb8 Try.prog 118 Qxt := Qb8.ofRep _ _ (Qci : Rep (Qdm)) _ _ (by kernel_rfl) ⟨_, Try.underlying118, rfl⟩ rfl rfl (fun _ _ h => by cases h)
abbrev Qye : TyI := ⟨.struct [(0, 9), (1, 89)], 2, 40, [(Qci : Rep (Qdm)).leaf (Qci : Rep (Qdm)).zero], some ⟨Qdm, Qci⟩⟩
theorem Qxe : Qb8 Try.prog 119 Qye := Qb8.ofRep _ _ (Qci : Rep (Qdm)) _ _ (by kernel_rfl) ⟨_, Try.underlying119, rfl⟩ rfl rfl (fun _ _ h => by cases h)
abbrev Qxq : TyI := ⟨.struct [(0, 3), (1, 3), (2, 60), (3, 32)], 4, 64, [(Qce : Rep (Qct)).leaf (Qce : Rep (Qct)).zero], some ⟨Qct, Qce⟩⟩
theorem Qw3 : Qb8 Try.prog 120 Qxq := Qb8.ofRep _ _ (Qce : Rep (Qct)) _ _ (by kernel_rfl) ⟨_, Try.underlying120, rfl⟩ rfl rfl (fun _ _ h => by cases h)
abbrev Qx3 : TyI := ⟨.struct [(0, 3), (1, 3), (2, 60), (3, 32)], 4, 64, [(Qce : Rep (Qct)).leaf (Qce : Rep (Qct)).zero], some ⟨Qct, Qce⟩⟩
theorem Qwl : Qb8 Try.prog 121 Qx3 := Qb8.ofRep _ _ (Qce : Rep (Qct)) _ _ (by kernel_rfl) ⟨_, Try.underlying121, rfl⟩ rfl rfl (fun _ _ h => by cases h)
abbrev Qxl : TyI := ⟨.struct [(0, 51), (4, 3), (5, 3), (6, 61)], 7, 88, [(Qb9 : Rep (Qdb)).leaf (Qb9 : Rep (Qdb)).zero], some ⟨Qdb, Qb9⟩⟩
theorem Qws : Qb8 Try.prog 124 Qxl := Qb8.ofRep _ _ (Qb9 : Rep (Qdb)) _ _ (by kernel_rfl) ⟨_, Try.underlying124, rfl⟩ rfl rfl (fun _ _ h => by cases h)
abbrev Qx6 : TyI := ⟨.struct [(0, 51), (4, 3), (5, 3), (6, 61)], 7, 88, [(Qb9 : Rep (Qdb)).leaf (Qb9 : Rep (Qdb)).zero], some ⟨Qdb, Qb9⟩⟩
theorem Qw0 : Qb8 Try.prog 125 Qx6 := Qb8.ofRep _ _ (Qb9 : Rep (Qdb)) _ _ (by kernel_rfl) ⟨_, Try.underlying125, rfl⟩ rfl rfl (fun _ _ h => by cases h)
abbrev Qxx : TyI := ⟨.struct [(0, 125), (7, 3), (8, 4)], 9, 104, [(Qa4 : Rep (Qbw)).leaf (Qa4 : Rep (Qbw)).zero], some ⟨Qbw, Qa4⟩⟩
theorem Qxd : Qb8 Try.prog 126 Qxx := Qb8.ofRep _ _ (Qa4 : Rep (Qbw)) _ _ (by kernel_rfl) ⟨_, Try.underlying126, rfl⟩ rfl rfl (fun _ _ h => by cases h)
abbrev Qyc : TyI := ⟨.struct [(0, 125), (7, 3), (8, 4)], 9, 104, [(Qa4 : Rep (Qbw)).leaf (Qa4 : Rep (Qbw)).zero], some ⟨Qbw, Qa4⟩⟩
theorem Qw2 : Qb8 Try.prog 127 Qyc := Qb8.ofRep _ _ (Qa4 : Rep (Qbw)) _ _ (by kernel_rfl) ⟨_, Try.underlying127, rfl⟩ rfl rfl (fun _ _ h => by cases h)
abbrev Qx4 : TyI := ⟨.map 3 48, 1, 8, [.nilm], none⟩
theorem Qwk : Qb8 Try.prog 135 Qx4 := Qb8.ofLeaves _ _ _ _ [.map none] (by kernel_rfl) Try.underlying135 (fun _ _ => .one rfl) (fun _ => rfl) (fun _ _ h => by cases h)
abbrev Qxr : TyI := ⟨.slice 143, 1, 24, [(.slice (Qa8) : Rep (List Qbq)).leaf (.slice (Qa8) : Rep (List Qbq)).zero], some ⟨List Qbq, .slice (Qa8)⟩⟩
theorem Qwu : Qb8 Try.prog 136 Qxr := Qb8.ofRep _ _ (.slice (Qa8) : Rep (List Qbq)) _ _ (by kernel_rfl) Try.underlying136 rfl rfl (fun _ _ h => by cases h)
abbrev Qxw : TyI := ⟨.ptr, 1, 8, [.nilp], none⟩
theorem Qw4 : Qb8 Try.prog 137 Qxw := Qb8.ofLeaves _ _ _ _ [.pointer none] (by kernel_rfl) ⟨_, Try.underlying137⟩ (fun _ _ => .one rfl) (fun _ => rfl) (fun _ _ h => by cases h)
abbrev Qxh : TyI := ⟨.struct [(0, 135), (1, 3), (2, 136), (3, 137), (4, 4)], 5, 56, [.nilm, (.int .i64 : Rep (Int)).leaf (.int .i64 : Rep (Int)).zero, .nils, .nilp, (.bool : Rep (Bool)).leaf (.bool : Rep (Bool)).zero], none⟩
theorem Qv9 : Qb8 Try.prog 138 Qxh := Qb8.ofLeaves _ _ _ _ ([.map none] ++ (.int .i64 : Rep (Int)).zcells ++ [.slice none 0 0] ++ [.pointer none] ++ (.bool : Rep (Bool)).zcells) (by kernel_rfl) ⟨_, Try.underlying138, rfl⟩ (fun G γ => by simpa only [List.append_assoc, List.append_nil] using (show Qb5 G γ _ _ from .cons (by exact rfl) (.cons ((Rep.leaf_rel _ _ _ _ _).2 (Rep.zenc _ _)) (.cons (by exact rfl) (.cons (by exact rfl) (.cons ((Rep.leaf_rel _ _ _ _ _).2 (Rep.zenc _ _)) ((show Qb5 G γ [] [] from rfl)))))))) (by simp [TD.agg]) (fun _ _ h => by cases h)
abbrev Qxv : TyI := ⟨.struct [(0, 135), (1, 3), (2, 136), (3, 137), (4, 4)], 5, 56, [.nilm, (.int .i64 : Rep (Int)).leaf (.int .i64 : Rep (Int)).zero, .nils, .nilp, (.bool : Rep (Bool)).leaf (.bool : Rep (Bool)).zero], none⟩
theorem Qwc : Qb8 Try.prog 139 Qxv := Qb8.ofLeaves _ _ _ _ ([.map none] ++ (.int .i64 : Rep (Int)).zcells ++ [.slice none 0 0] ++ [.pointer none] ++ (.bool : Rep (Bool)).zcells) (by kernel_rfl) ⟨_, Try.underlying139, rfl⟩ (fun G γ => by simpa only [List.append_assoc, List.append_nil] using (show Qb5 G γ _ _ from .cons (by exact rfl) (.cons ((Rep.leaf_rel _ _ _ _ _).2 (Rep.zenc _ _)) (.cons (by exact rfl) (.cons (by exact rfl) (.cons ((Rep.leaf_rel _ _ _ _ _).2 (Rep.zenc _ _)) ((show Qb5 G γ [] [] from rfl)))))))) (by simp [TD.agg]) (fun _ _ h => by cases h)
abbrev Qx2 : TyI := ⟨.struct [(0, 3), (1, 3)], 2, 16, [(Qa8 : Rep (Qbq)).leaf (Qa8 : Rep (Qbq)).zero], some ⟨Qbq, Qa8⟩⟩
theorem Qww : Qb8 Try.prog 142 Qx2 := Qb8.ofRep _ _ (Qa8 : Rep (Qbq)) _ _ (by kernel_rfl) ⟨_, Try.underlying142, rfl⟩ rfl rfl (fun _ _ h => by cases h)
abbrev Qxu : TyI := ⟨.struct [(0, 3), (1, 3)], 2, 16, [(Qa8 : Rep (Qbq)).leaf (Qa8 : Rep (Qbq)).zero], some ⟨Qbq, Qa8⟩⟩
theorem Qxc : Qb8 Try.prog 143 Qxu := Qb8.ofRep _ _ (Qa8 : Rep (Qbq)) _ _ (by kernel_rfl) ⟨_, Try.underlying143, rfl⟩ rfl rfl (fun _ _ h => by cases h)
abbrev Qx8 : TyI := ⟨.struct [(0, 23), (1, 3), (2, 3), (3, 61)], 4, 32, [.nilp, (.int .i64 : Rep (Int)).leaf (.int .i64 : Rep (Int)).zero, (.int .i64 : Rep (Int)).leaf (.int .i64 : Rep (Int)).zero, (.int .u64 : Rep (Int)).leaf (.int .u64 : Rep (Int)).zero], none⟩
theorem Qwe : Qb8 Try.prog 154 Qx8 := Qb8.ofLeaves _ _ _ _ ([.pointer none] ++ (.int .i64 : Rep (Int)).zcells ++ (.int .i64 : Rep (Int)).zcells ++ (.int .u64 : Rep (Int)).zcells) (by kernel_rfl) ⟨_, Try.underlying154, rfl⟩ (fun G γ => by simpa only [List.append_assoc, List.append_nil] using (show Qb5 G γ _ _ from .cons (by exact rfl) (.cons ((Rep.leaf_rel _ _ _ _ _).2 (Rep.zenc _ _)) (.cons ((Rep.leaf_rel _ _ _ _ _).2 (Rep.zenc _ _)) (.cons ((Rep.leaf_rel _ _ _ _ _).2 (Rep.zenc _ _)) ((show Qb5 G γ [] [] from rfl))))))) (by simp [TD.agg]) (fun _ _ h => by cases h)
abbrev Qyi : TyI := ⟨.struct [(0, 23), (1, 3), (2, 3), (3, 61)], 4, 32, [.nilp, (.int .i64 : Rep (Int)).leaf (.int .i64 : Rep (Int)).zero, (.int .i64 : Rep (Int)).leaf (.int .i64 : Rep (Int)).zero, (.int .u64 : Rep (Int)).leaf (.int .u64 : Rep (Int)).zero], none⟩
theorem Qwz : Qb8 Try.prog 155 Qyi := Qb8.ofLeaves _ _ _ _ ([.pointer none] ++ (.int .i64 : Rep (Int)).zcells ++ (.int .i64 : Rep (Int)).zcells ++ (.int .u64 : Rep (Int)).zcells) (by kernel_rfl) ⟨_, Try.underlying155, rfl⟩ (fun G γ => by simpa only [List.append_assoc, List.append_nil] using (show Qb5 G γ _ _ from .cons (by exact rfl) (.cons ((Rep.leaf_rel _ _ _ _ _).2 (Rep.zenc _ _)) (.cons ((Rep.leaf_rel _ _ _ _ _).2 (Rep.zenc _ _)) (.cons ((Rep.leaf_rel _ _ _ _ _).2 (Rep.zenc _ _)) ((show Qb5 G γ [] [] from rfl))))))) (by simp [TD.agg]) (fun _ _ h => by cases h)
abbrev Qxo : TyI := ⟨.struct [(0, 23), (1, 3), (2, 84), (3, 4)], 4, 32, [.nilp, (.int .i64 : Rep (Int)).leaf (.int .i64 : Rep (Int)).zero, .nilp, (.bool : Rep (Bool)).leaf (.bool : Rep (Bool)).zero], none⟩
theorem Qw1 : Qb8 Try.prog 165 Qxo := Qb8.ofLeaves _ _ _ _ ([.pointer none] ++ (.int .i64 : Rep (Int)).zcells ++ [.pointer none] ++ (.bool : Rep (Bool)).zcells) (by kernel_rfl) ⟨_, Try.underlying165, rfl⟩ (fun G γ => by simpa only [List.append_assoc, List.append_nil] using (show Qb5 G γ _ _ from .cons (by exact rfl) (.cons ((Rep.leaf_rel _ _ _ _ _).2 (Rep.zenc _ _)) (.cons (by exact rfl) (.cons ((Rep.leaf_rel _ _ _ _ _).2 (Rep.zenc _ _)) ((show Qb5 G γ [] [] from rfl))))))) (by simp [TD.agg]) (fun _ _ h => by cases h)
abbrev Qya : TyI := ⟨.struct [(0, 23), (1, 3), (2, 84), (3, 4)], 4, 32, [.nilp, (.int .i64 : Rep (Int)).leaf (.int .i64 : Rep (Int)).zero, .nilp, (.bool : Rep (Bool)).leaf (.bool : Rep (Bool)).zero], none⟩
theorem Qwq : Qb8 Try.prog 166 Qya := Qb8.ofLeaves _ _ _ _ ([.pointer none] ++ (.int .i64 : Rep (Int)).zcells ++ [.pointer none] ++ (.bool : Rep (Bool)).zcells) (by kernel_rfl) ⟨_, Try.underlying166, rfl⟩ (fun G γ => by simpa only [List.append_assoc, List.append_nil] using (show Qb5 G γ _ _ from .cons (by exact rfl) (.cons ((Rep.leaf_rel _ _ _ _ _).2 (Rep.zenc _ _)) (.cons (by exact rfl) (.cons ((Rep.leaf_rel _ _ _ _ _).2 (Rep.zenc _ _)) ((show Qb5 G γ [] [] from rfl))))))) (by simp [TD.agg]) (fun _ _ h => by cases h)
abbrev Qyf : TyI := ⟨.ptr, 1, 8, [.nilp], none⟩
theorem Qwm : Qb8 Try.prog 169 Qyf := Qb8.ofLeaves _ _ _ _ [.pointer none] (by kernel_rfl) ⟨_, Try.underlying169⟩ (fun _ _ => .one rfl) (fun _ => rfl) (fun _ _ h => by cases h)
abbrev Qyh : TyI := ⟨.struct [(0, 60), (1, 4)], 2, 32, [(Qbs : Rep (Qcl)).leaf (Qbs : Rep (Qcl)).zero], some ⟨Qcl, Qbs⟩⟩
theorem Qwj : Qb8 Try.prog 179 Qyh := Qb8.ofRep _ _ (Qbs : Rep (Qcl)) _ _ (by kernel_rfl) ⟨_, Try.underlying179, rfl⟩ rfl rfl (fun _ _ h => by cases h)
abbrev Qx1 : TyI := ⟨.struct [(0, 60), (1, 4)], 2, 32, [(Qbs : Rep (Qcl)).leaf (Qbs : Rep (Qcl)).zero], some ⟨Qcl, Qbs⟩⟩
theorem Qwv : Qb8 Try.prog 180 Qx1 := Qb8.ofRep _ _ (Qbs : Rep (Qcl)) _ _ (by kernel_rfl) ⟨_, Try.underlying180, rfl⟩ rfl rfl (fun _ _ h => by cases h)
abbrev Qxi : TyI := ⟨.int .u64, 1, 8, [(.int .u64 : Rep (Int)).leaf (.int .u64 : Rep (Int)).zero], some ⟨Int, .int .u64⟩⟩
theorem Qwh : Qb8 Try.prog 183 Qxi := Qb8.ofRep _ _ (.int .u64 : Rep (Int)) _ _ (by kernel_rfl) Try.underlying183 rfl rfl (fun _ _ h => by cases h)
abbrev Qx7 : TyI := ⟨.int .u32, 1, 4, [(.int .u32 : Rep (Int)).leaf (.int .u32 : Rep (Int)).zero], some ⟨Int, .int .u32⟩⟩
theorem Qv6 : Qb8 Try.prog 185 Qx7 := Qb8.ofRep _ _ (.int .u32 : Rep (Int)) _ _ (by kernel_rfl) Try.underlying185 rfl rfl (fun _ _ h => by cases h)
abbrev Qyg : TyI := ⟨.int .u32, 1, 4, [(.int .u32 : Rep (Int)).leaf (.int .u32 : Rep (Int)).zero], some ⟨Int, .int .u32⟩⟩
theorem Qxb : Qb8 Try.prog 186 Qyg := Qb8.ofRep _ _ (.int .u32 : Rep (Int)) _ _ (by kernel_rfl) Try.underlying186 rfl rfl (fun _ _ h => by cases h)
abbrev Qxp : TyI := ⟨.arr 4 5, 4, 4, [(.arr 4 (.int .u8) : Rep (List Int)).leaf (.arr 4 (.int .u8) : Rep (List Int)).zero], some ⟨List Int, .arr 4 (.int .u8)⟩⟩
theorem Qxa : Qb8 Try.prog 190 Qxp := Qb8.ofRep _ _ (.arr 4 (.int .u8) : Rep (List Int)) _ _ (by kernel_rfl) Try.underlying190 rfl rfl (fun _ _ _ => by kernel_rfl)
abbrev Qxs : TyI := ⟨.struct [(0, 60), (1, 4)], 2, 32, [(Qbt : Rep (Qcm)).leaf (Qbt : Rep (Qcm)).zero], some ⟨Qcm, Qbt⟩⟩
theorem Qwp : Qb8 Try.prog 192 Qxs := Qb8.ofRep _ _ (Qbt : Rep (Qcm)) _ _ (by kernel_rfl) ⟨_, Try.underlying192, rfl⟩ rfl rfl (fun _ _ h => by cases h)
abbrev Qxn : TyI := ⟨.struct [(0, 60), (1, 4)], 2, 32, [(Qbt : Rep (Qcm)).leaf (Qbt : Rep (Qcm)).zero], some ⟨Qcm, Qbt⟩⟩
theorem Qw9 : Qb8 Try.prog 193 Qxn := Qb8.ofRep _ _ (Qbt : Rep (Qcm)) _ _ (by kernel_rfl) ⟨_, Try.underlying193, rfl⟩ rfl rfl (fun _ _ h => by cases h)
abbrev Qyd : TyI := ⟨.slice 61, 1, 24, [(.slice (.int .u64) : Rep (List Int)).leaf (.slice (.int .u64) : Rep (List Int)).zero], some ⟨List Int, .slice (.int .u64)⟩⟩
theorem Qwt : Qb8 Try.prog 194 Qyd := Qb8.ofRep _ _ (.slice (.int .u64) : Rep (List Int)) _ _ (by kernel_rfl) Try.underlying194 rfl rfl (fun _ _ h => by cases h)
abbrev Qx9 : TyI := ⟨.arr 32 3, 32, 256, [(.arr 32 (.int .i64) : Rep (List Int)).leaf (.arr 32 (.int .i64) : Rep (List Int)).zero], some ⟨List Int, .arr 32 (.int .i64)⟩⟩
theorem Qw7 : Qb8 Try.prog 197 Qx9 := Qb8.ofRep _ _ (.arr 32 (.int .i64) : Rep (List Int)) _ _ (by kernel_rfl) Try.underlying197 rfl rfl (fun _ _ _ => by kernel_rfl)
abbrev Qxz : TyI := ⟨.ptr, 1, 8, [.nilp], none⟩
theorem Qwb : Qb8 Try.prog 210 Qxz := Qb8.ofLeaves _ _ _ _ [.pointer none] (by kernel_rfl) ⟨_, Try.underlying210⟩ (fun _ _ => .one rfl) (fun _ => rfl) (fun _ _ h => by cases h)
def Qvm : List (TypeId × TyI) := [(2, T2), (3, T3), (4, T4), (5, T5), (9, T9), (12, T12), (21, T21), (23, T23), (26, T26), (27, T27), (28, T28), (29, T29), (32, T32), (39, T39), (40, T40), (43, T43), (44, T44), (45, T45), (46, T46), (48, T48), (49, T49), (50, T50), (51, T51), (55, T55), (56, T56), (60, T60), (61, T61), (66, T66), (68, T68), (70, T70), (71, T71), (84, T84), (85, T85), (89, T89), (97, T97), (99, T99), (101, Qxy), (103, Qx0), (110, Qxk), (116, Qxm), (118, Qxt), (119, Qye), (120, Qxq), (121, Qx3), (124, Qxl), (125, Qx6), (126, Qxx), (127, Qyc), (135, Qx4), (136, Qxr), (137, Qxw), (138, Qxh), (139, Qxv), (142, Qx2), (143, Qxu), (154, Qx8), (155, Qyi), (165, Qxo), (166, Qya), (169, Qyf), (179, Qyh), (180, Qx1), (183, Qxi), (185, Qx7), (186, Qyg), (190, Qxp), (192, Qxs), (193, Qxn), (194, Qyd), (197, Qx9), (210, Qxz)]
def Qy4 (t : TypeId) : Option TyI := (Qvm.find? fun e => e.1 == t).map (·.2)
theorem Qs1 : ∀ e ∈ Qvm, Qb8 Try.prog e.1 e.2 := by
 intro e he
 simp only [Qvm, List.mem_cons, List.not_mem_nil, or_false] at he
 rcases he with rfl | rfl | rfl | rfl | rfl | rfl | rfl | rfl | rfl | rfl | rfl | rfl | rfl | rfl | rfl | rfl | rfl | rfl | rfl | rfl | rfl | rfl | rfl | rfl | rfl | rfl | rfl | rfl | rfl | rfl | rfl | rfl | rfl | rfl | rfl | rfl | rfl | rfl | rfl | rfl | rfl | rfl | rfl | rfl | rfl | rfl | rfl | rfl | rfl | rfl | rfl | rfl | rfl | rfl | rfl | rfl | rfl | rfl | rfl | rfl | rfl | rfl | rfl | rfl | rfl | rfl | rfl | rfl | rfl | rfl | rfl
 ·exact Q0y
 ·exact Q0t
 ·exact Q1j
 ·exact Q06
 ·exact Q09
 ·exact Q0a
 ·exact Qy0
 ·exact Qys
 ·exact Qyq
 ·exact Q0e
 ·exact Qze
 ·exact Qzl
 ·exact Qyx
 ·exact Qz7
 ·exact Qz6
 ·exact Qzd
 ·exact Qzj
 ·exact Q0g
 ·exact Qzo
 ·exact Qzc
 ·exact Qy6
 ·exact Qzf
 ·exact Qzz
 ·exact Qz2
 ·exact Qz5
 ·exact Q0i
 ·exact Qzh
 ·exact Qyw
 ·exact Qy8
 ·exact Qyj
 ·exact Q0c
 ·exact Qzb
 ·exact Qy3
 ·exact Qyy
 ·exact Qy1
 ·exact Qzk
 ·exact Qwa
 ·exact Qwd
 ·exact Qwo
 ·exact Qw8
 ·exact Qv8
 ·exact Qxe
 ·exact Qw3
 ·exact Qwl
 ·exact Qws
 ·exact Qw0
 ·exact Qxd
 ·exact Qw2
 ·exact Qwk
 ·exact Qwu
 ·exact Qw4
 ·exact Qv9
 ·exact Qwc
 ·exact Qww
 ·exact Qxc
 ·exact Qwe
 ·exact Qwz
 ·exact Qw1
 ·exact Qwq
 ·exact Qwm
 ·exact Qwj
 ·exact Qwv
 ·exact Qwh
 ·exact Qv6
 ·exact Qxb
 ·exact Qxa
 ·exact Qwp
 ·exact Qw9
 ·exact Qwt
 ·exact Qw7
 ·exact Qwb
theorem Qu7 (t : TypeId) (i : TyI) (h : Qy4 t = some i) : Qb8 Try.prog t i := by
 unfold Qy4 at h
 simp only [Option.map_eq_some_iff] at h
 obtain ⟨e, he, rfl⟩ := h
 have h1 := List.mem_of_find?_eq_some he
 have h2 := List.find?_some he
 simp only [beq_iff_eq] at h2
 subst h2
 exact Qs1 e h1
noncomputable def Cx : Ctx := ⟨Try.prog, Qy4, Qu7⟩
theorem Q0n : (Cx.P.info? 48).bind (·.zero) = some (.slice none 0 0) := by kernel_rfl
attribute [push_cast] Q0n
theorem ty2 : Cx.ty 2 = some T2 := rfl
theorem ty3 : Cx.ty 3 = some T3 := rfl
theorem ty4 : Cx.ty 4 = some T4 := rfl
theorem ty5 : Cx.ty 5 = some T5 := rfl
theorem ty9 : Cx.ty 9 = some T9 := rfl
theorem Q0w : Cx.ty 12 = some T12 := rfl
theorem Q02 : Cx.ty 21 = some T21 := rfl
theorem Q1l : Cx.ty 23 = some T23 := rfl
theorem Q1i : Cx.ty 26 = some T26 := rfl
theorem Q0u : Cx.ty 27 = some T27 := rfl
theorem Q0m : Cx.ty 28 = some T28 := rfl
theorem Q0r : Cx.ty 29 = some T29 := rfl
theorem Q1a : Cx.ty 32 = some T32 := rfl
theorem Q0q : Cx.ty 39 = some T39 := rfl
theorem Q1n : Cx.ty 40 = some T40 := rfl
theorem Q0v : Cx.ty 43 = some T43 := rfl
theorem Q07 : Cx.ty 44 = some T44 := rfl
theorem Q1e : Cx.ty 45 = some T45 := rfl
theorem Q0s : Cx.ty 46 = some T46 := rfl
theorem Q1g : Cx.ty 48 = some T48 := rfl
theorem Q05 : Cx.ty 49 = some T49 := rfl
theorem Q0p : Cx.ty 50 = some T50 := rfl
theorem Q03 : Cx.ty 51 = some T51 := rfl
theorem Q0z : Cx.ty 55 = some T55 := rfl
theorem Q1c : Cx.ty 56 = some T56 := rfl
theorem Q04 : Cx.ty 60 = some T60 := rfl
theorem Q1d : Cx.ty 61 = some T61 := rfl
theorem Q1b : Cx.ty 66 = some T66 := rfl
theorem Q08 : Cx.ty 68 = some T68 := rfl
theorem Q1h : Cx.ty 70 = some T70 := rfl
theorem Q0l : Cx.ty 71 = some T71 := rfl
theorem Q01 : Cx.ty 84 = some T84 := rfl
theorem Q1f : Cx.ty 85 = some T85 := rfl
theorem Q0x : Cx.ty 89 = some T89 := rfl
theorem Q1k : Cx.ty 97 = some T97 := rfl
theorem Q1m : Cx.ty 99 = some T99 := rfl
theorem Qy2 : Cx.ty 101 = some Qxy := rfl
theorem Qz1 : Cx.ty 103 = some Qx0 := rfl
theorem Qza : Cx.ty 110 = some Qxk := rfl
theorem Qzt : Cx.ty 116 = some Qxm := rfl
theorem Qzi : Cx.ty 118 = some Qxt := rfl
theorem Qyr : Cx.ty 119 = some Qye := rfl
theorem Q0h : Cx.ty 120 = some Qxq := rfl
theorem Q0d : Cx.ty 121 = some Qx3 := rfl
theorem Q0f : Cx.ty 124 = some Qxl := rfl
theorem Qz3 : Cx.ty 125 = some Qx6 := rfl
theorem Qyo : Cx.ty 126 = some Qxx := rfl
theorem Qzu : Cx.ty 127 = some Qyc := rfl
theorem Qzv : Cx.ty 135 = some Qx4 := rfl
theorem Qzq : Cx.ty 136 = some Qxr := rfl
theorem Qyu : Cx.ty 137 = some Qxw := rfl
theorem Qzr : Cx.ty 138 = some Qxh := rfl
theorem Qz9 : Cx.ty 139 = some Qxv := rfl
theorem Qyk : Cx.ty 142 = some Qx2 := rfl
theorem Qzy : Cx.ty 143 = some Qxu := rfl
theorem Qyn : Cx.ty 154 = some Qx8 := rfl
theorem Qyv : Cx.ty 155 = some Qyi := rfl
theorem Qy7 : Cx.ty 165 = some Qxo := rfl
theorem Q0b : Cx.ty 166 = some Qya := rfl
theorem Qzw : Cx.ty 169 = some Qyf := rfl
theorem Qzp : Cx.ty 179 = some Qyh := rfl
theorem Qzs : Cx.ty 180 = some Qx1 := rfl
theorem Qyp : Cx.ty 183 = some Qxi := rfl
theorem Qyt : Cx.ty 185 = some Qx7 := rfl
theorem Qzm : Cx.ty 186 = some Qyg := rfl
theorem Qzx : Cx.ty 190 = some Qxp := rfl
theorem Qzg : Cx.ty 192 = some Qxs := rfl
theorem Qyz : Cx.ty 193 = some Qxn := rfl
theorem Qz4 : Cx.ty 194 = some Qyd := rfl
theorem Qyl : Cx.ty 197 = some Qx9 := rfl
theorem Qz0 : Cx.ty 210 = some Qxz := rfl
attribute [push_cast] ty2 T2 ty3 T3 ty4 T4 ty5 T5 ty9 T9 Q0w T12 Q02 T21 Q1l T23 Q1i T26 Q0u T27 Q0m T28 Q0r T29 Q1a T32 Q0q T39 Q1n T40 Q0v T43 Q07 T44 Q1e T45 Q0s T46 Q1g T48 Q05 T49 Q0p T50 Q03 T51 Q0z T55 Q1c T56 Q04 T60 Q1d T61 Q1b T66 Q08 T68 Q1h T70 Q0l T71 Q01 T84 Q1f T85 Q0x T89 Q1k T97 Q1m T99 Qy2 Qxy Qz1 Qx0 Qza Qxk Qzt Qxm Qzi Qxt Qyr Qye Q0h Qxq Q0d Qx3 Q0f Qxl Qz3 Qx6 Qyo Qxx Qzu Qyc Qzv Qx4 Qzq Qxr Qyu Qxw Qzr Qxh Qz9 Qxv Qyk Qx2 Qzy Qxu Qyn Qx8 Qyv Qyi Qy7 Qxo Q0b Qya Qzw Qyf Qzp Qyh Qzs Qx1 Qyp Qxi Qyt Qx7 Qzm Qyg Qzx Qxp Qzg Qxs Qyz Qxn Qz4 Qyd Qyl Qx9 Qz0 Qxz
theorem Qux : Qcp Cx.P 22 := ⟨_, Try.func22, by kernel_rfl, by kernel_rfl⟩
theorem Qua : Qcp Cx.P 24 := ⟨_, Try.func24, by kernel_rfl, by kernel_rfl⟩
theorem Qtu : Qcp Cx.P 25 := ⟨_, Try.func25, by kernel_rfl, by kernel_rfl⟩
theorem Qtg : Qcp Cx.P 26 := ⟨_, Try.func26, by kernel_rfl, by kernel_rfl⟩
theorem Qu1 : Qcp Cx.P 27 := ⟨_, Try.func27, by kernel_rfl, by kernel_rfl⟩
theorem Qur : Qcp Cx.P 28 := ⟨_, Try.func28, by kernel_rfl, by kernel_rfl⟩
theorem Qt5 : Qcp Cx.P 29 := ⟨_, Try.func29, by kernel_rfl, by kernel_rfl⟩
theorem Qub : Qcp Cx.P 31 := ⟨_, Try.func31, by kernel_rfl, by kernel_rfl⟩
theorem Qt6 : Qcp Cx.P 32 := ⟨_, Try.func32, by kernel_rfl, by kernel_rfl⟩
theorem Qt8 : Qcp Cx.P 34 := ⟨_, Try.func34, by kernel_rfl, by kernel_rfl⟩
theorem Quv : Qcp Cx.P 36 := ⟨_, Try.func36, by kernel_rfl, by kernel_rfl⟩
theorem Qrg : Qcp Cx.P 37 := ⟨_, Try.func37, by kernel_rfl, by kernel_rfl⟩
theorem Qup : Qcp Cx.P 38 := ⟨_, Try.func38, by kernel_rfl, by kernel_rfl⟩
theorem Qtt : Qcp Cx.P 40 := ⟨_, Try.func40, by kernel_rfl, by kernel_rfl⟩
theorem Que : Qcp Cx.P 42 := ⟨_, Try.func42, by kernel_rfl, by kernel_rfl⟩
theorem Qt9 : Qcp Cx.P 43 := ⟨_, Try.func43, by kernel_rfl, by kernel_rfl⟩
theorem Qul : Qcp Cx.P 44 := ⟨_, Try.func44, by kernel_rfl, by kernel_rfl⟩
theorem Qtw : Qcp Cx.P 45 := ⟨_, Try.func45, by kernel_rfl, by kernel_rfl⟩
theorem Qud : Qcp Cx.P 47 := ⟨_, Try.func47, by kernel_rfl, by kernel_rfl⟩
theorem Qu2 : Qcp Cx.P 48 := ⟨_, Try.func48, by kernel_rfl, by kernel_rfl⟩
theorem Qt4 : Qcp Cx.P 49 := ⟨_, Try.func49, by kernel_rfl, by kernel_rfl⟩
theorem Quu : Qcp Cx.P 50 := ⟨_, Try.func50, by kernel_rfl, by kernel_rfl⟩
theorem Quk : Qcp Cx.P 52 := ⟨_, Try.func52, by kernel_rfl, by kernel_rfl⟩
theorem Qus : Qcp Cx.P 53 := ⟨_, Try.func53, by kernel_rfl, by kernel_rfl⟩
theorem Qte : Qcp Cx.P 54 := ⟨_, Try.func54, by kernel_rfl, by kernel_rfl⟩
theorem Quh : Qcp Cx.P 55 := ⟨_, Try.func55, by kernel_rfl, by kernel_rfl⟩
theorem Qu0 : Qcp Cx.P 56 := ⟨_, Try.func56, by kernel_rfl, by kernel_rfl⟩
theorem Qrn : Qcp Cx.P 57 := ⟨_, Try.func57, by kernel_rfl, by kernel_rfl⟩
theorem Qsm : Qcp Cx.P 58 := ⟨_, Try.func58, by kernel_rfl, by kernel_rfl⟩
theorem Qss : Qcp Cx.P 59 := ⟨_, Try.func59, by kernel_rfl, by kernel_rfl⟩
theorem Qt2 : Qcp Cx.P 63 := ⟨_, Try.func63, by kernel_rfl, by kernel_rfl⟩
theorem Qti : Qcp Cx.P 64 := ⟨_, Try.func64, by kernel_rfl, by kernel_rfl⟩
theorem Qt0 : Qcp Cx.P 65 := ⟨_, Try.func65, by kernel_rfl, by kernel_rfl⟩
theorem Quy : Qcp Cx.P 66 := ⟨_, Try.func66, by kernel_rfl, by kernel_rfl⟩
theorem Qk4 : Qcp Cx.P 67 := ⟨_, Try.func67, by kernel_rfl, by kernel_rfl⟩
theorem Qxf : Qcp Cx.P 68 := ⟨_, Try.func68, by kernel_rfl, by kernel_rfl⟩
theorem Qp4 : Qcp Cx.P 69 := ⟨_, Try.func69, by kernel_rfl, by kernel_rfl⟩
theorem Qts : Qcp Cx.P 70 := ⟨_, Try.func70, by kernel_rfl, by kernel_rfl⟩
theorem Qtn : Qcp Cx.P 71 := ⟨_, Try.func71, by kernel_rfl, by kernel_rfl⟩
theorem Quf : Qcp Cx.P 72 := ⟨_, Try.func72, by kernel_rfl, by kernel_rfl⟩
theorem Qtq : Qcp Cx.P 73 := ⟨_, Try.func73, by kernel_rfl, by kernel_rfl⟩
theorem Qp5 : Qcp Cx.P 75 := ⟨_, Try.func75, by kernel_rfl, by kernel_rfl⟩
theorem Qut : Qcp Cx.P 76 := ⟨_, Try.func76, by kernel_rfl, by kernel_rfl⟩
theorem Qt1 : Qcp Cx.P 77 := ⟨_, Try.func77, by kernel_rfl, by kernel_rfl⟩
theorem Qtp : Qcp Cx.P 78 := ⟨_, Try.func78, by kernel_rfl, by kernel_rfl⟩
theorem Quq : Qcp Cx.P 79 := ⟨_, Try.func79, by kernel_rfl, by kernel_rfl⟩
theorem Quw : Qcp Cx.P 80 := ⟨_, Try.func80, by kernel_rfl, by kernel_rfl⟩
theorem Qtf : Qcp Cx.P 81 := ⟨_, Try.func81, by kernel_rfl, by kernel_rfl⟩
theorem Qtk : Qcp Cx.P 82 := ⟨_, Try.func82, by kernel_rfl, by kernel_rfl⟩
theorem Qtr : Qcp Cx.P 83 := ⟨_, Try.func83, by kernel_rfl, by kernel_rfl⟩
theorem Qtm : Qcp Cx.P 84 := ⟨_, Try.func84, by kernel_rfl, by kernel_rfl⟩
theorem Qt3 : Qcp Cx.P 85 := ⟨_, Try.func85, by kernel_rfl, by kernel_rfl⟩
theorem Quo : Qcp Cx.P 86 := ⟨_, Try.func86, by kernel_rfl, by kernel_rfl⟩
theorem Quz : Qcp Cx.P 87 := ⟨_, Try.func87, by kernel_rfl, by kernel_rfl⟩
theorem Qtx : Qcp Cx.P 88 := ⟨_, Try.func88, by kernel_rfl, by kernel_rfl⟩
theorem Qty : Qcp Cx.P 89 := ⟨_, Try.func89, by kernel_rfl, by kernel_rfl⟩
theorem Qtd : Qcp Cx.P 90 := ⟨_, Try.func90, by kernel_rfl, by kernel_rfl⟩
theorem Quc : Qcp Cx.P 91 := ⟨_, Try.func91, by kernel_rfl, by kernel_rfl⟩
theorem Qth : Qcp Cx.P 92 := ⟨_, Try.func92, by kernel_rfl, by kernel_rfl⟩
theorem Qr8 : Qcp Cx.P 93 := ⟨_, Try.func93, by kernel_rfl, by kernel_rfl⟩
theorem Quj : Qcp Cx.P 94 := ⟨_, Try.func94, by kernel_rfl, by kernel_rfl⟩
theorem Qsd : Qcp Cx.P 95 := ⟨_, Try.func95, by kernel_rfl, by kernel_rfl⟩
theorem Qt7 : Qcp Cx.P 96 := ⟨_, Try.func96, by kernel_rfl, by kernel_rfl⟩
theorem Qtl : Qcp Cx.P 97 := ⟨_, Try.func97, by kernel_rfl, by kernel_rfl⟩
theorem Qui : Qcp Cx.P 98 := ⟨_, Try.func98, by kernel_rfl, by kernel_rfl⟩
theorem Qtj : Qcp Cx.P 99 := ⟨_, Try.func99, by kernel_rfl, by kernel_rfl⟩
theorem Qsc : Qcp Cx.P 100 := ⟨_, Try.func100, by kernel_rfl, by kernel_rfl⟩
theorem Qo4 : Qcp Cx.P 101 := ⟨_, Try.func101, by kernel_rfl, by kernel_rfl⟩
theorem Qj0 : Qcp Cx.P 102 := ⟨_, Try.func102, by kernel_rfl, by kernel_rfl⟩
theorem Qrv : Qcp Cx.P 103 := ⟨_, Try.func103, by kernel_rfl, by kernel_rfl⟩
theorem Qva : Qcp Cx.P 104 := ⟨_, Try.func104, by kernel_rfl, by kernel_rfl⟩
theorem Qvr : Qcp Cx.P 105 := ⟨_, Try.func105, by kernel_rfl, by kernel_rfl⟩
theorem Qrh : Qcp Cx.P 106 := ⟨_, Try.func106, by kernel_rfl, by kernel_rfl⟩
theorem Qre : Qcp Cx.P 107 := ⟨_, Try.func107, by kernel_rfl, by kernel_rfl⟩
theorem Qr0 : Qcp Cx.P 108 := ⟨_, Try.func108, by kernel_rfl, by kernel_rfl⟩
theorem Qrk : Qcp Cx.P 109 := ⟨_, Try.func109, by kernel_rfl, by kernel_rfl⟩
theorem Qsp : Qcp Cx.P 110 := ⟨_, Try.func110, by kernel_rfl, by kernel_rfl⟩
theorem Qpi : Qcp Cx.P 111 := ⟨_, Try.func111, by kernel_rfl, by kernel_rfl⟩
theorem Qsk : Qcp Cx.P 112 := ⟨_, Try.func112, by kernel_rfl, by kernel_rfl⟩
theorem Qr3 : Qcp Cx.P 113 := ⟨_, Try.func113, by kernel_rfl, by kernel_rfl⟩
theorem Qrt : Qcp Cx.P 114 := ⟨_, Try.func114, by kernel_rfl, by kernel_rfl⟩
theorem Qrw : Qcp Cx.P 115 := ⟨_, Try.func115, by kernel_rfl, by kernel_rfl⟩
theorem Qsq : Qcp Cx.P 116 := ⟨_, Try.func116, by kernel_rfl, by kernel_rfl⟩
theorem Qra : Qcp Cx.P 117 := ⟨_, Try.func117, by kernel_rfl, by kernel_rfl⟩
theorem Qrd : Qcp Cx.P 118 := ⟨_, Try.func118, by kernel_rfl, by kernel_rfl⟩
theorem Qov : Qcp Cx.P 119 := ⟨_, Try.func119, by kernel_rfl, by kernel_rfl⟩
theorem Qrl : Qcp Cx.P 121 := ⟨_, Try.func121, by kernel_rfl, by kernel_rfl⟩
theorem Qrs : Qcp Cx.P 123 := ⟨_, Try.func123, by kernel_rfl, by kernel_rfl⟩
theorem Qsh : Qcp Cx.P 124 := ⟨_, Try.func124, by kernel_rfl, by kernel_rfl⟩
theorem Qrq : Qcp Cx.P 125 := ⟨_, Try.func125, by kernel_rfl, by kernel_rfl⟩
theorem Qsf : Qcp Cx.P 126 := ⟨_, Try.func126, by kernel_rfl, by kernel_rfl⟩
theorem Qrx : Qcp Cx.P 127 := ⟨_, Try.func127, by kernel_rfl, by kernel_rfl⟩
end Go.Proofs.Ytnmjcdlgfimnaaa
