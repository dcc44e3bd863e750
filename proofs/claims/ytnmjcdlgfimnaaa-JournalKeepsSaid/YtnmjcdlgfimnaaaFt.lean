/- The types of this translation, as the contracts use them. -/
import Derived.Test.YtnmjcdlgfimnaaaFs
import Derived.Test.YtnmjcdlgfimnaaaProg
namespace Go.Proofs.Ytnmjcdlgfimnaaa
def Rep.zcells : {α : Type} → Rep α → List Value
  | _, .int k => [.int k 0]
  | _, .bool => [.bool false]
  | _, .str => [.string ⟨#[]⟩]
  | _, .unit => []
  | _, .pair A B => A.zcells ++ B.zcells
  | _, .arr n A => (List.replicate n A.zcells).flatten
  | _, .slice _ => [.slice none 0 0]
  | _, .iso A _ _ _ _ => A.zcells
theorem Rep.zenc : {α : Type} → (R : Rep α) → (G : Hp) → R.enc G R.zero R.zcells
  | _, .int _, _ => ⟨rfl, inK_zero _⟩
  | _, .bool, _ => rfl
  | _, .str, _ => ⟨rfl, Nat.zero_le _⟩
  | _, .unit, _ => rfl
  | _, .pair A B, G => (enc_pair A B G _ _).2 ⟨_, _, rfl, A.zenc G, B.zenc G⟩
  | _, .arr n A, G => by
    refine (enc_arr n A G _ _).2 ⟨by simp [zero, repl], ?_⟩
    have h := A.zenc G
    show EncL _ (List.replicate n A.zero) (List.replicate n A.zcells).flatten
    induction n with
    | zero => rfl
    | succ n ih => exact ⟨A.zcells, (List.replicate n A.zcells).flatten, by simp [List.replicate_succ], h, ih⟩
  | _, .slice _, G => (enc_slice _ G _ _).2 ⟨none, 0, rfl, Nat.le_refl _, Nat.zero_le _, fun _ => rfl, .inl rfl⟩
  | _, .iso A to of h h', G => (enc_iso A to of h h' G _ _).2 (by show A.enc G (to (of A.zero)) A.zcells; rw [h']; exact A.zenc G)
theorem TyOk.ofRep {P : Program} {t : TypeId} (d : TD) (α : Type) (A : Rep α) (sz bytes : Nat) (hi : (P.info? t).map (fun i => (i.size, i.bytes, i.zero.map fun z => z.cells.toList)) = some (sz, bytes, some A.zcells))
    (hd : d.fits P t) (hs : A.size = sz) (hag : A.agg = d.agg) (hg : ∀ n e, d = .arr n e → P.eqGuardType P.depth t = false) : TyOk P t ⟨d, sz, bytes, [A.leaf A.zero], some ⟨α, A⟩⟩ := by
  cases hx : P.info? t with
  | none => rw [hx] at hi; simp at hi
  | some x =>
    rw [hx] at hi
    simp only [Option.map_some, Option.some.injEq, Prod.mk.injEq, Option.map_eq_some_iff] at hi
    obtain ⟨h1, h2, z, hz, h3⟩ := hi
    refine ⟨⟨x, z, hx, h1, h2, hz, fun G γ => ?_⟩, fun h => ?_, hd, ?_, ?_, hg⟩
    · rw [h3]; exact .one ((A.leaf_rel G γ _ _).2 (A.zenc G))
    · have := A.size_of_not_agg (hag.trans h); simp only at *; omega
    · rintro r hr G z' x' hx' hz'
      simp only [Option.some.injEq] at hr
      subst hr
      rw [hx] at hx'
      simp only [Option.some.injEq] at hx'
      subst hx'
      rw [hz] at hz'
      simp only [Option.some.injEq] at hz'
      subst hz'
      simp only [h3]
      exact A.zenc G
    · rintro r hr
      simp only [Option.some.injEq] at hr
      subst hr
      exact hag
theorem TyOk.ofLeaves {P : Program} {t : TypeId} (d : TD) (sz bytes : Nat) (l : List LV) (cs : List Value) (hi : (P.info? t).map (fun i => (i.size, i.bytes, i.zero.map fun z => z.cells.toList)) = some (sz, bytes, some cs))
    (hd : d.fits P t) (hl : ∀ (G : Hp) (γ : Nat → Value), RelL G γ l cs) (hag : d.agg = false → sz = 1) (hg : ∀ n e, d ≠ .arr n e) : TyOk P t ⟨d, sz, bytes, l, none⟩ := by
  cases hx : P.info? t with
  | none => rw [hx] at hi; simp at hi
  | some x =>
    rw [hx] at hi
    simp only [Option.map_some, Option.some.injEq, Prod.mk.injEq, Option.map_eq_some_iff] at hi
    obtain ⟨h1, h2, z, hz, h3⟩ := hi
    exact ⟨⟨x, z, hx, h1, h2, hz, fun G γ => by rw [h3]; exact hl G γ⟩, hag, hd, by simp, by simp, fun n e h => absurd h (hg n e)⟩
abbrev T2 : TyI := ⟨.int .i64, 1, 8, [(.int .i64 : Rep (Int)).leaf (.int .i64 : Rep (Int)).zero], some ⟨Int, .int .i64⟩⟩
theorem tok2 : TyOk Try.prog 2 T2 := TyOk.ofRep _ _ (.int .i64 : Rep (Int)) _ _ (by kernel_rfl) Try.underlying2 rfl rfl (fun _ _ h => by cases h)
abbrev T3 : TyI := ⟨.int .i64, 1, 8, [(.int .i64 : Rep (Int)).leaf (.int .i64 : Rep (Int)).zero], some ⟨Int, .int .i64⟩⟩
theorem tok3 : TyOk Try.prog 3 T3 := TyOk.ofRep _ _ (.int .i64 : Rep (Int)) _ _ (by kernel_rfl) Try.underlying3 rfl rfl (fun _ _ h => by cases h)
abbrev T4 : TyI := ⟨.bool, 1, 1, [(.bool : Rep (Bool)).leaf (.bool : Rep (Bool)).zero], some ⟨Bool, .bool⟩⟩
theorem tok4 : TyOk Try.prog 4 T4 := TyOk.ofRep _ _ (.bool : Rep (Bool)) _ _ (by kernel_rfl) Try.underlying4 rfl rfl (fun _ _ h => by cases h)
abbrev T5 : TyI := ⟨.int .u8, 1, 1, [(.int .u8 : Rep (Int)).leaf (.int .u8 : Rep (Int)).zero], some ⟨Int, .int .u8⟩⟩
theorem tok5 : TyOk Try.prog 5 T5 := TyOk.ofRep _ _ (.int .u8 : Rep (Int)) _ _ (by kernel_rfl) Try.underlying5 rfl rfl (fun _ _ h => by cases h)
abbrev T9 : TyI := ⟨.str, 1, 16, [(.str : Rep (List UInt8)).leaf (.str : Rep (List UInt8)).zero], some ⟨List UInt8, .str⟩⟩
theorem tok9 : TyOk Try.prog 9 T9 := TyOk.ofRep _ _ (.str : Rep (List UInt8)) _ _ (by kernel_rfl) Try.underlying9 rfl rfl (fun _ _ h => by cases h)
abbrev T12 : TyI := ⟨.int .u64, 1, 8, [(.int .u64 : Rep (Int)).leaf (.int .u64 : Rep (Int)).zero], some ⟨Int, .int .u64⟩⟩
theorem tok12 : TyOk Try.prog 12 T12 := TyOk.ofRep _ _ (.int .u64 : Rep (Int)) _ _ (by kernel_rfl) Try.underlying12 rfl rfl (fun _ _ h => by cases h)
abbrev T21 : TyI := ⟨.int .i32, 1, 4, [(.int .i32 : Rep (Int)).leaf (.int .i32 : Rep (Int)).zero], some ⟨Int, .int .i32⟩⟩
theorem tok21 : TyOk Try.prog 21 T21 := TyOk.ofRep _ _ (.int .i32 : Rep (Int)) _ _ (by kernel_rfl) Try.underlying21 rfl rfl (fun _ _ h => by cases h)
abbrev T23 : TyI := ⟨.ptr, 1, 8, [.nilp], none⟩
theorem tok23 : TyOk Try.prog 23 T23 := TyOk.ofLeaves _ _ _ _ [.pointer none] (by kernel_rfl) ⟨_, Try.underlying23⟩ (fun _ _ => .one rfl) (fun _ => rfl) (fun _ _ h => by cases h)
abbrev T26 : TyI := ⟨.arr 4 3, 4, 32, [(.arr 4 (.int .i64) : Rep (List Int)).leaf (.arr 4 (.int .i64) : Rep (List Int)).zero], some ⟨List Int, .arr 4 (.int .i64)⟩⟩
theorem tok26 : TyOk Try.prog 26 T26 := TyOk.ofRep _ _ (.arr 4 (.int .i64) : Rep (List Int)) _ _ (by kernel_rfl) Try.underlying26 rfl rfl (fun _ _ _ => by kernel_rfl)
abbrev T27 : TyI := ⟨.arr 64 5, 64, 64, [(.arr 64 (.int .u8) : Rep (List Int)).leaf (.arr 64 (.int .u8) : Rep (List Int)).zero], some ⟨List Int, .arr 64 (.int .u8)⟩⟩
theorem tok27 : TyOk Try.prog 27 T27 := TyOk.ofRep _ _ (.arr 64 (.int .u8) : Rep (List Int)) _ _ (by kernel_rfl) Try.underlying27 rfl rfl (fun _ _ _ => by kernel_rfl)
abbrev T28 : TyI := ⟨.arr 64 5, 64, 64, [(.arr 64 (.int .u8) : Rep (List Int)).leaf (.arr 64 (.int .u8) : Rep (List Int)).zero], some ⟨List Int, .arr 64 (.int .u8)⟩⟩
theorem tok28 : TyOk Try.prog 28 T28 := TyOk.ofRep _ _ (.arr 64 (.int .u8) : Rep (List Int)) _ _ (by kernel_rfl) Try.underlying28 rfl rfl (fun _ _ _ => by kernel_rfl)
abbrev T29 : TyI := ⟨.int .i64, 1, 8, [(.int .i64 : Rep (Int)).leaf (.int .i64 : Rep (Int)).zero], some ⟨Int, .int .i64⟩⟩
theorem tok29 : TyOk Try.prog 29 T29 := TyOk.ofRep _ _ (.int .i64 : Rep (Int)) _ _ (by kernel_rfl) Try.underlying29 rfl rfl (fun _ _ h => by cases h)
abbrev T32 : TyI := ⟨.slice 3, 1, 24, [(.slice (.int .i64) : Rep (List Int)).leaf (.slice (.int .i64) : Rep (List Int)).zero], some ⟨List Int, .slice (.int .i64)⟩⟩
theorem tok32 : TyOk Try.prog 32 T32 := TyOk.ofRep _ _ (.slice (.int .i64) : Rep (List Int)) _ _ (by kernel_rfl) Try.underlying32 rfl rfl (fun _ _ h => by cases h)
abbrev T39 : TyI := ⟨.arr 3 5, 3, 3, [(.arr 3 (.int .u8) : Rep (List Int)).leaf (.arr 3 (.int .u8) : Rep (List Int)).zero], some ⟨List Int, .arr 3 (.int .u8)⟩⟩
theorem tok39 : TyOk Try.prog 39 T39 := TyOk.ofRep _ _ (.arr 3 (.int .u8) : Rep (List Int)) _ _ (by kernel_rfl) Try.underlying39 rfl rfl (fun _ _ _ => by kernel_rfl)
abbrev T40 : TyI := ⟨.arr 3 3, 3, 24, [(.arr 3 (.int .i64) : Rep (List Int)).leaf (.arr 3 (.int .i64) : Rep (List Int)).zero], some ⟨List Int, .arr 3 (.int .i64)⟩⟩
theorem tok40 : TyOk Try.prog 40 T40 := TyOk.ofRep _ _ (.arr 3 (.int .i64) : Rep (List Int)) _ _ (by kernel_rfl) Try.underlying40 rfl rfl (fun _ _ _ => by kernel_rfl)
abbrev T43 : TyI := ⟨.slice 45, 1, 24, [(.slice (rL08Deed) : Rep (List L08Deed)).leaf (.slice (rL08Deed) : Rep (List L08Deed)).zero], some ⟨List L08Deed, .slice (rL08Deed)⟩⟩
theorem tok43 : TyOk Try.prog 43 T43 := TyOk.ofRep _ _ (.slice (rL08Deed) : Rep (List L08Deed)) _ _ (by kernel_rfl) Try.underlying43 rfl rfl (fun _ _ h => by cases h)
abbrev T44 : TyI := ⟨.struct [(0, 3), (1, 3), (2, 5), (3, 32)], 4, 48, [(rL08Deed : Rep (L08Deed)).leaf (rL08Deed : Rep (L08Deed)).zero], some ⟨L08Deed, rL08Deed⟩⟩
theorem tok44 : TyOk Try.prog 44 T44 := TyOk.ofRep _ _ (rL08Deed : Rep (L08Deed)) _ _ (by kernel_rfl) ⟨_, Try.underlying44, rfl⟩ rfl rfl (fun _ _ h => by cases h)
abbrev T45 : TyI := ⟨.struct [(0, 3), (1, 3), (2, 5), (3, 32)], 4, 48, [(rL08Deed : Rep (L08Deed)).leaf (rL08Deed : Rep (L08Deed)).zero], some ⟨L08Deed, rL08Deed⟩⟩
theorem tok45 : TyOk Try.prog 45 T45 := TyOk.ofRep _ _ (rL08Deed : Rep (L08Deed)) _ _ (by kernel_rfl) ⟨_, Try.underlying45, rfl⟩ rfl rfl (fun _ _ h => by cases h)
abbrev T46 : TyI := ⟨.arr 4 28, 256, 256, [(.arr 4 (.arr 64 (.int .u8)) : Rep (List (List Int))).leaf (.arr 4 (.arr 64 (.int .u8)) : Rep (List (List Int))).zero], some ⟨List (List Int), .arr 4 (.arr 64 (.int .u8))⟩⟩
theorem tok46 : TyOk Try.prog 46 T46 := TyOk.ofRep _ _ (.arr 4 (.arr 64 (.int .u8)) : Rep (List (List Int))) _ _ (by kernel_rfl) Try.underlying46 rfl rfl (fun _ _ _ => by kernel_rfl)
abbrev T48 : TyI := ⟨.slice 28, 1, 24, [(.slice (.arr 64 (.int .u8)) : Rep (List (List Int))).leaf (.slice (.arr 64 (.int .u8)) : Rep (List (List Int))).zero], some ⟨List (List Int), .slice (.arr 64 (.int .u8))⟩⟩
theorem tok48 : TyOk Try.prog 48 T48 := TyOk.ofRep _ _ (.slice (.arr 64 (.int .u8)) : Rep (List (List Int))) _ _ (by kernel_rfl) Try.underlying48 rfl rfl (fun _ _ h => by cases h)
abbrev T49 : TyI := ⟨.slice 56, 1, 24, [(.slice (rR08Item) : Rep (List R08Item)).leaf (.slice (rR08Item) : Rep (List R08Item)).zero], some ⟨List R08Item, .slice (rR08Item)⟩⟩
theorem tok49 : TyOk Try.prog 49 T49 := TyOk.ofRep _ _ (.slice (rR08Item) : Rep (List R08Item)) _ _ (by kernel_rfl) Try.underlying49 rfl rfl (fun _ _ h => by cases h)
abbrev T50 : TyI := ⟨.struct [(0, 48), (1, 49), (2, 3), (3, 4)], 4, 64, [(rR08Disk : Rep (R08Disk)).leaf (rR08Disk : Rep (R08Disk)).zero], some ⟨R08Disk, rR08Disk⟩⟩
theorem tok50 : TyOk Try.prog 50 T50 := TyOk.ofRep _ _ (rR08Disk : Rep (R08Disk)) _ _ (by kernel_rfl) ⟨_, Try.underlying50, rfl⟩ rfl rfl (fun _ _ h => by cases h)
abbrev T51 : TyI := ⟨.struct [(0, 48), (1, 49), (2, 3), (3, 4)], 4, 64, [(rR08Disk : Rep (R08Disk)).leaf (rR08Disk : Rep (R08Disk)).zero], some ⟨R08Disk, rR08Disk⟩⟩
theorem tok51 : TyOk Try.prog 51 T51 := TyOk.ofRep _ _ (rR08Disk : Rep (R08Disk)) _ _ (by kernel_rfl) ⟨_, Try.underlying51, rfl⟩ rfl rfl (fun _ _ h => by cases h)
abbrev T55 : TyI := ⟨.struct [(0, 28), (64, 3)], 65, 72, [(rR08Item : Rep (R08Item)).leaf (rR08Item : Rep (R08Item)).zero], some ⟨R08Item, rR08Item⟩⟩
theorem tok55 : TyOk Try.prog 55 T55 := TyOk.ofRep _ _ (rR08Item : Rep (R08Item)) _ _ (by kernel_rfl) ⟨_, Try.underlying55, rfl⟩ rfl rfl (fun _ _ h => by cases h)
abbrev T56 : TyI := ⟨.struct [(0, 28), (64, 3)], 65, 72, [(rR08Item : Rep (R08Item)).leaf (rR08Item : Rep (R08Item)).zero], some ⟨R08Item, rR08Item⟩⟩
theorem tok56 : TyOk Try.prog 56 T56 := TyOk.ofRep _ _ (rR08Item : Rep (R08Item)) _ _ (by kernel_rfl) ⟨_, Try.underlying56, rfl⟩ rfl rfl (fun _ _ h => by cases h)
abbrev T60 : TyI := ⟨.slice 5, 1, 24, [(.slice (.int .u8) : Rep (List Int)).leaf (.slice (.int .u8) : Rep (List Int)).zero], some ⟨List Int, .slice (.int .u8)⟩⟩
theorem tok60 : TyOk Try.prog 60 T60 := TyOk.ofRep _ _ (.slice (.int .u8) : Rep (List Int)) _ _ (by kernel_rfl) Try.underlying60 rfl rfl (fun _ _ h => by cases h)
abbrev T61 : TyI := ⟨.int .u64, 1, 8, [(.int .u64 : Rep (Int)).leaf (.int .u64 : Rep (Int)).zero], some ⟨Int, .int .u64⟩⟩
theorem tok61 : TyOk Try.prog 61 T61 := TyOk.ofRep _ _ (.int .u64 : Rep (Int)) _ _ (by kernel_rfl) Try.underlying61 rfl rfl (fun _ _ h => by cases h)
abbrev T66 : TyI := ⟨.arr 2 3, 2, 16, [(.arr 2 (.int .i64) : Rep (List Int)).leaf (.arr 2 (.int .i64) : Rep (List Int)).zero], some ⟨List Int, .arr 2 (.int .i64)⟩⟩
theorem tok66 : TyOk Try.prog 66 T66 := TyOk.ofRep _ _ (.arr 2 (.int .i64) : Rep (List Int)) _ _ (by kernel_rfl) Try.underlying66 rfl rfl (fun _ _ _ => by kernel_rfl)
abbrev T68 : TyI := ⟨.slice 71, 1, 24, [(.slice (rL09Act) : Rep (List L09Act)).leaf (.slice (rL09Act) : Rep (List L09Act)).zero], some ⟨List L09Act, .slice (rL09Act)⟩⟩
theorem tok68 : TyOk Try.prog 68 T68 := TyOk.ofRep _ _ (.slice (rL09Act) : Rep (List L09Act)) _ _ (by kernel_rfl) Try.underlying68 rfl rfl (fun _ _ h => by cases h)
abbrev T70 : TyI := ⟨.struct [(0, 3), (1, 3), (2, 61), (3, 60), (4, 32)], 5, 72, [(rL09Act : Rep (L09Act)).leaf (rL09Act : Rep (L09Act)).zero], some ⟨L09Act, rL09Act⟩⟩
theorem tok70 : TyOk Try.prog 70 T70 := TyOk.ofRep _ _ (rL09Act : Rep (L09Act)) _ _ (by kernel_rfl) ⟨_, Try.underlying70, rfl⟩ rfl rfl (fun _ _ h => by cases h)
abbrev T71 : TyI := ⟨.struct [(0, 3), (1, 3), (2, 61), (3, 60), (4, 32)], 5, 72, [(rL09Act : Rep (L09Act)).leaf (rL09Act : Rep (L09Act)).zero], some ⟨L09Act, rL09Act⟩⟩
theorem tok71 : TyOk Try.prog 71 T71 := TyOk.ofRep _ _ (rL09Act : Rep (L09Act)) _ _ (by kernel_rfl) ⟨_, Try.underlying71, rfl⟩ rfl rfl (fun _ _ h => by cases h)
abbrev T84 : TyI := ⟨.ptr, 1, 8, [.nilp], none⟩
theorem tok84 : TyOk Try.prog 84 T84 := TyOk.ofLeaves _ _ _ _ [.pointer none] (by kernel_rfl) ⟨_, Try.underlying84⟩ (fun _ _ => .one rfl) (fun _ => rfl) (fun _ _ h => by cases h)
abbrev T85 : TyI := ⟨.slice 60, 1, 24, [(.slice (.slice (.int .u8)) : Rep (List (List Int))).leaf (.slice (.slice (.int .u8)) : Rep (List (List Int))).zero], some ⟨List (List Int), .slice (.slice (.int .u8))⟩⟩
theorem tok85 : TyOk Try.prog 85 T85 := TyOk.ofRep _ _ (.slice (.slice (.int .u8)) : Rep (List (List Int))) _ _ (by kernel_rfl) Try.underlying85 rfl rfl (fun _ _ h => by cases h)
abbrev T89 : TyI := ⟨.slice 9, 1, 24, [(.slice (.str) : Rep (List (List UInt8))).leaf (.slice (.str) : Rep (List (List UInt8))).zero], some ⟨List (List UInt8), .slice (.str)⟩⟩
theorem tok89 : TyOk Try.prog 89 T89 := TyOk.ofRep _ _ (.slice (.str) : Rep (List (List UInt8))) _ _ (by kernel_rfl) Try.underlying89 rfl rfl (fun _ _ h => by cases h)
abbrev T97 : TyI := ⟨.slice 99, 1, 24, [(.slice (rL09Act) : Rep (List L09Act)).leaf (.slice (rL09Act) : Rep (List L09Act)).zero], some ⟨List L09Act, .slice (rL09Act)⟩⟩
theorem tok97 : TyOk Try.prog 97 T97 := TyOk.ofRep _ _ (.slice (rL09Act) : Rep (List L09Act)) _ _ (by kernel_rfl) Try.underlying97 rfl rfl (fun _ _ h => by cases h)
abbrev T99 : TyI := ⟨.struct [(0, 3), (1, 3), (2, 61), (3, 60), (4, 32)], 5, 72, [(rL09Act : Rep (L09Act)).leaf (rL09Act : Rep (L09Act)).zero], some ⟨L09Act, rL09Act⟩⟩
theorem tok99 : TyOk Try.prog 99 T99 := TyOk.ofRep _ _ (rL09Act : Rep (L09Act)) _ _ (by kernel_rfl) ⟨_, Try.underlying99, rfl⟩ rfl rfl (fun _ _ h => by cases h)
abbrev T101 : TyI := ⟨.slice 103, 1, 24, [(.slice (rL09Act) : Rep (List L09Act)).leaf (.slice (rL09Act) : Rep (List L09Act)).zero], some ⟨List L09Act, .slice (rL09Act)⟩⟩
theorem tok101 : TyOk Try.prog 101 T101 := TyOk.ofRep _ _ (.slice (rL09Act) : Rep (List L09Act)) _ _ (by kernel_rfl) Try.underlying101 rfl rfl (fun _ _ h => by cases h)
abbrev T103 : TyI := ⟨.struct [(0, 3), (1, 3), (2, 61), (3, 60), (4, 32)], 5, 72, [(rL09Act : Rep (L09Act)).leaf (rL09Act : Rep (L09Act)).zero], some ⟨L09Act, rL09Act⟩⟩
theorem tok103 : TyOk Try.prog 103 T103 := TyOk.ofRep _ _ (rL09Act : Rep (L09Act)) _ _ (by kernel_rfl) ⟨_, Try.underlying103, rfl⟩ rfl rfl (fun _ _ h => by cases h)
abbrev T110 : TyI := ⟨.ptr, 1, 8, [.nilp], none⟩
theorem tok110 : TyOk Try.prog 110 T110 := TyOk.ofLeaves _ _ _ _ [.pointer none] (by kernel_rfl) ⟨_, Try.underlying110⟩ (fun _ _ => .one rfl) (fun _ => rfl) (fun _ _ h => by cases h)
abbrev T116 : TyI := ⟨.slice 121, 1, 24, [(.slice (rL12Act) : Rep (List L12Act)).leaf (.slice (rL12Act) : Rep (List L12Act)).zero], some ⟨List L12Act, .slice (rL12Act)⟩⟩
theorem tok116 : TyOk Try.prog 116 T116 := TyOk.ofRep _ _ (.slice (rL12Act) : Rep (List L12Act)) _ _ (by kernel_rfl) Try.underlying116 rfl rfl (fun _ _ h => by cases h)
abbrev T118 : TyI := ⟨.struct [(0, 9), (1, 89)], 2, 40, [(rL12Past : Rep (L12Past)).leaf (rL12Past : Rep (L12Past)).zero], some ⟨L12Past, rL12Past⟩⟩
theorem tok118 : TyOk Try.prog 118 T118 := TyOk.ofRep _ _ (rL12Past : Rep (L12Past)) _ _ (by kernel_rfl) ⟨_, Try.underlying118, rfl⟩ rfl rfl (fun _ _ h => by cases h)
abbrev T119 : TyI := ⟨.struct [(0, 9), (1, 89)], 2, 40, [(rL12Past : Rep (L12Past)).leaf (rL12Past : Rep (L12Past)).zero], some ⟨L12Past, rL12Past⟩⟩
theorem tok119 : TyOk Try.prog 119 T119 := TyOk.ofRep _ _ (rL12Past : Rep (L12Past)) _ _ (by kernel_rfl) ⟨_, Try.underlying119, rfl⟩ rfl rfl (fun _ _ h => by cases h)
abbrev T120 : TyI := ⟨.struct [(0, 3), (1, 3), (2, 60), (3, 32)], 4, 64, [(rL12Act : Rep (L12Act)).leaf (rL12Act : Rep (L12Act)).zero], some ⟨L12Act, rL12Act⟩⟩
theorem tok120 : TyOk Try.prog 120 T120 := TyOk.ofRep _ _ (rL12Act : Rep (L12Act)) _ _ (by kernel_rfl) ⟨_, Try.underlying120, rfl⟩ rfl rfl (fun _ _ h => by cases h)
abbrev T121 : TyI := ⟨.struct [(0, 3), (1, 3), (2, 60), (3, 32)], 4, 64, [(rL12Act : Rep (L12Act)).leaf (rL12Act : Rep (L12Act)).zero], some ⟨L12Act, rL12Act⟩⟩
theorem tok121 : TyOk Try.prog 121 T121 := TyOk.ofRep _ _ (rL12Act : Rep (L12Act)) _ _ (by kernel_rfl) ⟨_, Try.underlying121, rfl⟩ rfl rfl (fun _ _ h => by cases h)
abbrev T124 : TyI := ⟨.struct [(0, 51), (4, 3), (5, 3), (6, 61)], 7, 88, [(rR10Log : Rep (R10Log)).leaf (rR10Log : Rep (R10Log)).zero], some ⟨R10Log, rR10Log⟩⟩
theorem tok124 : TyOk Try.prog 124 T124 := TyOk.ofRep _ _ (rR10Log : Rep (R10Log)) _ _ (by kernel_rfl) ⟨_, Try.underlying124, rfl⟩ rfl rfl (fun _ _ h => by cases h)
abbrev T125 : TyI := ⟨.struct [(0, 51), (4, 3), (5, 3), (6, 61)], 7, 88, [(rR10Log : Rep (R10Log)).leaf (rR10Log : Rep (R10Log)).zero], some ⟨R10Log, rR10Log⟩⟩
theorem tok125 : TyOk Try.prog 125 T125 := TyOk.ofRep _ _ (rR10Log : Rep (R10Log)) _ _ (by kernel_rfl) ⟨_, Try.underlying125, rfl⟩ rfl rfl (fun _ _ h => by cases h)
abbrev T126 : TyI := ⟨.struct [(0, 125), (7, 3), (8, 4)], 9, 104, [(rR12Journal : Rep (R12Journal)).leaf (rR12Journal : Rep (R12Journal)).zero], some ⟨R12Journal, rR12Journal⟩⟩
theorem tok126 : TyOk Try.prog 126 T126 := TyOk.ofRep _ _ (rR12Journal : Rep (R12Journal)) _ _ (by kernel_rfl) ⟨_, Try.underlying126, rfl⟩ rfl rfl (fun _ _ h => by cases h)
abbrev T127 : TyI := ⟨.struct [(0, 125), (7, 3), (8, 4)], 9, 104, [(rR12Journal : Rep (R12Journal)).leaf (rR12Journal : Rep (R12Journal)).zero], some ⟨R12Journal, rR12Journal⟩⟩
theorem tok127 : TyOk Try.prog 127 T127 := TyOk.ofRep _ _ (rR12Journal : Rep (R12Journal)) _ _ (by kernel_rfl) ⟨_, Try.underlying127, rfl⟩ rfl rfl (fun _ _ h => by cases h)
abbrev T135 : TyI := ⟨.map 3 48, 1, 8, [.nilm], none⟩
theorem tok135 : TyOk Try.prog 135 T135 := TyOk.ofLeaves _ _ _ _ [.map none] (by kernel_rfl) Try.underlying135 (fun _ _ => .one rfl) (fun _ => rfl) (fun _ _ h => by cases h)
abbrev T136 : TyI := ⟨.slice 143, 1, 24, [(.slice (rDiskTicket) : Rep (List DiskTicket)).leaf (.slice (rDiskTicket) : Rep (List DiskTicket)).zero], some ⟨List DiskTicket, .slice (rDiskTicket)⟩⟩
theorem tok136 : TyOk Try.prog 136 T136 := TyOk.ofRep _ _ (.slice (rDiskTicket) : Rep (List DiskTicket)) _ _ (by kernel_rfl) Try.underlying136 rfl rfl (fun _ _ h => by cases h)
abbrev T137 : TyI := ⟨.ptr, 1, 8, [.nilp], none⟩
theorem tok137 : TyOk Try.prog 137 T137 := TyOk.ofLeaves _ _ _ _ [.pointer none] (by kernel_rfl) ⟨_, Try.underlying137⟩ (fun _ _ => .one rfl) (fun _ => rfl) (fun _ _ h => by cases h)
abbrev T138 : TyI := ⟨.struct [(0, 135), (1, 3), (2, 136), (3, 137), (4, 4)], 5, 56, [.nilm, (.int .i64 : Rep (Int)).leaf (.int .i64 : Rep (Int)).zero, .nils, .nilp, (.bool : Rep (Bool)).leaf (.bool : Rep (Bool)).zero], none⟩
theorem tok138 : TyOk Try.prog 138 T138 := TyOk.ofLeaves _ _ _ _ ([.map none] ++ (.int .i64 : Rep (Int)).zcells ++ [.slice none 0 0] ++ [.pointer none] ++ (.bool : Rep (Bool)).zcells) (by kernel_rfl) ⟨_, Try.underlying138, rfl⟩ (fun G γ => by simpa only [List.append_assoc, List.append_nil] using (show RelL G γ _ _ from .cons (by exact rfl) (.cons ((Rep.leaf_rel _ _ _ _ _).2 (Rep.zenc _ _)) (.cons (by exact rfl) (.cons (by exact rfl) (.cons ((Rep.leaf_rel _ _ _ _ _).2 (Rep.zenc _ _)) ((show RelL G γ [] [] from rfl)))))))) (by simp [TD.agg]) (fun _ _ h => by cases h)
abbrev T139 : TyI := ⟨.struct [(0, 135), (1, 3), (2, 136), (3, 137), (4, 4)], 5, 56, [.nilm, (.int .i64 : Rep (Int)).leaf (.int .i64 : Rep (Int)).zero, .nils, .nilp, (.bool : Rep (Bool)).leaf (.bool : Rep (Bool)).zero], none⟩
theorem tok139 : TyOk Try.prog 139 T139 := TyOk.ofLeaves _ _ _ _ ([.map none] ++ (.int .i64 : Rep (Int)).zcells ++ [.slice none 0 0] ++ [.pointer none] ++ (.bool : Rep (Bool)).zcells) (by kernel_rfl) ⟨_, Try.underlying139, rfl⟩ (fun G γ => by simpa only [List.append_assoc, List.append_nil] using (show RelL G γ _ _ from .cons (by exact rfl) (.cons ((Rep.leaf_rel _ _ _ _ _).2 (Rep.zenc _ _)) (.cons (by exact rfl) (.cons (by exact rfl) (.cons ((Rep.leaf_rel _ _ _ _ _).2 (Rep.zenc _ _)) ((show RelL G γ [] [] from rfl)))))))) (by simp [TD.agg]) (fun _ _ h => by cases h)
abbrev T142 : TyI := ⟨.struct [(0, 3), (1, 3)], 2, 16, [(rDiskTicket : Rep (DiskTicket)).leaf (rDiskTicket : Rep (DiskTicket)).zero], some ⟨DiskTicket, rDiskTicket⟩⟩
theorem tok142 : TyOk Try.prog 142 T142 := TyOk.ofRep _ _ (rDiskTicket : Rep (DiskTicket)) _ _ (by kernel_rfl) ⟨_, Try.underlying142, rfl⟩ rfl rfl (fun _ _ h => by cases h)
abbrev T143 : TyI := ⟨.struct [(0, 3), (1, 3)], 2, 16, [(rDiskTicket : Rep (DiskTicket)).leaf (rDiskTicket : Rep (DiskTicket)).zero], some ⟨DiskTicket, rDiskTicket⟩⟩
theorem tok143 : TyOk Try.prog 143 T143 := TyOk.ofRep _ _ (rDiskTicket : Rep (DiskTicket)) _ _ (by kernel_rfl) ⟨_, Try.underlying143, rfl⟩ rfl rfl (fun _ _ h => by cases h)
abbrev T154 : TyI := ⟨.struct [(0, 23), (1, 3), (2, 3), (3, 61)], 4, 32, [.nilp, (.int .i64 : Rep (Int)).leaf (.int .i64 : Rep (Int)).zero, (.int .i64 : Rep (Int)).leaf (.int .i64 : Rep (Int)).zero, (.int .u64 : Rep (Int)).leaf (.int .u64 : Rep (Int)).zero], none⟩
theorem tok154 : TyOk Try.prog 154 T154 := TyOk.ofLeaves _ _ _ _ ([.pointer none] ++ (.int .i64 : Rep (Int)).zcells ++ (.int .i64 : Rep (Int)).zcells ++ (.int .u64 : Rep (Int)).zcells) (by kernel_rfl) ⟨_, Try.underlying154, rfl⟩ (fun G γ => by simpa only [List.append_assoc, List.append_nil] using (show RelL G γ _ _ from .cons (by exact rfl) (.cons ((Rep.leaf_rel _ _ _ _ _).2 (Rep.zenc _ _)) (.cons ((Rep.leaf_rel _ _ _ _ _).2 (Rep.zenc _ _)) (.cons ((Rep.leaf_rel _ _ _ _ _).2 (Rep.zenc _ _)) ((show RelL G γ [] [] from rfl))))))) (by simp [TD.agg]) (fun _ _ h => by cases h)
abbrev T155 : TyI := ⟨.struct [(0, 23), (1, 3), (2, 3), (3, 61)], 4, 32, [.nilp, (.int .i64 : Rep (Int)).leaf (.int .i64 : Rep (Int)).zero, (.int .i64 : Rep (Int)).leaf (.int .i64 : Rep (Int)).zero, (.int .u64 : Rep (Int)).leaf (.int .u64 : Rep (Int)).zero], none⟩
theorem tok155 : TyOk Try.prog 155 T155 := TyOk.ofLeaves _ _ _ _ ([.pointer none] ++ (.int .i64 : Rep (Int)).zcells ++ (.int .i64 : Rep (Int)).zcells ++ (.int .u64 : Rep (Int)).zcells) (by kernel_rfl) ⟨_, Try.underlying155, rfl⟩ (fun G γ => by simpa only [List.append_assoc, List.append_nil] using (show RelL G γ _ _ from .cons (by exact rfl) (.cons ((Rep.leaf_rel _ _ _ _ _).2 (Rep.zenc _ _)) (.cons ((Rep.leaf_rel _ _ _ _ _).2 (Rep.zenc _ _)) (.cons ((Rep.leaf_rel _ _ _ _ _).2 (Rep.zenc _ _)) ((show RelL G γ [] [] from rfl))))))) (by simp [TD.agg]) (fun _ _ h => by cases h)
abbrev T165 : TyI := ⟨.struct [(0, 23), (1, 3), (2, 84), (3, 4)], 4, 32, [.nilp, (.int .i64 : Rep (Int)).leaf (.int .i64 : Rep (Int)).zero, .nilp, (.bool : Rep (Bool)).leaf (.bool : Rep (Bool)).zero], none⟩
theorem tok165 : TyOk Try.prog 165 T165 := TyOk.ofLeaves _ _ _ _ ([.pointer none] ++ (.int .i64 : Rep (Int)).zcells ++ [.pointer none] ++ (.bool : Rep (Bool)).zcells) (by kernel_rfl) ⟨_, Try.underlying165, rfl⟩ (fun G γ => by simpa only [List.append_assoc, List.append_nil] using (show RelL G γ _ _ from .cons (by exact rfl) (.cons ((Rep.leaf_rel _ _ _ _ _).2 (Rep.zenc _ _)) (.cons (by exact rfl) (.cons ((Rep.leaf_rel _ _ _ _ _).2 (Rep.zenc _ _)) ((show RelL G γ [] [] from rfl))))))) (by simp [TD.agg]) (fun _ _ h => by cases h)
abbrev T166 : TyI := ⟨.struct [(0, 23), (1, 3), (2, 84), (3, 4)], 4, 32, [.nilp, (.int .i64 : Rep (Int)).leaf (.int .i64 : Rep (Int)).zero, .nilp, (.bool : Rep (Bool)).leaf (.bool : Rep (Bool)).zero], none⟩
theorem tok166 : TyOk Try.prog 166 T166 := TyOk.ofLeaves _ _ _ _ ([.pointer none] ++ (.int .i64 : Rep (Int)).zcells ++ [.pointer none] ++ (.bool : Rep (Bool)).zcells) (by kernel_rfl) ⟨_, Try.underlying166, rfl⟩ (fun G γ => by simpa only [List.append_assoc, List.append_nil] using (show RelL G γ _ _ from .cons (by exact rfl) (.cons ((Rep.leaf_rel _ _ _ _ _).2 (Rep.zenc _ _)) (.cons (by exact rfl) (.cons ((Rep.leaf_rel _ _ _ _ _).2 (Rep.zenc _ _)) ((show RelL G γ [] [] from rfl))))))) (by simp [TD.agg]) (fun _ _ h => by cases h)
abbrev T169 : TyI := ⟨.ptr, 1, 8, [.nilp], none⟩
theorem tok169 : TyOk Try.prog 169 T169 := TyOk.ofLeaves _ _ _ _ [.pointer none] (by kernel_rfl) ⟨_, Try.underlying169⟩ (fun _ _ => .one rfl) (fun _ => rfl) (fun _ _ h => by cases h)
abbrev T179 : TyI := ⟨.struct [(0, 60), (1, 4)], 2, 32, [(rR06Reader : Rep (R06Reader)).leaf (rR06Reader : Rep (R06Reader)).zero], some ⟨R06Reader, rR06Reader⟩⟩
theorem tok179 : TyOk Try.prog 179 T179 := TyOk.ofRep _ _ (rR06Reader : Rep (R06Reader)) _ _ (by kernel_rfl) ⟨_, Try.underlying179, rfl⟩ rfl rfl (fun _ _ h => by cases h)
abbrev T180 : TyI := ⟨.struct [(0, 60), (1, 4)], 2, 32, [(rR06Reader : Rep (R06Reader)).leaf (rR06Reader : Rep (R06Reader)).zero], some ⟨R06Reader, rR06Reader⟩⟩
theorem tok180 : TyOk Try.prog 180 T180 := TyOk.ofRep _ _ (rR06Reader : Rep (R06Reader)) _ _ (by kernel_rfl) ⟨_, Try.underlying180, rfl⟩ rfl rfl (fun _ _ h => by cases h)
abbrev T183 : TyI := ⟨.int .u64, 1, 8, [(.int .u64 : Rep (Int)).leaf (.int .u64 : Rep (Int)).zero], some ⟨Int, .int .u64⟩⟩
theorem tok183 : TyOk Try.prog 183 T183 := TyOk.ofRep _ _ (.int .u64 : Rep (Int)) _ _ (by kernel_rfl) Try.underlying183 rfl rfl (fun _ _ h => by cases h)
abbrev T185 : TyI := ⟨.int .u32, 1, 4, [(.int .u32 : Rep (Int)).leaf (.int .u32 : Rep (Int)).zero], some ⟨Int, .int .u32⟩⟩
theorem tok185 : TyOk Try.prog 185 T185 := TyOk.ofRep _ _ (.int .u32 : Rep (Int)) _ _ (by kernel_rfl) Try.underlying185 rfl rfl (fun _ _ h => by cases h)
abbrev T186 : TyI := ⟨.int .u32, 1, 4, [(.int .u32 : Rep (Int)).leaf (.int .u32 : Rep (Int)).zero], some ⟨Int, .int .u32⟩⟩
theorem tok186 : TyOk Try.prog 186 T186 := TyOk.ofRep _ _ (.int .u32 : Rep (Int)) _ _ (by kernel_rfl) Try.underlying186 rfl rfl (fun _ _ h => by cases h)
abbrev T190 : TyI := ⟨.arr 4 5, 4, 4, [(.arr 4 (.int .u8) : Rep (List Int)).leaf (.arr 4 (.int .u8) : Rep (List Int)).zero], some ⟨List Int, .arr 4 (.int .u8)⟩⟩
theorem tok190 : TyOk Try.prog 190 T190 := TyOk.ofRep _ _ (.arr 4 (.int .u8) : Rep (List Int)) _ _ (by kernel_rfl) Try.underlying190 rfl rfl (fun _ _ _ => by kernel_rfl)
abbrev T192 : TyI := ⟨.struct [(0, 60), (1, 4)], 2, 32, [(rPackReader : Rep (PackReader)).leaf (rPackReader : Rep (PackReader)).zero], some ⟨PackReader, rPackReader⟩⟩
theorem tok192 : TyOk Try.prog 192 T192 := TyOk.ofRep _ _ (rPackReader : Rep (PackReader)) _ _ (by kernel_rfl) ⟨_, Try.underlying192, rfl⟩ rfl rfl (fun _ _ h => by cases h)
abbrev T193 : TyI := ⟨.struct [(0, 60), (1, 4)], 2, 32, [(rPackReader : Rep (PackReader)).leaf (rPackReader : Rep (PackReader)).zero], some ⟨PackReader, rPackReader⟩⟩
theorem tok193 : TyOk Try.prog 193 T193 := TyOk.ofRep _ _ (rPackReader : Rep (PackReader)) _ _ (by kernel_rfl) ⟨_, Try.underlying193, rfl⟩ rfl rfl (fun _ _ h => by cases h)
abbrev T194 : TyI := ⟨.slice 61, 1, 24, [(.slice (.int .u64) : Rep (List Int)).leaf (.slice (.int .u64) : Rep (List Int)).zero], some ⟨List Int, .slice (.int .u64)⟩⟩
theorem tok194 : TyOk Try.prog 194 T194 := TyOk.ofRep _ _ (.slice (.int .u64) : Rep (List Int)) _ _ (by kernel_rfl) Try.underlying194 rfl rfl (fun _ _ h => by cases h)
abbrev T197 : TyI := ⟨.arr 32 3, 32, 256, [(.arr 32 (.int .i64) : Rep (List Int)).leaf (.arr 32 (.int .i64) : Rep (List Int)).zero], some ⟨List Int, .arr 32 (.int .i64)⟩⟩
theorem tok197 : TyOk Try.prog 197 T197 := TyOk.ofRep _ _ (.arr 32 (.int .i64) : Rep (List Int)) _ _ (by kernel_rfl) Try.underlying197 rfl rfl (fun _ _ _ => by kernel_rfl)
abbrev T210 : TyI := ⟨.ptr, 1, 8, [.nilp], none⟩
theorem tok210 : TyOk Try.prog 210 T210 := TyOk.ofLeaves _ _ _ _ [.pointer none] (by kernel_rfl) ⟨_, Try.underlying210⟩ (fun _ _ => .one rfl) (fun _ => rfl) (fun _ _ h => by cases h)
def tyTab : List (TypeId × TyI) := [(2, T2), (3, T3), (4, T4), (5, T5), (9, T9), (12, T12), (21, T21), (23, T23), (26, T26), (27, T27), (28, T28), (29, T29), (32, T32), (39, T39), (40, T40), (43, T43), (44, T44), (45, T45), (46, T46), (48, T48), (49, T49), (50, T50), (51, T51), (55, T55), (56, T56), (60, T60), (61, T61), (66, T66), (68, T68), (70, T70), (71, T71), (84, T84), (85, T85), (89, T89), (97, T97), (99, T99), (101, T101), (103, T103), (110, T110), (116, T116), (118, T118), (119, T119), (120, T120), (121, T121), (124, T124), (125, T125), (126, T126), (127, T127), (135, T135), (136, T136), (137, T137), (138, T138), (139, T139), (142, T142), (143, T143), (154, T154), (155, T155), (165, T165), (166, T166), (169, T169), (179, T179), (180, T180), (183, T183), (185, T185), (186, T186), (190, T190), (192, T192), (193, T193), (194, T194), (197, T197), (210, T210)]
def tyOf (t : TypeId) : Option TyI := (tyTab.find? fun e => e.1 == t).map (·.2)
theorem tyTab_ok : ∀ e ∈ tyTab, TyOk Try.prog e.1 e.2 := by
  intro e he
  simp only [tyTab, List.mem_cons, List.not_mem_nil, or_false] at he
  rcases he with rfl | rfl | rfl | rfl | rfl | rfl | rfl | rfl | rfl | rfl | rfl | rfl | rfl | rfl | rfl | rfl | rfl | rfl | rfl | rfl | rfl | rfl | rfl | rfl | rfl | rfl | rfl | rfl | rfl | rfl | rfl | rfl | rfl | rfl | rfl | rfl | rfl | rfl | rfl | rfl | rfl | rfl | rfl | rfl | rfl | rfl | rfl | rfl | rfl | rfl | rfl | rfl | rfl | rfl | rfl | rfl | rfl | rfl | rfl | rfl | rfl | rfl | rfl | rfl | rfl | rfl | rfl | rfl | rfl | rfl | rfl
  · exact tok2
  · exact tok3
  · exact tok4
  · exact tok5
  · exact tok9
  · exact tok12
  · exact tok21
  · exact tok23
  · exact tok26
  · exact tok27
  · exact tok28
  · exact tok29
  · exact tok32
  · exact tok39
  · exact tok40
  · exact tok43
  · exact tok44
  · exact tok45
  · exact tok46
  · exact tok48
  · exact tok49
  · exact tok50
  · exact tok51
  · exact tok55
  · exact tok56
  · exact tok60
  · exact tok61
  · exact tok66
  · exact tok68
  · exact tok70
  · exact tok71
  · exact tok84
  · exact tok85
  · exact tok89
  · exact tok97
  · exact tok99
  · exact tok101
  · exact tok103
  · exact tok110
  · exact tok116
  · exact tok118
  · exact tok119
  · exact tok120
  · exact tok121
  · exact tok124
  · exact tok125
  · exact tok126
  · exact tok127
  · exact tok135
  · exact tok136
  · exact tok137
  · exact tok138
  · exact tok139
  · exact tok142
  · exact tok143
  · exact tok154
  · exact tok155
  · exact tok165
  · exact tok166
  · exact tok169
  · exact tok179
  · exact tok180
  · exact tok183
  · exact tok185
  · exact tok186
  · exact tok190
  · exact tok192
  · exact tok193
  · exact tok194
  · exact tok197
  · exact tok210
theorem tyOf_ok (t : TypeId) (i : TyI) (h : tyOf t = some i) : TyOk Try.prog t i := by
  unfold tyOf at h
  simp only [Option.map_eq_some_iff] at h
  obtain ⟨e, he, rfl⟩ := h
  have h1 := List.mem_of_find?_eq_some he
  have h2 := List.find?_some he
  simp only [beq_iff_eq] at h2
  subst h2
  exact tyTab_ok e h1
noncomputable def Cx : Ctx := ⟨Try.prog, tyOf, tyOf_ok⟩
theorem zn48 : (Cx.P.info? 48).bind (·.zero) = some (.slice none 0 0) := by kernel_rfl
attribute [push_cast] zn48
theorem ty2 : Cx.ty 2 = some T2 := rfl
theorem ty3 : Cx.ty 3 = some T3 := rfl
theorem ty4 : Cx.ty 4 = some T4 := rfl
theorem ty5 : Cx.ty 5 = some T5 := rfl
theorem ty9 : Cx.ty 9 = some T9 := rfl
theorem ty12 : Cx.ty 12 = some T12 := rfl
theorem ty21 : Cx.ty 21 = some T21 := rfl
theorem ty23 : Cx.ty 23 = some T23 := rfl
theorem ty26 : Cx.ty 26 = some T26 := rfl
theorem ty27 : Cx.ty 27 = some T27 := rfl
theorem ty28 : Cx.ty 28 = some T28 := rfl
theorem ty29 : Cx.ty 29 = some T29 := rfl
theorem ty32 : Cx.ty 32 = some T32 := rfl
theorem ty39 : Cx.ty 39 = some T39 := rfl
theorem ty40 : Cx.ty 40 = some T40 := rfl
theorem ty43 : Cx.ty 43 = some T43 := rfl
theorem ty44 : Cx.ty 44 = some T44 := rfl
theorem ty45 : Cx.ty 45 = some T45 := rfl
theorem ty46 : Cx.ty 46 = some T46 := rfl
theorem ty48 : Cx.ty 48 = some T48 := rfl
theorem ty49 : Cx.ty 49 = some T49 := rfl
theorem ty50 : Cx.ty 50 = some T50 := rfl
theorem ty51 : Cx.ty 51 = some T51 := rfl
theorem ty55 : Cx.ty 55 = some T55 := rfl
theorem ty56 : Cx.ty 56 = some T56 := rfl
theorem ty60 : Cx.ty 60 = some T60 := rfl
theorem ty61 : Cx.ty 61 = some T61 := rfl
theorem ty66 : Cx.ty 66 = some T66 := rfl
theorem ty68 : Cx.ty 68 = some T68 := rfl
theorem ty70 : Cx.ty 70 = some T70 := rfl
theorem ty71 : Cx.ty 71 = some T71 := rfl
theorem ty84 : Cx.ty 84 = some T84 := rfl
theorem ty85 : Cx.ty 85 = some T85 := rfl
theorem ty89 : Cx.ty 89 = some T89 := rfl
theorem ty97 : Cx.ty 97 = some T97 := rfl
theorem ty99 : Cx.ty 99 = some T99 := rfl
theorem ty101 : Cx.ty 101 = some T101 := rfl
theorem ty103 : Cx.ty 103 = some T103 := rfl
theorem ty110 : Cx.ty 110 = some T110 := rfl
theorem ty116 : Cx.ty 116 = some T116 := rfl
theorem ty118 : Cx.ty 118 = some T118 := rfl
theorem ty119 : Cx.ty 119 = some T119 := rfl
theorem ty120 : Cx.ty 120 = some T120 := rfl
theorem ty121 : Cx.ty 121 = some T121 := rfl
theorem ty124 : Cx.ty 124 = some T124 := rfl
theorem ty125 : Cx.ty 125 = some T125 := rfl
theorem ty126 : Cx.ty 126 = some T126 := rfl
theorem ty127 : Cx.ty 127 = some T127 := rfl
theorem ty135 : Cx.ty 135 = some T135 := rfl
theorem ty136 : Cx.ty 136 = some T136 := rfl
theorem ty137 : Cx.ty 137 = some T137 := rfl
theorem ty138 : Cx.ty 138 = some T138 := rfl
theorem ty139 : Cx.ty 139 = some T139 := rfl
theorem ty142 : Cx.ty 142 = some T142 := rfl
theorem ty143 : Cx.ty 143 = some T143 := rfl
theorem ty154 : Cx.ty 154 = some T154 := rfl
theorem ty155 : Cx.ty 155 = some T155 := rfl
theorem ty165 : Cx.ty 165 = some T165 := rfl
theorem ty166 : Cx.ty 166 = some T166 := rfl
theorem ty169 : Cx.ty 169 = some T169 := rfl
theorem ty179 : Cx.ty 179 = some T179 := rfl
theorem ty180 : Cx.ty 180 = some T180 := rfl
theorem ty183 : Cx.ty 183 = some T183 := rfl
theorem ty185 : Cx.ty 185 = some T185 := rfl
theorem ty186 : Cx.ty 186 = some T186 := rfl
theorem ty190 : Cx.ty 190 = some T190 := rfl
theorem ty192 : Cx.ty 192 = some T192 := rfl
theorem ty193 : Cx.ty 193 = some T193 := rfl
theorem ty194 : Cx.ty 194 = some T194 := rfl
theorem ty197 : Cx.ty 197 = some T197 := rfl
theorem ty210 : Cx.ty 210 = some T210 := rfl
attribute [push_cast] ty2 T2 ty3 T3 ty4 T4 ty5 T5 ty9 T9 ty12 T12 ty21 T21 ty23 T23 ty26 T26 ty27 T27 ty28 T28 ty29 T29 ty32 T32 ty39 T39 ty40 T40 ty43 T43 ty44 T44 ty45 T45 ty46 T46 ty48 T48 ty49 T49 ty50 T50 ty51 T51 ty55 T55 ty56 T56 ty60 T60 ty61 T61 ty66 T66 ty68 T68 ty70 T70 ty71 T71 ty84 T84 ty85 T85 ty89 T89 ty97 T97 ty99 T99 ty101 T101 ty103 T103 ty110 T110 ty116 T116 ty118 T118 ty119 T119 ty120 T120 ty121 T121 ty124 T124 ty125 T125 ty126 T126 ty127 T127 ty135 T135 ty136 T136 ty137 T137 ty138 T138 ty139 T139 ty142 T142 ty143 T143 ty154 T154 ty155 T155 ty165 T165 ty166 T166 ty169 T169 ty179 T179 ty180 T180 ty183 T183 ty185 T185 ty186 T186 ty190 T190 ty192 T192 ty193 T193 ty194 T194 ty197 T197 ty210 T210
theorem isfn21 : IsFn Cx.P 21 := ⟨_, Try.func21, by kernel_rfl, by kernel_rfl⟩
theorem isfn24 : IsFn Cx.P 24 := ⟨_, Try.func24, by kernel_rfl, by kernel_rfl⟩
theorem isfn25 : IsFn Cx.P 25 := ⟨_, Try.func25, by kernel_rfl, by kernel_rfl⟩
theorem isfn26 : IsFn Cx.P 26 := ⟨_, Try.func26, by kernel_rfl, by kernel_rfl⟩
theorem isfn27 : IsFn Cx.P 27 := ⟨_, Try.func27, by kernel_rfl, by kernel_rfl⟩
theorem isfn28 : IsFn Cx.P 28 := ⟨_, Try.func28, by kernel_rfl, by kernel_rfl⟩
theorem isfn29 : IsFn Cx.P 29 := ⟨_, Try.func29, by kernel_rfl, by kernel_rfl⟩
theorem isfn31 : IsFn Cx.P 31 := ⟨_, Try.func31, by kernel_rfl, by kernel_rfl⟩
theorem isfn32 : IsFn Cx.P 32 := ⟨_, Try.func32, by kernel_rfl, by kernel_rfl⟩
theorem isfn37 : IsFn Cx.P 37 := ⟨_, Try.func37, by kernel_rfl, by kernel_rfl⟩
theorem isfn38 : IsFn Cx.P 38 := ⟨_, Try.func38, by kernel_rfl, by kernel_rfl⟩
theorem isfn40 : IsFn Cx.P 40 := ⟨_, Try.func40, by kernel_rfl, by kernel_rfl⟩
theorem isfn47 : IsFn Cx.P 47 := ⟨_, Try.func47, by kernel_rfl, by kernel_rfl⟩
theorem isfn50 : IsFn Cx.P 50 := ⟨_, Try.func50, by kernel_rfl, by kernel_rfl⟩
theorem isfn52 : IsFn Cx.P 52 := ⟨_, Try.func52, by kernel_rfl, by kernel_rfl⟩
theorem isfn53 : IsFn Cx.P 53 := ⟨_, Try.func53, by kernel_rfl, by kernel_rfl⟩
theorem isfn54 : IsFn Cx.P 54 := ⟨_, Try.func54, by kernel_rfl, by kernel_rfl⟩
theorem isfn55 : IsFn Cx.P 55 := ⟨_, Try.func55, by kernel_rfl, by kernel_rfl⟩
theorem isfn56 : IsFn Cx.P 56 := ⟨_, Try.func56, by kernel_rfl, by kernel_rfl⟩
theorem isfn57 : IsFn Cx.P 57 := ⟨_, Try.func57, by kernel_rfl, by kernel_rfl⟩
theorem isfn58 : IsFn Cx.P 58 := ⟨_, Try.func58, by kernel_rfl, by kernel_rfl⟩
theorem isfn59 : IsFn Cx.P 59 := ⟨_, Try.func59, by kernel_rfl, by kernel_rfl⟩
theorem isfn66 : IsFn Cx.P 66 := ⟨_, Try.func66, by kernel_rfl, by kernel_rfl⟩
theorem isfn67 : IsFn Cx.P 67 := ⟨_, Try.func67, by kernel_rfl, by kernel_rfl⟩
theorem isfn68 : IsFn Cx.P 68 := ⟨_, Try.func68, by kernel_rfl, by kernel_rfl⟩
theorem isfn69 : IsFn Cx.P 69 := ⟨_, Try.func69, by kernel_rfl, by kernel_rfl⟩
theorem isfn70 : IsFn Cx.P 70 := ⟨_, Try.func70, by kernel_rfl, by kernel_rfl⟩
theorem isfn72 : IsFn Cx.P 72 := ⟨_, Try.func72, by kernel_rfl, by kernel_rfl⟩
theorem isfn73 : IsFn Cx.P 73 := ⟨_, Try.func73, by kernel_rfl, by kernel_rfl⟩
theorem isfn74 : IsFn Cx.P 74 := ⟨_, Try.func74, by kernel_rfl, by kernel_rfl⟩
theorem isfn80 : IsFn Cx.P 80 := ⟨_, Try.func80, by kernel_rfl, by kernel_rfl⟩
theorem isfn81 : IsFn Cx.P 81 := ⟨_, Try.func81, by kernel_rfl, by kernel_rfl⟩
theorem isfn82 : IsFn Cx.P 82 := ⟨_, Try.func82, by kernel_rfl, by kernel_rfl⟩
theorem isfn83 : IsFn Cx.P 83 := ⟨_, Try.func83, by kernel_rfl, by kernel_rfl⟩
theorem isfn84 : IsFn Cx.P 84 := ⟨_, Try.func84, by kernel_rfl, by kernel_rfl⟩
theorem isfn86 : IsFn Cx.P 86 := ⟨_, Try.func86, by kernel_rfl, by kernel_rfl⟩
theorem isfn87 : IsFn Cx.P 87 := ⟨_, Try.func87, by kernel_rfl, by kernel_rfl⟩
theorem isfn93 : IsFn Cx.P 93 := ⟨_, Try.func93, by kernel_rfl, by kernel_rfl⟩
theorem isfn94 : IsFn Cx.P 94 := ⟨_, Try.func94, by kernel_rfl, by kernel_rfl⟩
theorem isfn95 : IsFn Cx.P 95 := ⟨_, Try.func95, by kernel_rfl, by kernel_rfl⟩
theorem isfn96 : IsFn Cx.P 96 := ⟨_, Try.func96, by kernel_rfl, by kernel_rfl⟩
theorem isfn97 : IsFn Cx.P 97 := ⟨_, Try.func97, by kernel_rfl, by kernel_rfl⟩
theorem isfn101 : IsFn Cx.P 101 := ⟨_, Try.func101, by kernel_rfl, by kernel_rfl⟩
theorem isfn102 : IsFn Cx.P 102 := ⟨_, Try.func102, by kernel_rfl, by kernel_rfl⟩
theorem isfn103 : IsFn Cx.P 103 := ⟨_, Try.func103, by kernel_rfl, by kernel_rfl⟩
theorem isfn104 : IsFn Cx.P 104 := ⟨_, Try.func104, by kernel_rfl, by kernel_rfl⟩
theorem isfn105 : IsFn Cx.P 105 := ⟨_, Try.func105, by kernel_rfl, by kernel_rfl⟩
theorem isfn106 : IsFn Cx.P 106 := ⟨_, Try.func106, by kernel_rfl, by kernel_rfl⟩
theorem isfn107 : IsFn Cx.P 107 := ⟨_, Try.func107, by kernel_rfl, by kernel_rfl⟩
theorem isfn113 : IsFn Cx.P 113 := ⟨_, Try.func113, by kernel_rfl, by kernel_rfl⟩
theorem isfn114 : IsFn Cx.P 114 := ⟨_, Try.func114, by kernel_rfl, by kernel_rfl⟩
theorem isfn115 : IsFn Cx.P 115 := ⟨_, Try.func115, by kernel_rfl, by kernel_rfl⟩
theorem isfn116 : IsFn Cx.P 116 := ⟨_, Try.func116, by kernel_rfl, by kernel_rfl⟩
theorem isfn119 : IsFn Cx.P 119 := ⟨_, Try.func119, by kernel_rfl, by kernel_rfl⟩
theorem isfn123 : IsFn Cx.P 123 := ⟨_, Try.func123, by kernel_rfl, by kernel_rfl⟩
end Go.Proofs.Ytnmjcdlgfimnaaa
