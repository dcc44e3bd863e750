/- What is known of numbers and rows by their lying in memory. -/
import Derived.Test.YtnmjcdlgfimnaaaFvd
namespace Go.Proofs.Ytnmjcdlgfimnaaa

theorem inK_i64 (n : Int) : inK .i64 n ↔ -9223372036854775808 ≤ n ∧ n ≤ 9223372036854775807 := by simp [inK, IntKind.min, IntKind.max, IntKind.signed, IntKind.bits]
theorem inK_i32 (n : Int) : inK .i32 n ↔ -2147483648 ≤ n ∧ n ≤ 2147483647 := by simp [inK, IntKind.min, IntKind.max, IntKind.signed, IntKind.bits]
theorem inK_u64 (n : Int) : inK .u64 n ↔ 0 ≤ n ∧ n ≤ 18446744073709551615 := by simp [inK, IntKind.min, IntKind.max, IntKind.signed, IntKind.bits]
theorem inK_u32 (n : Int) : inK .u32 n ↔ 0 ≤ n ∧ n ≤ 4294967295 := by simp [inK, IntKind.min, IntKind.max, IntKind.signed, IntKind.bits]
theorem inK_u16 (n : Int) : inK .u16 n ↔ 0 ≤ n ∧ n ≤ 65535 := by simp [inK, IntKind.min, IntKind.max, IntKind.signed, IntKind.bits]
theorem inK_u8 (n : Int) : inK .u8 n ↔ 0 ≤ n ∧ n ≤ 255 := by simp [inK, IntKind.min, IntKind.max, IntKind.signed, IntKind.bits]

/-- What is known of a leaf that lies somewhere. -/
def LV.fact : LV → Prop
  | .int k x => inK k x
  | .str s => s.length ≤ 9223372036854775807
  | .dat R x => R.ok x
  | .view _ _ _ _ _ n => n ≤ 9223372036854775807
  | _ => True
def factsL : List LV → Prop
  | [] => True
  | x :: r => x.fact ∧ factsL r
def SV.fact : SV → Prop
  | .l x => x.fact
  | .agg xs => factsL xs
def TV.fact : TV → Prop
  | .one x => x.fact
  | .tup _ => True
def factsSl : List (Nat × TV) → Prop
  | [] => True
  | (_, v) :: r => v.fact ∧ factsSl r
def Box.fact : Box → Prop
  | .segs l => factsL l
  | .arr R l => l.length ≤ 9223372036854775807 ∧ ∀ x ∈ l, R.ok x
  | .sarr n l => n ≤ 9223372036854775807 ∧ factsL l
  | _ => True
def factsM : List (Nat × Box) → Prop
  | [] => True
  | (_, b) :: r => b.fact ∧ factsM r

theorem LV.fact_of {G : Hp} {γ : Nat → Value} {x : LV} {cs : List Value} (h : x.rel G γ cs) : x.fact := by
  cases x <;> simp only [LV.fact]
  case int => exact h.2
  case str => exact h.2
  case dat R x => exact R.enc_ok h
  case view => obtain ⟨_, _, h1, h2, _⟩ := h; exact Nat.le_trans h1 h2
theorem LV.fact_ofV {G : Hp} {γ : Nat → Value} {x : LV} {v : Value} (h : x.relV G γ v) : x.fact := by
  cases x
  case dat R x => obtain ⟨cs, hc, _⟩ := h; exact R.enc_ok hc
  case undef => trivial
  all_goals exact LV.fact_of (G := G) (γ := γ) h
theorem factsL_of {G : Hp} {γ : Nat → Value} : ∀ {l : List LV} {cs : List Value}, RelL G γ l cs → factsL l
  | [], _, _ => trivial
  | _ :: _, _, ⟨_, _, _, hx, hl⟩ => ⟨LV.fact_of hx, factsL_of hl⟩
theorem SV.fact_of {G : Hp} {γ : Nat → Value} {x : SV} {v : Value} (h : x.rel G γ v) : x.fact := by
  cases x with
  | l x => exact LV.fact_ofV h
  | agg xs => obtain ⟨cs, hc, _⟩ := h; exact factsL_of hc
theorem TV.fact_of {G : Hp} {γ : Nat → Value} {x : TV} {v : Value} (h : x.rel G γ v) : x.fact := by
  cases x with
  | one x => exact SV.fact_of h
  | tup xs => trivial
theorem factsL_ofV {G : Hp} {γ : Nat → Value} : ∀ {l : List LV} {us : List Value}, RelV G γ (l.map .l) us → factsL l
  | [], _, _ => trivial
  | x :: l, _, ⟨_, _, _, hx, hl⟩ => ⟨LV.fact_ofV hx, factsL_ofV hl⟩
theorem Box.fact_of {G : Hp} {γ : Nat → Value} {b : Box} {v : Value} {f : Hp} (h : b.at G γ v f) : b.fact := by
  cases b with
  | segs => obtain ⟨_, _, _, _, _, hl⟩ := h; exact factsL_of hl
  | arr R =>
    rcases h with ⟨b, t, es, sp, c, e, ef, hl, hn, hm, hs⟩ | ⟨rfl, _⟩
    · exact ⟨Nat.le_trans hn hm, EncL.all (fun _ _ h => R.enc_ok h) hl⟩
    · exact ⟨by simp, by simp⟩
  | sarr n l => obtain ⟨b, t, es, sp, c, _, _, hl, hn, hm⟩ := h; exact ⟨Nat.le_trans hn hm, factsL_of hl⟩
  | obj O D => trivial
  | mpr A M V d => trivial

section
variable {s : SymSt}
/-- A state's own facts. -/
theorem vc_facts {R : Fr} {G : Hp} {γ : Nat → Value} {a : Act} {w : World} (hs : Simm R G γ s a w) : (∀ i, (getS s.sl i).fact) ∧ factsM s.mem := by
  refine ⟨fun i => TV.fact_of (hs.sl i), ?_⟩
  obtain ⟨fr, _, _, hat, _⟩ := hs.mem
  have : ∀ l : List (Nat × Box), (∀ e ∈ l, e ∈ s.mem) → factsM l := by
    intro l
    induction l with
    | nil => intro _; trivial
    | cons e l ih => intro h; exact ⟨Box.fact_of (hat e (h e (by simp))), ih fun x hx => h x (by simp [hx])⟩
  exact this _ fun _ h => h
end

end Go.Proofs.Ytnmjcdlgfimnaaa
