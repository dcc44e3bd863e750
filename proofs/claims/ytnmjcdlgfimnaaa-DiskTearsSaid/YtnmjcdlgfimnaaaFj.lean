/- Operations on two values, one value, indexes, lengths, slices. -/
import Derived.Test.YtnmjcdlgfimnaaaFi
import Derived.Laws.Strings
namespace Go.Proofs.Ytnmjcdlgfimnaaa

section
variable {C : Ctx} {s : SymSt} {K : KT} {o : Oper}

def tdOf (C : Ctx) (t : TypeId) : TD := match C.ty t with
  | some i => i.desc
  | none => .other
theorem tdOf_fits {t : TypeId} (h : tdOf C t ≠ .other) : (tdOf C t).fits C.P t := by
  unfold tdOf at h ⊢
  split
  · rename_i i hi
    exact (C.ok t i hi).desc
  · rename_i hi
    rw [hi] at h
    exact absurd rfl h

def vBin2 (C : Ctx) (s : SymSt) (op : BinOp) (t : TypeId) (x y : Operand) (K : KT) : Prop := match ev s x, ev s y with
  | .l (.int k a), .l (.int k' b) => (match op with
    | .shl => 0 ≤ b ∧ K (.one (.l (.int k (shlOp k a b)))) s
    | .shr => 0 ≤ b ∧ K (.one (.l (.int k (shrOp k a b)))) s
    | op => k = k' ∧ intBin op k a b fun v => K (.one (.l v)) s)
  | .l (.bool a), .l (.bool b) => tdOf C t = .bool ∧ (match op with
    | .eql => K (.one (.l (.bool (a == b)))) s
    | .neq => K (.one (.l (.bool (!(a == b))))) s
    | _ => False)
  | .l (.str a), .l (.str b) => (match op with
    | .eql => K (.one (.l (.bool (a == b)))) s
    | .neq => K (.one (.l (.bool (!(a == b))))) s
    | .add => a.length + b.length ≤ 9223372036854775807 ∧ K (.one (.l (.str (a ++ b)))) s
    | _ => False)
  | .l (.ptr _ _ _), .l .nilp => tdOf C t = .ptr ∧ (match op with
    | .eql => K (.one (.l (.bool false))) s
    | .neq => K (.one (.l (.bool true))) s
    | _ => False)
  | .l .nilp, .l .nilp => tdOf C t = .ptr ∧ (match op with
    | .eql => K (.one (.l (.bool true))) s
    | .neq => K (.one (.l (.bool false))) s
    | _ => False)
  | _, _ => False

theorem eqIn_bool {P : Program} {w : World} {t : TypeId} (hu : P.underlying t = some .bool) (d : Nat) (p q : Bool) : (Op.equalIn (d + 1) t (.bool p) (.bool q)).run P w = .ok (p == q) w := by
  simp [Op.equalIn, run_under hu]
theorem eqIn_ptr_nil {P : Program} {w : World} {t e : TypeId} (hu : P.underlying t = some (.pointer e)) (d : Nat) (x : Addr) : (Op.equalIn (d + 1) t (.pointer (some x)) (.pointer none)).run P w = .ok false w := by
  simp [Op.equalIn, run_under hu]
theorem eqIn_nil_nil {P : Program} {w : World} {t e : TypeId} (hu : P.underlying t = some (.pointer e)) (d : Nat) : (Op.equalIn (d + 1) t (.pointer none) (.pointer none)).run P w = .ok true w := by
  simp [Op.equalIn, run_under hu]
theorem run_eql {P : Program} {w : World} {t : TypeId} {x y : Value} {b : Bool} (h : (Op.equalIn 10000 t x y).run P w = .ok b w) (hx : ∀ k n, x ≠ .int k n) (hf : ∀ k n, x ≠ .float k n) (hc : ∀ k m n, x ≠ .complex k m n) (hs : ∀ k, x ≠ .string k) :
    (binOp .eql t x y).run P w = .ok (.bool b) w ∧ (binOp .neq t x y).run P w = .ok (.bool (!b)) w := by
  have h' : (Op.equal t x y).run P w = .ok b w := h
  constructor
  · unfold binOp
    split <;> first | (exfalso; simp_all; done) | simp_all
  · unfold binOp
    split <;> first | (exfalso; simp_all; done) | simp_all

theorem bytes_toList (l : List UInt8) : (⟨l.toArray⟩ : ByteArray).toList = l := by
  rw [ByteArray.toList_eq]

theorem bin_q {op : BinOp} {t t' : TypeId} {x y : Operand} (ho : o.op = .binOp op t x y t') (h : vBin2 C s op t x y K) : QSound C.P o s K := by
  intro R G γ fr a w hs hmf
  unfold vBin2 at h
  have hx := ev_rel hs x
  have hy := ev_rel hs y
  split at h
  · rename_i k m k' n hex hey
    rw [hex] at hx; rw [hey] at hy
    obtain ⟨hx', hxk⟩ : a.eval x = .int k m ∧ inK k m := by simpa [SV.rel, LV.relV, LV.rel] using hx
    obtain ⟨hy', hyk⟩ : a.eval y = .int k' n ∧ inK k' n := by simpa [SV.rel, LV.relV, LV.rel] using hy
    split at h
    · refine ⟨.int k (shlOp k m n), _, fun w' _ => ?_, h.2, rfl, wrap_inK _ _⟩
      have : ¬ n < 0 := by omega
      simp [execOp, ho, hx', hy', eqGuard, binOp, Op.shift, this, shlOp]
    · refine ⟨.int k (shrOp k m n), _, fun w' _ => ?_, h.2, rfl, inK_shr hxk⟩
      have : ¬ n < 0 := by omega
      simp [execOp, ho, hx', hy', eqGuard, binOp, Op.shift, this, shrOp]
    · obtain ⟨rfl, h⟩ := h
      obtain ⟨v, hrun, z, hz, hzr⟩ := intBin_sound hxk h t x y
      refine ⟨v, _, fun w' _ => ?_, hz, (hzr G γ)⟩
      simp only [execOp, ho, hx', hy']
      simp only [Sem.run_bind] at hrun ⊢
      rw [hrun]; rfl
  · rename_i p q hex hey
    rw [hex] at hx; rw [hey] at hy
    have hx' : a.eval x = .bool p := by simpa [SV.rel, LV.relV, LV.rel] using hx
    have hy' : a.eval y = .bool q := by simpa [SV.rel, LV.relV, LV.rel] using hy
    obtain ⟨ht, h⟩ := h
    have hu : C.P.underlying t = some .bool := by have := tdOf_fits (C := C) (t := t) (by rw [ht]; simp); rw [ht] at this; exact this
    have hrun := fun w => run_eql (y := .bool q) (eqIn_bool (w := w) hu 9999 p q) (by simp) (by simp) (by simp) (by simp)
    split at h
    · refine ⟨.bool (p == q), _, fun w' _ => ?_, h, rfl⟩
      simp [execOp, ho, hx', hy', eqGuard, hrun]
    · refine ⟨.bool (!(p == q)), _, fun w' _ => ?_, h, rfl⟩
      simp [execOp, ho, hx', hy', eqGuard, hrun]
    · exact h.elim
  · rename_i p q hex hey
    rw [hex] at hx; rw [hey] at hy
    obtain ⟨hx', _⟩ : a.eval x = .string ⟨p.toArray⟩ ∧ p.length ≤ mxL := by simpa [SV.rel, LV.relV, LV.rel] using hx
    obtain ⟨hy', _⟩ : a.eval y = .string ⟨q.toArray⟩ ∧ q.length ≤ mxL := by simpa [SV.rel, LV.relV, LV.rel] using hy
    split at h
    · refine ⟨.bool (p == q), _, fun w' _ => ?_, h, rfl⟩
      simp [execOp, ho, hx', hy', eqGuard, binOp, Op.stringOp, bytes_toList]
    · refine ⟨.bool (!(p == q)), _, fun w' _ => ?_, h, rfl⟩
      simp [execOp, ho, hx', hy', eqGuard, binOp, Op.stringOp, bytes_toList]
    · refine ⟨.string ⟨(p ++ q).toArray⟩, _, fun w' _ => ?_, h.2, rfl, by rw [List.length_append]; exact h.1⟩
      have e : (⟨p.toArray⟩ : ByteArray) ++ ⟨q.toArray⟩ = ⟨(p ++ q).toArray⟩ := by
        apply ByteArray.ext
        simp [ByteArray.data_append]
      have h1 : ¬ (((p.length + q.length : Nat) : Int) > IntKind.i64.max) := by
        have : IntKind.i64.max = 9223372036854775807 := by decide
        omega
      have s1 : (⟨p.toArray⟩ : ByteArray).size = p.length := by simp [ByteArray.size]
      have s2 : (⟨q.toArray⟩ : ByteArray).size = q.length := by simp [ByteArray.size]
      simp only [execOp, ho, hx', hy', eqGuard, binOp, Op.stringOp, s1, s2, if_neg h1, e]
      rfl
    · exact h.elim
  · rename_i id path off hex hey
    rw [hex] at hx; rw [hey] at hy
    have hx' : a.eval x = .pointer (some ⟨blk (γ id), poff path off, none⟩) := by simpa [SV.rel, LV.relV, LV.rel] using hx
    have hy' : a.eval y = .pointer none := by simpa [SV.rel, LV.relV, LV.rel] using hy
    obtain ⟨ht, h⟩ := h
    have hu : ∃ e, C.P.underlying t = some (.pointer e) := by have := tdOf_fits (C := C) (t := t) (by rw [ht]; simp); rw [ht] at this; exact this
    obtain ⟨e, hu⟩ := hu
    have hrun := fun w => run_eql (eqIn_ptr_nil (w := w) hu 9999 ⟨blk (γ id), poff path off, none⟩) (by simp) (by simp) (by simp) (by simp)
    split at h
    · refine ⟨.bool false, _, fun w' _ => ?_, h, rfl⟩
      simp [execOp, ho, hx', hy', eqGuard, hrun]
    · refine ⟨.bool true, _, fun w' _ => ?_, h, rfl⟩
      simp [execOp, ho, hx', hy', eqGuard, hrun]
    · exact h.elim
  · rename_i hex hey
    rw [hex] at hx; rw [hey] at hy
    have hx' : a.eval x = .pointer none := by simpa [SV.rel, LV.relV, LV.rel] using hx
    have hy' : a.eval y = .pointer none := by simpa [SV.rel, LV.relV, LV.rel] using hy
    obtain ⟨ht, h⟩ := h
    have hu : ∃ e, C.P.underlying t = some (.pointer e) := by have := tdOf_fits (C := C) (t := t) (by rw [ht]; simp); rw [ht] at this; exact this
    obtain ⟨e, hu⟩ := hu
    have hrun := fun w => run_eql (eqIn_nil_nil (w := w) hu 9999) (by simp) (by simp) (by simp) (by simp)
    split at h
    · refine ⟨.bool true, _, fun w' _ => ?_, h, rfl⟩
      simp [execOp, ho, hx', hy', eqGuard, hrun]
    · refine ⟨.bool false, _, fun w' _ => ?_, h, rfl⟩
      simp [execOp, ho, hx', hy', eqGuard, hrun]
    · exact h.elim
  · exact h.elim

/-- One value. -/
def vUn (s : SymSt) (op : UnOp) (x : Operand) (K : KT) : Prop := match op, ev s x with
  | .not, .l (.bool b) => K (.one (.l (.bool (!b)))) s
  | .neg, .l (.int k n) => K (.one (.l (.int k (k.wrap (0 - n))))) s
  | .xor, .l (.int k n) => K (.one (.l (.int k (bitsOp .xor k (if k.signed then -1 else k.max) n)))) s
  | _, _ => False
theorem un_q {op : UnOp} {t : TypeId} {x : Operand} (ho : o.op = .unOp op t x) (h : vUn s op x K) : QSound C.P o s K := by
  intro R G γ fr a w hs hmf
  unfold vUn at h
  have hx := ev_rel hs x
  split at h
  · rename_i b hex
    rw [hex] at hx
    have hx' : a.eval x = .bool b := by simpa [SV.rel, LV.relV, LV.rel] using hx
    exact ⟨.bool (!b), _, fun w' _ => by simp [execOp, ho, hx', Op.unary], h, rfl⟩
  · rename_i k n hex
    rw [hex] at hx
    obtain ⟨hx', _⟩ : a.eval x = .int k n ∧ inK k n := by simpa [SV.rel, LV.relV, LV.rel] using hx
    exact ⟨.int k (k.wrap (0 - n)), _, fun w' _ => by simp [execOp, ho, hx', Op.unary, Op.intArith], h, rfl, wrap_inK _ _⟩
  · rename_i k n hex
    rw [hex] at hx
    obtain ⟨hx', _⟩ : a.eval x = .int k n ∧ inK k n := by simpa [SV.rel, LV.relV, LV.rel] using hx
    refine ⟨.int k (bitsOp .xor k (if k.signed then -1 else k.max) n), _, fun w' _ => ?_, h, rfl, bits_inK _ _ _ _⟩
    simp only [execOp, ho, hx', Op.unary, Op.intBits]
    rfl
  · exact h.elim

/-- A list of bytes as a datum. -/
def Rep.bytesOf : {α : Type} → Rep α → α → Option (List Int)
  | _, .slice (.int .u8), l => some l
  | _, _, _ => none
theorem Rep.bytesOf_spec : {α : Type} → (R : Rep α) → {x : α} → {l : List Int} → R.bytesOf x = some l → {G : Hp} → {cs : List Value} → R.enc G x cs →
    ∃ a cap, cs = [.slice a l.length cap] ∧ l.length ≤ mxL ∧ (∀ x ∈ l, inK .u8 x) ∧ (l = [] ∨ ∃ b p q t fr, a = some ⟨b, p.length, none⟩ ∧ G b = some (.cells (p ++ (l.map (.int .u8) ++ q)).toArray t fr))
  | _, .slice (.int .u8), x, l, h, G, cs, he => by
    simp only [bytesOf, Option.some.injEq] at h
    subst h
    have hok := Rep.enc_ok _ he
    obtain ⟨a, cap, e, _, _, _, h⟩ := (enc_slice _ G x cs).1 he
    refine ⟨a, cap, e, hok.1, hok.2, h.imp (fun h => h) ?_⟩
    rintro ⟨b, p, es, q, t, fr, ha, hb, hl⟩
    rw [encL_ints] at hl
    exact ⟨b, p, q, t, fr, ha, by rw [hb, hl.1, List.append_assoc]⟩
  | _, .slice (.int .i8), _, _, h, _, _, _ => by simp [bytesOf] at h
  | _, .slice (.int .i16), _, _, h, _, _, _ => by simp [bytesOf] at h
  | _, .slice (.int .i32), _, _, h, _, _, _ => by simp [bytesOf] at h
  | _, .slice (.int .i64), _, _, h, _, _, _ => by simp [bytesOf] at h
  | _, .slice (.int .u16), _, _, h, _, _, _ => by simp [bytesOf] at h
  | _, .slice (.int .u32), _, _, h, _, _, _ => by simp [bytesOf] at h
  | _, .slice (.int .u64), _, _, h, _, _, _ => by simp [bytesOf] at h
  | _, .slice .bool, _, _, h, _, _, _ => by simp [bytesOf] at h
  | _, .slice .str, _, _, h, _, _, _ => by simp [bytesOf] at h
  | _, .slice .unit, _, _, h, _, _, _ => by simp [bytesOf] at h
  | _, .slice (.pair _ _), _, _, h, _, _, _ => by simp [bytesOf] at h
  | _, .slice (.arr _ _), _, _, h, _, _, _ => by simp [bytesOf] at h
  | _, .slice (.slice _), _, _, h, _, _, _ => by simp [bytesOf] at h
  | _, .slice (.iso _ _ _ _ _), _, _, h, _, _, _ => by simp [bytesOf] at h
  | _, .int _, _, _, h, _, _, _ => by simp [bytesOf] at h
  | _, .bool, _, _, h, _, _, _ => by simp [bytesOf] at h
  | _, .str, _, _, h, _, _, _ => by simp [bytesOf] at h
  | _, .unit, _, _, h, _, _, _ => by simp [bytesOf] at h
  | _, .pair _ _, _, _, h, _, _, _ => by simp [bytesOf] at h
  | _, .arr _ _, _, _, h, _, _, _ => by simp [bytesOf] at h
  | _, .iso _ _ _ _ _, _, _, h, _, _, _ => by simp [bytesOf] at h
end
end Go.Proofs.Ytnmjcdlgfimnaaa
