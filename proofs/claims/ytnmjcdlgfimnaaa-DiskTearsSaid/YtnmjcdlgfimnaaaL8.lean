/- Chapter 8's statements: painted; Blank. -/
import Derived.Test.YtnmjcdlgfimnaaaL8m
import Derived.Test.YtnmjcdlgfimnaaaDm
import Derived.Test.YtnmjcdlgfimnaaaFzc
namespace Go.Proofs.Ytnmjcdlgfimnaaa
set_option linter.unusedSimpArgs false
set_option linter.unusedVariables false
set_option maxRecDepth 20000
attribute [local irreducible] vcOps vcCode vcA vcSch Wc
set_option maxHeartbeats 8000000
theorem painted_fn (c : Int) : Pure Cx.P 30 [.int .u8 c] [.dat (.arr 64 (.int .u8)) (paintL c)] := by
  refine Pure.go2 (E := Cx.env) (fn := Try.f30) (res := [_]) Try.func30 isfn30 rfl rfl rfl (by kernel_rfl) rfl ?_
  push_cast
  try intro hf
  repeat' (first
    | apply go_seq | apply go_block | apply go_region | apply go_skip | apply go_exit | apply go_label | apply go_ret
    | apply seqK_n | apply seqK_x | apply seqK_r | apply blockK_n | apply blockK_r | apply blockK_hit | apply blockK_miss rfl | apply loopK_x | apply loopK_r | apply regK_go | apply finK_n | apply finK_r
    | (refine vres_go ?_; push_cast) | apply ops_nil | refine ops_in (w_i64 _ (by omega) (by omega)) ?_ | refine ops_in (w_u8 _ (by omega) (by omega)) ?_ | refine ops_in (w_u32 _ (by omega) (by omega)) ?_ | refine ops_in (w_u64 _ (by omega) (by omega)) ?_
    | (refine ops_put rfl rfl ?_; intro K' hK'; push_cast; (repeat' refine And.intro ?_ ?_); all_goals (first | (apply hK'; clear hK' K') | (refine ⟨trivial, trivial, ?_⟩; apply hK'; clear hK' K') | (intro hb; (try push_cast at hb); all_goals (intros; apply hK'; clear hK' K')) | (clear hK' K'; first | omega | skip)))
    | (refine ops_no rfl rfl ?_; intro K' hK'; push_cast; (repeat' refine And.intro ?_ ?_); all_goals (first | (apply hK'; clear hK' K') | (refine ⟨trivial, trivial, ?_⟩; apply hK'; clear hK' K') | (intro hb; (try push_cast at hb); all_goals (intros; apply hK'; clear hK' K')) | (clear hK' K'; first | omega | skip)))
    | (refine go_cond (by push_cast; first | done | rfl) ?_ ?_ <;> intro hc <;> (try push_cast at hc))
    | (refine ops_gt rfl rfl rfl (by push_cast; first | done | rfl) ?_)
    | (refine ops_gb rfl rfl rfl (by push_cast; first | done | rfl) ?_ ?_; focus (intro hc; (try push_cast at hc); all_goals (intro K' hK'; push_cast; (repeat' refine And.intro ?_ ?_); all_goals (first | (apply hK'; clear hK' K') | (refine ⟨trivial, trivial, ?_⟩; apply hK'; clear hK' K') | (intro hb; (try push_cast at hb); all_goals (intros; apply hK'; clear hK' K')) | (clear hK' K'; first | omega | skip)))))
    | (intro hc; (try push_cast at hc)))
  refine go_loop2 [4, 6, 7, 8, 9, 10, 11, 12, 13, 14, 15] [3, 12] (fun (i : Nat) => i ≤ 64) (fun (i : Nat) => [(6, .one (.l (.int .i64 i)))]) (fun (i : Nat) => [(3, .segs [.dat (.arr 64 (.int .u8)) ((List.range i).map (fun (i : Nat) => (c + i) % 256) ++ repl (64 - i) 0)])]) (fun (i : Nat) => 64 - i) 0 ?_ (by push_cast; first | done | rfl) (by push_cast; first | done | rfl) ?_ ?_
  · omega
  · push_cast
    simp
  · intro i hi
    push_cast
    intro hg
    repeat' (first
    | apply go_seq | apply go_block | apply go_region | apply go_skip | apply go_exit | apply go_label | apply go_ret
    | apply seqK_n | apply seqK_x | apply seqK_r | apply blockK_n | apply blockK_r | apply blockK_hit | apply blockK_miss rfl | apply loopK_x | apply loopK_r | apply regK_go | apply finK_n | apply finK_r
    | (refine vres_go ?_; push_cast) | apply ops_nil | refine ops_in (w_i64 _ (by omega) (by omega)) ?_ | refine ops_in (w_u8 _ (by omega) (by omega)) ?_ | refine ops_in (w_u32 _ (by omega) (by omega)) ?_ | refine ops_in (w_u64 _ (by omega) (by omega)) ?_
    | (refine ops_put rfl rfl ?_; intro K' hK'; push_cast; (repeat' refine And.intro ?_ ?_); all_goals (first | (apply hK'; clear hK' K') | (refine ⟨trivial, trivial, ?_⟩; apply hK'; clear hK' K') | (intro hb; (try push_cast at hb); all_goals (intros; apply hK'; clear hK' K')) | (clear hK' K'; first | omega | skip)))
    | (refine ops_no rfl rfl ?_; intro K' hK'; push_cast; (repeat' refine And.intro ?_ ?_); all_goals (first | (apply hK'; clear hK' K') | (refine ⟨trivial, trivial, ?_⟩; apply hK'; clear hK' K') | (intro hb; (try push_cast at hb); all_goals (intros; apply hK'; clear hK' K')) | (clear hK' K'; first | omega | skip)))
    | (refine go_cond (by push_cast; first | done | rfl) ?_ ?_ <;> intro hc <;> (try push_cast at hc))
    | (refine ops_gt rfl rfl rfl (by push_cast; first | done | rfl) ?_)
    | (refine ops_gb rfl rfl rfl (by push_cast; first | done | rfl) ?_ ?_; focus (intro hc; (try push_cast at hc); all_goals (intro K' hK'; push_cast; (repeat' refine And.intro ?_ ?_); all_goals (first | (apply hK'; clear hK' K') | (refine ⟨trivial, trivial, ?_⟩; apply hK'; clear hK' K') | (intro hb; (try push_cast at hb); all_goals (intros; apply hK'; clear hK' K')) | (clear hK' K'; first | omega | skip)))))
    | (intro hc; (try push_cast at hc)))
    · refine loopK_m (i + 1) (by omega) (by omega) ?_
      push_cast
      rw [u8_wrap, paint_succ c i (by omega)]
      have e : 64 - (i + 1) = 63 - i := by omega
      rw [e]
    · have e : i = 64 := by omega
      subst e
      simp [paintL, repl]
theorem painted_con : Con Cx.P 30 (.pair (.int .u8) (.unit)) (fun x => (fun (c : Int) => True) x.1) (fun x => (fun (c : Int) => [.dat (.arr 64 (.int .u8)) (paintL c)]) x.1) := ⟨isfn30, fun x h => painted_fn x.1⟩
theorem close_disk0i {D : R08Disk} {id m wy : Nat} {V : Int → Value} {M : Int → List (List Int)} {way : List DiskTicket} {size : Int} {dead : Bool} {rest : List (Nat × Box)} (h : DOk D ⟨V, M, way, none, size, dead⟩) (h1 : m ≠ id) (h2 : wy ≠ id) (h3 : m ≠ wy) :
    Closes ((id, .segs [.mp m, .int .i64 size, .own wy, .nilp, .bool dead]) :: (m, .mpr (.arr 64 (.int .u8)) M V none) :: (wy, .arr rDiskTicket way) :: rest) ((id, .obj DiskO D) :: rest) := by
  have := closes_parts2 (ok := DOk) (mm := mmD) (root := 1) (id := id) (D := D) (rest := rest) ⟨V, M, way, none, size, dead⟩ (fun j => if j = 1 then id else if j = 9001 then m else if j = 9002 then wy else j) h (by simp) (by simp [mmD, idsM]) (by simp [mmD, idsM]) (by
    simp only [mmD, idsM, List.map_cons, List.map_nil, List.mem_cons, List.not_mem_nil, or_false]
    rintro a (rfl | rfl | rfl) b (rfl | rfl | rfl) <;> simp <;> omega)
  simpa [renM, mmD, Box.ren, LV.ren, DiskO] using this
theorem DOk_blank (n : Int) (V : Int → Value) : DOk (dBlank n) ⟨V, fun _ => [], [], none, max (min n 2048) 0, false⟩ := by
  have hl : (dBlank n).Base.length = (max 0 (min n 2048)).toNat := by simp [dBlank]
  refine ⟨⟨by omega, ?_, by simp [dBlank], by simp [dBlank], by simp [dBlank]⟩, by simp only; omega, rfl, by simp [dBlank], ?_, by simp [dBlank, tks]⟩
  · intro s hs
    simp only [dBlank] at hs
    rw [List.eq_of_mem_replicate hs]
    simp [zeros, repl]
  · intro k
    left
    refine ⟨rfl, by simp [dBlank, qTo], fun h0 h1 => ?_⟩
    have : k.toNat < (dBlank n).Base.length := by omega
    rw [List.getD_eq_getElem?_getD, List.getElem?_eq_getElem this]
    simp [dBlank]
theorem Blank_fn (n : Int) : Spec Cx.P 24 [.l (.int .i64 n)] [] (tvL [.ptr 10 [] 0]) [(10, .obj DiskO (dBlank n))] := by
  refine Spec.go2 (E := Cx.env) (fn := Try.f24) (res := [_]) _ (Opens.refl _) Try.func24 isfn24 rfl rfl (by simp [idsV, SV.ids, LV.ids]) (by simp [idsM]) (by kernel_rfl) rfl ?_
  intro hf
  try push_cast at hf
  intro _
  simp only [mmD, parSl, idsM, List.map_cons, List.map_nil, List.cons_append, List.nil_append]
  repeat' (first
    | apply go_seq | apply go_block | apply go_region | apply go_skip | apply go_exit | apply go_label | apply go_ret
    | apply seqK_n | apply seqK_x | apply seqK_r | apply blockK_n | apply blockK_r | apply blockK_hit | apply blockK_miss rfl | apply loopK_x | apply loopK_r | apply regK_go | apply finK_n | apply finK_r
    | (refine vres_go ?_; push_cast) | apply ops_nil | refine ops_in (w_i64 _ (by omega) (by omega)) ?_ | refine ops_in (w_u8 _ (by omega) (by omega)) ?_ | refine ops_in (w_u32 _ (by omega) (by omega)) ?_ | refine ops_in (w_u64 _ (by omega) (by omega)) ?_
    | (refine ops_put rfl rfl ?_; intro K' hK'; push_cast; (repeat' refine And.intro ?_ ?_); all_goals (first | (apply hK'; clear hK' K') | (refine ⟨trivial, trivial, ?_⟩; apply hK'; clear hK' K') | (intro hb; (try push_cast at hb); all_goals (intros; apply hK'; clear hK' K')) | (clear hK' K'; first | omega | skip)))
    | (refine ops_no rfl rfl ?_; intro K' hK'; push_cast; (repeat' refine And.intro ?_ ?_); all_goals (first | (apply hK'; clear hK' K') | (refine ⟨trivial, trivial, ?_⟩; apply hK'; clear hK' K') | (intro hb; (try push_cast at hb); all_goals (intros; apply hK'; clear hK' K')) | (clear hK' K'; first | omega | skip)))
    | (refine go_cond (by push_cast; first | done | rfl) ?_ ?_ <;> intro hc <;> (try push_cast at hc))
    | (refine ops_gt rfl rfl rfl (by push_cast; first | done | rfl) ?_)
    | (refine ops_gb rfl rfl rfl (by push_cast; first | done | rfl) ?_ ?_; focus (intro hc; (try push_cast at hc); all_goals (intro K' hK'; push_cast; (repeat' refine And.intro ?_ ?_); all_goals (first | (apply hK'; clear hK' K') | (refine ⟨trivial, trivial, ?_⟩; apply hK'; clear hK' K') | (intro hb; (try push_cast at hb); all_goals (intros; apply hK'; clear hK' K')) | (clear hK' K'; first | omega | skip)))))
    | (intro hc; (try push_cast at hc)))
  refine Fin2.fin ⟨[(10, .segs [.mp 6, .int .i64 (max (min n 2048) 0), .nils, .nilp, .bool false]), (6, .mpr (.arr 64 (.int .u8)) (fun _ => []) ‹Int → Value› none)], ?_, ?_, ?_, ?_, ?_⟩
  · push_cast
  · push_cast
  · simp [idsM]
  · refine Closes.trans (Closes.nils (id := 10) (n := 9005) (p := [.mp 6, .int .i64 (max (min n 2048) 0)]) (q := [.nilp, .bool false]) rDiskTicket (by omega) (by omega) (by simp [idsL, LV.ids]) (by simp [idsL, LV.ids]) (by simp [idsM]) (by simp [Box.ids])) (Closes.trans (Closes.sub (mem' := [(10, .segs [.mp 6, .int .i64 (max (min n 2048) 0), .own 9005, .nilp, .bool false]), (6, .mpr (.arr 64 (.int .u8)) (fun _ => []) ‹Int → Value› none), (9005, .arr rDiskTicket [])]) (by simp [idsM]) ?_) (close_disk0i (DOk_blank n _) (by omega) (by omega) (by omega)))
    intro e he
    simp only [List.mem_cons, List.cons_append, List.nil_append, List.not_mem_nil, or_false] at he ⊢
    rcases he with h | h | h
    · exact .inl h
    · exact .inr (.inr h)
    · exact .inr (.inl h)
  · simp [tvL, TV.ids, SV.ids, LV.ids, idsV]
theorem Blank_con : ConNew Cx.P 24 10 DiskO (.pair (.int .i64) .unit) (fun _ => True) (fun x => dBlank x.1) := ⟨isfn24, fun x _ => Blank_fn x.1⟩
end Go.Proofs.Ytnmjcdlgfimnaaa
