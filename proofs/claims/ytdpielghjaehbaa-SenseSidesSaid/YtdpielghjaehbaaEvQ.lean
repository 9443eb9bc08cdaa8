/- A long run of the evaluator, cut into pieces: runs of code, one behind the other. -/
import Derived.Test.YtdpielghjaehbaaEvU
import Derived.Test.YtdpielghjaehbaaEvRead
import Derived.Test.YtdpielghjaehbaaEvX
import Derived.Test.YtdpielghjaehbaaSa
set_option linter.unusedSectionVars false
set_option linter.unusedSimpArgs false
set_option linter.unusedVariables false
namespace Go.Proofs.Ytdpielghjaehbaa.Ev
open Go.RowKit

section
variable {P : Program} {E : Env} {B0 : Nat} {d d' : Seg} {n n' : Nat} {s s' : Slots} {Q : AX → Slots → Seg → Nat → Prop}

/-- Code that the evaluator goes through. -/
theorem aw_ev (hE : EnvOk P E) {k : Nat} {c : Code} {x : AX} (h : ev E k c [] s d n = some (x, s', d', n')) (hc : codeOk c = true) (hQ : Q x s' d' n') : AW P E B0 c s d n Q := by
  intro al ρ w a Q' hr hs hq
  exact (ev_ok hE k).1 c [] s d n x s' d' n' al ρ w a Q' h hc hr hs (hq x s' d' n' hQ)

theorem aw_seq {c1 c2 : Code} (h : AW P E B0 c1 s d n fun x s' d' n' => match x with
    | .norm => AW P E B0 c2 s' d' n' Q
    | x => Q x s' d' n') : AW P E B0 (.seq c1 c2) s d n Q := by
  intro al ρ w a Q' hr hs hq
  refine wp_seq ?_
  refine h al ρ w a _ hr hs fun x s1 d1 n1 hx δ ρ1 al1 w1 a1 hd hst hs1 hdf => ?_
  cases x with
  | norm => exact hx al1 ρ1 w1 a1 Q' hst.rep hs1 fun x s2 d2 n2 hQ => (hq x s2 d2 n2 hQ).after hd hst hdf
  | exit id => exact hq _ s1 d1 n1 hx δ ρ1 al1 w1 a1 hd hst hs1 hdf
  | ret => exact hq _ s1 d1 n1 hx δ ρ1 al1 w1 a1 hd hst hs1 hdf

theorem aw_block {id : Nat} {c : Code} (h : AW P E B0 c s d n fun x s' d' n' => match x with
    | .exit j => Q (if j = id then .norm else .exit j) s' d' n'
    | x => Q x s' d' n') : AW P E B0 (.block id c) s d n Q := by
  intro al ρ w a Q' hr hs hq
  refine wp_block ?_
  refine h al ρ w a _ hr hs fun x s1 d1 n1 hx δ ρ1 al1 w1 a1 hd hst hs1 hdf => ?_
  cases x with
  | norm => exact hq _ s1 d1 n1 hx δ ρ1 al1 w1 a1 hd hst hs1 hdf
  | ret => exact hq _ s1 d1 n1 hx δ ρ1 al1 w1 a1 hd hst hs1 hdf
  | exit j =>
    have := hq _ s1 d1 n1 hx δ ρ1 al1 w1 a1 hd hst hs1 hdf
    show if j = id then Q' .normal a1 w1 else Q' (.exit j) a1 w1
    by_cases e : j = id
    · rw [if_pos e] at this ⊢; exact this
    · rw [if_neg e] at this ⊢; exact this

theorem aw_mono {c : Code} {Q2 : AX → Slots → Seg → Nat → Prop} (h : AW P E B0 c s d n Q) (hq : ∀ x s' d' n', Q x s' d' n' → Q2 x s' d' n') : AW P E B0 c s d n Q2 := by
  intro al ρ w a Q' hr hs hq2
  exact h al ρ w a Q' hr hs fun x s' d' n' hx => hq2 x s' d' n' (hq x s' d' n' hx)
end

/-- A call, by the evaluator. -/
theorem callsA_ev {P : Program} {E : Env} {B0 : Nat} (hE : EnvOk P E) {k f : Nat} {args : List AV} {v : AV} {d d' : Seg} {n n' : Nat} (h : evFn E k f args [] d n = some (v, d', n')) {R : AV → Seg → Nat → Prop} (hR : R v d' n') : CallsA P E B0 f args d n R := by
  intro al ρ w hr ha
  obtain ⟨h1, h2⟩ := evFn_ok hE k f args [] d n v d' n' al ρ w h hr ha
  exact ⟨h1, h2.mono fun e w' ⟨δ2, ρ2, al2, a1, a2, a3, a4⟩ => ⟨v, d', n', δ2, ρ2, al2, hR, a1, a2, a3, a4⟩⟩

noncomputable def rdParts : List Code := match Try.f19.body with
  | some (.seq a (.seq b (.seq c (.seq d (.seq (.block _ (.loop l)) r))))) => [a, b, c, d, l, r]
  | _ => []
noncomputable def rdA : Code := rdParts.getD 0 .skip
noncomputable def rdB : Code := rdParts.getD 1 .skip
noncomputable def rdC : Code := rdParts.getD 2 .skip
noncomputable def rdD : Code := rdParts.getD 3 .skip
noncomputable def rdL : Code := rdParts.getD 4 .skip
noncomputable def rdR : Code := rdParts.getD 5 .skip

theorem rd_body : Try.f19.body = some (.seq rdA (.seq rdB (.seq rdC (.seq rdD (.seq (.block 0 (.loop rdL)) rdR))))) := by kernel_rfl
theorem rd_ok : codeOk rdA = true ∧ codeOk rdB = true ∧ codeOk rdC = true ∧ codeOk rdD = true ∧ codeOk rdL = true ∧ codeOk rdR = true := ⟨by kernel_rfl, by kernel_rfl, by kernel_rfl, by kernel_rfl, by kernel_rfl, by kernel_rfl⟩

abbrev SDN := Slots × Seg × Nat

def Goes1 (c : Code) (a b : SDN) : Prop := ev env 2000 c [] a.1 a.2.1 a.2.2 = some (.norm, b.1, b.2.1, b.2.2)

/-- The rounds of the outer loop. -/
def Rounds : List SDN → Prop
  | [] => True
  | [_] => True
  | a :: b :: l => Goes1 rdL a b ∧ Rounds (b :: l)

theorem rounds_at : ∀ {l : List SDN} {i : Nat} {a b : SDN}, Rounds l → l[i]? = some a → l[i + 1]? = some b → Goes1 rdL a b
  | [], i, a, b, _, h, _ => by cases h
  | [x], i, a, b, _, _, h => by simp at h
  | x :: y :: l, 0, a, b, hr, h1, h2 => by
    simp only [List.getElem?_cons_zero, Option.some.injEq, List.getElem?_cons_succ] at h1 h2
    subst h1; subst h2; exact hr.1
  | x :: y :: l, i + 1, a, b, hr, h1, h2 => rounds_at hr.2 (by simpa using h1) (by simpa using h2)

/-- regletref03.Read at a text, by pieces. -/
theorem read03_pieces {B0 : Nat} {text : List UInt8} {a b c : SDN} {l : List SDN} {s0 sl se : SDN} {v : AV} (h1 : Goes1 rdA (⟨Try.f19.ntmps, argSlots [.c (.str text)] 0⟩, [], 0) a) (h2 : Goes1 rdB a b) (h3 : Goes1 rdC b c) (h4 : Goes1 rdD c s0)
    (hl0 : l[0]? = some s0) (hl1 : l[l.length - 1]? = some sl) (hr : Rounds l) (he : ev env 2000 rdL [] sl.1 sl.2.1 sl.2.2 = some (.exit 0, se.1, se.2.1, se.2.2)) {x : AX} {sf : SDN} (hx : x = .norm ∨ x = .ret) (hf : ev env 2000 rdR [] se.1 se.2.1 se.2.2 = some (x, sf.1, sf.2.1, sf.2.2))
    (hv : finalOf env sf.1 [sf.2.1] Try.f19.results.toList = some v) :
    CallsA Try.prog env B0 19 [.c (.str text)] [] 0 fun v' d' n' => v' = v ∧ d' = sf.2.1 ∧ n' = sf.2.2 := by
  obtain ⟨k1, k2, k3, k4, k5, k6⟩ := rd_ok
  refine callsA_of env_ok Try.func19 rd_body (by kernel_rfl) (by rw [Try.ntmps19]; simp) fun _ _ => ?_
  refine aw_seq (aw_ev env_ok h1 k1 ?_)
  refine aw_seq (aw_ev env_ok h2 k2 ?_)
  refine aw_seq (aw_ev env_ok h3 k3 ?_)
  refine aw_seq (aw_ev env_ok h4 k4 ?_)
  refine aw_seq (aw_block (aw_loop (fun k s d n => ∃ i, i + k = l.length - 1 ∧ l[i]? = some (s, d, n)) ?_ (l.length - 1) s0.1 s0.2.1 s0.2.2 ⟨0, by omega, hl0⟩))
  rintro k s d n ⟨i, hik, hi⟩ _ _
  cases k with
  | zero =>
    have hi2 : i = l.length - 1 := by omega
    subst hi2
    rw [hl1] at hi
    simp only [Option.some.injEq] at hi
    subst hi
    refine aw_ev env_ok he k5 ?_
    show AW _ _ _ _ _ _ _ _
    refine aw_ev env_ok hf k6 ⟨hx, v, hv, rfl, rfl, rfl⟩
  | succ k =>
    obtain ⟨b, hb⟩ : ∃ b, l[i + 1]? = some b := ⟨_, List.getElem?_eq_getElem (by omega)⟩
    exact aw_ev env_ok (rounds_at hr hi hb) k5 ⟨k, by omega, i + 1, by omega, hb⟩

/-- What the second half answers, as a grammar. -/
noncomputable def joinsAs (k : Nat) (x : AC) (s : SDN) (g : List Ru) : Bool :=
  match evFn env k 20 [.c x] [] s.2.1 s.2.2 with
  | some (.tup [v, .int .i64 0], d, _) => isRules [d] v g
  | _ => false

theorem join_ev {B0 k : Nat} {x : AC} {s : SDN} {g : List Ru} (h : joinsAs k x s g = true) : CallsA Try.prog env B0 20 [.c x] s.2.1 s.2.2 fun v d' n' => ∃ y, v = .tup [y, .int .i64 0] ∧ isRules [d'] y g = true := by
  unfold joinsAs at h
  split at h
  · rename_i y d n hev
    exact callsA_ev env_ok hev ⟨y, rfl, h⟩
  · cases h

theorem isRules_shape {H : List Seg} {y : AC} {g : List Ru} (h : isRules H y g = true) : y = .sl0 ∨ ∃ i len, y = .sl i len := by
  unfold isRules at h
  split at h
  · exact .inl rfl
  · exact .inr ⟨_, _, rfl⟩
  · cases h

/-- regletlaw06.Read at a text, by its halves. -/
theorem read_halves {B0 k i len : Nat} {text : List UInt8} {s : SDN} {g : List Ru} (h : CallsA Try.prog env B0 19 [.c (.str text)] [] 0 fun v d' n' => v = .tup [.sl i len, .int .i64 0] ∧ d' = s.2.1 ∧ n' = s.2.2) (hj : joinsAs k (.sl i len) s g = true) :
    CallsA Try.prog env B0 13 [.c (.str text)] [] 0 fun v d' n' => ∃ y, v = .c y ∧ isRules [d'] y g = true := by
  refine callsA_code env_ok none1_ok Try.func13 rfl (by decide) rfl rfl (by simp) fun hl ha Q hQ => ?_
  simp +decide -implicitDefEqProofs only [code_skip, code_label, code_region, code_seq, code_block, code_exit, code_ret, code_cond, back_nil, back_seq, back_seq_exit, back_seq_ret, back_block, back_block_exit, back_block_ret, ops_nil, ops_cons, want_true, want_false, op_some, op_none, else_call, else_clo, clo_some, else_next, vals_some, it_some, cond_some, evWanted, evOp, val_tmp, val, absV, get_args, get_put, nt_put, put_none, evBin, evConv, evBuiltin, cmpInt, vals, partsOf, isAggD, cellsOf, isAggV, List.getElem?_cons_zero, List.getElem?_cons_succ, List.getElem?_nil, Option.getD_some, Option.getD_none, Nat.reduceEqDiff, Nat.reduceLT, Nat.reduceBEq, Nat.reduceBNe, reduceCtorEq, if_true, if_false, and_true, true_and, and_false, false_and, and_self, reduceIte, Bool.false_eq_true, forall_const, beqT, beqF, Bool.not_true, Bool.not_false, false_implies, true_implies, decide_true, decide_false, IntKind.bits, IntKind.signed, eq_self_iff_true, beq_self_eq_true, Bool.and_true, Bool.true_and, Bool.and_self, BEq.rfl, List.toList_toArray, finalOf, resultOf, List.length_cons, List.length_nil, List.length_map, List.length_replicate, cellsGood, List.all_cons, List.all_nil, AC.isCell, Nat.zero_add, Nat.mul_one, bne_self_eq_false, get_cons, List.getD_cons_zero, senv_mem, lift, Try.f13, none1]
  refine call_mono h fun v d1 n1 hR hl1 hle1 hok1 => ?_
  obtain ⟨rfl, rfl, rfl⟩ := hR
  simp +decide -implicitDefEqProofs only [code_skip, code_label, code_region, code_seq, code_block, code_exit, code_ret, code_cond, back_nil, back_seq, back_seq_exit, back_seq_ret, back_block, back_block_exit, back_block_ret, ops_nil, ops_cons, want_true, want_false, op_some, op_none, else_call, else_clo, clo_some, else_next, vals_some, it_some, cond_some, evWanted, evOp, val_tmp, val, absV, get_args, get_put, nt_put, put_none, evBin, evConv, evBuiltin, cmpInt, vals, partsOf, isAggD, cellsOf, isAggV, List.getElem?_cons_zero, List.getElem?_cons_succ, List.getElem?_nil, Option.getD_some, Option.getD_none, Nat.reduceEqDiff, Nat.reduceLT, Nat.reduceBEq, Nat.reduceBNe, reduceCtorEq, if_true, if_false, and_true, true_and, and_false, false_and, and_self, reduceIte, Bool.false_eq_true, forall_const, beqT, beqF, Bool.not_true, Bool.not_false, false_implies, true_implies, decide_true, decide_false, IntKind.bits, IntKind.signed, eq_self_iff_true, beq_self_eq_true, Bool.and_true, Bool.true_and, Bool.and_self, BEq.rfl, List.toList_toArray, finalOf, resultOf, List.length_cons, List.length_nil, List.length_map, List.length_replicate, cellsGood, List.all_cons, List.all_nil, AC.isCell, Nat.zero_add, Nat.mul_one, bne_self_eq_false, get_cons, List.getD_cons_zero, senv_mem, lift, none1]
  refine call_mono (join_ev hj) fun v d2 n2 hR hl2 hle2 hok2 => ?_
  obtain ⟨y, rfl, hy⟩ := hR
  rcases isRules_shape hy with rfl | ⟨i2, len2, rfl⟩
  · simp +decide -implicitDefEqProofs only [code_skip, code_label, code_region, code_seq, code_block, code_exit, code_ret, code_cond, back_nil, back_seq, back_seq_exit, back_seq_ret, back_block, back_block_exit, back_block_ret, ops_nil, ops_cons, want_true, want_false, op_some, op_none, else_call, else_clo, clo_some, else_next, vals_some, it_some, cond_some, evWanted, evOp, val_tmp, val, absV, get_args, get_put, nt_put, put_none, evBin, evConv, evBuiltin, cmpInt, vals, partsOf, isAggD, cellsOf, isAggV, List.getElem?_cons_zero, List.getElem?_cons_succ, List.getElem?_nil, Option.getD_some, Option.getD_none, Nat.reduceEqDiff, Nat.reduceLT, Nat.reduceBEq, Nat.reduceBNe, reduceCtorEq, if_true, if_false, and_true, true_and, and_false, false_and, and_self, reduceIte, Bool.false_eq_true, forall_const, beqT, beqF, Bool.not_true, Bool.not_false, false_implies, true_implies, decide_true, decide_false, IntKind.bits, IntKind.signed, eq_self_iff_true, beq_self_eq_true, Bool.and_true, Bool.true_and, Bool.and_self, BEq.rfl, List.toList_toArray, finalOf, resultOf, List.length_cons, List.length_nil, List.length_map, List.length_replicate, cellsGood, List.all_cons, List.all_nil, AC.isCell, Nat.zero_add, Nat.mul_one, bne_self_eq_false, get_cons, List.getD_cons_zero, senv_mem, lift, none1]
    refine hQ _ _ _ _ (.c .sl0) (by simp) ?_ ⟨_, rfl, hy⟩
    simp +decide -implicitDefEqProofs only [code_skip, code_label, code_region, code_seq, code_block, code_exit, code_ret, code_cond, back_nil, back_seq, back_seq_exit, back_seq_ret, back_block, back_block_exit, back_block_ret, ops_nil, ops_cons, want_true, want_false, op_some, op_none, else_call, else_clo, clo_some, else_next, vals_some, it_some, cond_some, evWanted, evOp, val_tmp, val, absV, get_args, get_put, nt_put, put_none, evBin, evConv, evBuiltin, cmpInt, vals, partsOf, isAggD, cellsOf, isAggV, List.getElem?_cons_zero, List.getElem?_cons_succ, List.getElem?_nil, Option.getD_some, Option.getD_none, Nat.reduceEqDiff, Nat.reduceLT, Nat.reduceBEq, Nat.reduceBNe, reduceCtorEq, if_true, if_false, and_true, true_and, and_false, false_and, and_self, reduceIte, Bool.false_eq_true, forall_const, beqT, beqF, Bool.not_true, Bool.not_false, false_implies, true_implies, decide_true, decide_false, IntKind.bits, IntKind.signed, eq_self_iff_true, beq_self_eq_true, Bool.and_true, Bool.true_and, Bool.and_self, BEq.rfl, List.toList_toArray, finalOf, resultOf, List.length_cons, List.length_nil, List.length_map, List.length_replicate, cellsGood, List.all_cons, List.all_nil, AC.isCell, Nat.zero_add, Nat.mul_one, bne_self_eq_false, get_cons, List.getD_cons_zero, senv_mem, lift, Try.f13]
  · simp +decide -implicitDefEqProofs only [code_skip, code_label, code_region, code_seq, code_block, code_exit, code_ret, code_cond, back_nil, back_seq, back_seq_exit, back_seq_ret, back_block, back_block_exit, back_block_ret, ops_nil, ops_cons, want_true, want_false, op_some, op_none, else_call, else_clo, clo_some, else_next, vals_some, it_some, cond_some, evWanted, evOp, val_tmp, val, absV, get_args, get_put, nt_put, put_none, evBin, evConv, evBuiltin, cmpInt, vals, partsOf, isAggD, cellsOf, isAggV, List.getElem?_cons_zero, List.getElem?_cons_succ, List.getElem?_nil, Option.getD_some, Option.getD_none, Nat.reduceEqDiff, Nat.reduceLT, Nat.reduceBEq, Nat.reduceBNe, reduceCtorEq, if_true, if_false, and_true, true_and, and_false, false_and, and_self, reduceIte, Bool.false_eq_true, forall_const, beqT, beqF, Bool.not_true, Bool.not_false, false_implies, true_implies, decide_true, decide_false, IntKind.bits, IntKind.signed, eq_self_iff_true, beq_self_eq_true, Bool.and_true, Bool.true_and, Bool.and_self, BEq.rfl, List.toList_toArray, finalOf, resultOf, List.length_cons, List.length_nil, List.length_map, List.length_replicate, cellsGood, List.all_cons, List.all_nil, AC.isCell, Nat.zero_add, Nat.mul_one, bne_self_eq_false, get_cons, List.getD_cons_zero, senv_mem, lift, none1]
    refine hQ _ _ _ _ (.c (.sl i2 len2)) (by simp) ?_ ⟨_, rfl, hy⟩
    simp +decide -implicitDefEqProofs only [code_skip, code_label, code_region, code_seq, code_block, code_exit, code_ret, code_cond, back_nil, back_seq, back_seq_exit, back_seq_ret, back_block, back_block_exit, back_block_ret, ops_nil, ops_cons, want_true, want_false, op_some, op_none, else_call, else_clo, clo_some, else_next, vals_some, it_some, cond_some, evWanted, evOp, val_tmp, val, absV, get_args, get_put, nt_put, put_none, evBin, evConv, evBuiltin, cmpInt, vals, partsOf, isAggD, cellsOf, isAggV, List.getElem?_cons_zero, List.getElem?_cons_succ, List.getElem?_nil, Option.getD_some, Option.getD_none, Nat.reduceEqDiff, Nat.reduceLT, Nat.reduceBEq, Nat.reduceBNe, reduceCtorEq, if_true, if_false, and_true, true_and, and_false, false_and, and_self, reduceIte, Bool.false_eq_true, forall_const, beqT, beqF, Bool.not_true, Bool.not_false, false_implies, true_implies, decide_true, decide_false, IntKind.bits, IntKind.signed, eq_self_iff_true, beq_self_eq_true, Bool.and_true, Bool.true_and, Bool.and_self, BEq.rfl, List.toList_toArray, finalOf, resultOf, List.length_cons, List.length_nil, List.length_map, List.length_replicate, cellsGood, List.all_cons, List.all_nil, AC.isCell, Nat.zero_add, Nat.mul_one, bne_self_eq_false, get_cons, List.getD_cons_zero, senv_mem, lift, Try.f13]

/-- So it reads beside any heap. -/
theorem reads_import {E : Env} {B0 : Nat} {text : List UInt8} {g : List Ru} (ht : ∀ e r, assoc env.tys e = some r → assoc E.tys e = some r) (h : ∀ B, CallsA Try.prog env B 13 [.c (.str text)] [] 0 fun v d' n' => ∃ y, v = .c y ∧ isRules [d'] y g = true) (d : Seg) (n : Nat) :
    CallsA Try.prog E B0 13 [.c (.str text)] d n fun v d' n' => ∃ x, v = .c x ∧ isRules [d'] x g = true ∧ n ≤ n' ∧ ∀ i, i < n → get [d'] i = get [d] i := by
  refine (callsA_import (E0 := env) ht (fun b o v h => by cases h) (fun x hx => by simp only [List.mem_singleton] at hx; subst hx; trivial) h d n).mono ?_
  rintro v d' n' ⟨_, _, _, ⟨y, rfl, hy⟩, rfl, rfl, rfl, hl, _, _⟩ _ hle _
  exact ⟨_, rfl, isRules_import hl hy, hle, fun i hi => get_sh_lt hi⟩

end Go.Proofs.Ytdpielghjaehbaa.Ev
