/- regletlaw06.SenseSpans: the walk. -/
import Derived.Test.YtdpielghjaehbaaGreatRm
set_option linter.unusedSectionVars false
set_option linter.unusedSimpArgs false
set_option linter.unusedVariables false
namespace Go.Proofs.YtdpielghjaehbaaGreat.Ev
open Go.RowKit

variable {mem : Nat → Nat → Option Value} {B0 : Nat}

theorem Live.cons {d : Seg} {n m j : Nat} {o : AObj} (h : Live d n) (hn : n ≤ m) (hj : j < m) (ho : o.ok (· < m)) : Live ((j, some o) :: d) m := by
  intro i x hx
  rw [get_cons] at hx
  split at hx
  · rename_i e
    simp only [Option.some.injEq] at hx
    subst hx
    exact ⟨by omega, ho⟩
  · obtain ⟨h1, h2⟩ := h i x hx
    exact ⟨by omega, AObj.ok_mono (fun _ hx => by omega) h2⟩

def spanGram (lo hi : Int) : List Ru := [⟨[97], .mk 7 [] [lo, hi] 0 0 []⟩, ⟨[98], .mk 6 [] [lo, hi] 0 0 []⟩, ⟨[99], .mk 3 [] [] 0 (-1) [.mk 4 [97] [] 0 0 []]⟩]

theorem spanGram_wf (lo hi : Int) : ∀ r ∈ spanGram lo hi, wfEx [[45], [97], [98], [99]] r.ex = true := by
  intro r hr
  simp only [spanGram, List.mem_cons, List.not_mem_nil, or_false] at hr
  rcases hr with rfl | rfl | rfl <;> simp [wfEx, wfAll]

set_option maxRecDepth 20000 in
set_option maxHeartbeats 4000000 in
theorem senseSpans_abs (lo hi : Int) (s : List UInt8) (utf : Bool) (d : Seg) (n : Nat) :
    CallsA Tryz.prog (lenv mem) B0 5 [.c (.int .i64 lo), .c (.int .i64 hi), .c (.str s), .c (.bool utf)] d n fun v d' n' => v = .c (.bool true) := by
  refine callsA_code lenv_ok none1_ok Tryz.func5 rfl (by decide) rfl rfl (by simp) fun hl _ Q hQ => ?_
  have t : True := trivial
  by_cases h1 : lo < 0
  · have h2 := t
    have h3 := t
    have h4 := t
    simp +decide -implicitDefEqProofs only [stp,code_seq,evWanted,evOp,val,absV,evBin,evConv,evBuiltin,cmpInt,vals,partsOf,isAggD,cellsOf,isAggV,Nat.reduceEqDiff,Nat.reduceLT,Nat.reduceBEq,Nat.reduceBNe,reduceCtorEq,if_true,if_false,reduceIte,forall_const,IntKind.bits,IntKind.signed,eq_self_iff_true,finalOf,resultOf,cellsGood,AC.isCell,senv_mem,lift, spliceAll,allFields,places,splice,List.take_zero,List.take_succ_cons,List.take_nil,List.drop_zero,List.drop_succ_cons,List.drop_nil,List.nil_append,List.append_nil,List.cons_append,List.all_cons,List.all_nil,Option.isSome_some,Nat.reduceAdd,Nat.reduceSub,Nat.reduceMul,Nat.reduceMod,Nat.reduceLeDiff,List.range,List.range.loop,List.map_cons,List.map_nil,pfind, Tryz.f5, lty3,lty4,lty5,lty9,lty22,lty33,lty25,lty34,lty23,lty36,lty40,lty98,lty96,lty93,lty95,lty54,lty38,lty31, lenv_mem, none1, h1, h2, h3, h4]
    refine call_mono (awake_ok d n) fun v d1 n1 hR hl1 hle1 hok1 => ?_
    obtain ⟨rfl, _⟩ := hR
    simp +decide -implicitDefEqProofs only [stp,code_seq,evWanted,evOp,val,absV,evBin,evConv,evBuiltin,cmpInt,vals,partsOf,isAggD,cellsOf,isAggV,Nat.reduceEqDiff,Nat.reduceLT,Nat.reduceBEq,Nat.reduceBNe,reduceCtorEq,if_true,if_false,reduceIte,forall_const,IntKind.bits,IntKind.signed,eq_self_iff_true,finalOf,resultOf,cellsGood,AC.isCell,senv_mem,lift, spliceAll,allFields,places,splice,List.take_zero,List.take_succ_cons,List.take_nil,List.drop_zero,List.drop_succ_cons,List.drop_nil,List.nil_append,List.append_nil,List.cons_append,List.all_cons,List.all_nil,Option.isSome_some,Nat.reduceAdd,Nat.reduceSub,Nat.reduceMul,Nat.reduceMod,Nat.reduceLeDiff,List.range,List.range.loop,List.map_cons,List.map_nil,pfind, lty3,lty4,lty5,lty9,lty22,lty33,lty25,lty34,lty23,lty36,lty40,lty98,lty96,lty93,lty95,lty54,lty38,lty31, lenv_mem, none1]
    refine hQ _ _ _ _ (.c (.bool true)) (by simp) ?_ rfl
    simp +decide -implicitDefEqProofs only [stp,code_seq,evWanted,evOp,val,absV,evBin,evConv,evBuiltin,cmpInt,vals,partsOf,isAggD,cellsOf,isAggV,Nat.reduceEqDiff,Nat.reduceLT,Nat.reduceBEq,Nat.reduceBNe,reduceCtorEq,if_true,if_false,reduceIte,forall_const,IntKind.bits,IntKind.signed,eq_self_iff_true,finalOf,resultOf,cellsGood,AC.isCell,senv_mem,lift, Tryz.f5]
  by_cases h2 : hi < lo
  · have h3 := t
    have h4 := t
    simp +decide -implicitDefEqProofs only [stp,code_seq,evWanted,evOp,val,absV,evBin,evConv,evBuiltin,cmpInt,vals,partsOf,isAggD,cellsOf,isAggV,Nat.reduceEqDiff,Nat.reduceLT,Nat.reduceBEq,Nat.reduceBNe,reduceCtorEq,if_true,if_false,reduceIte,forall_const,IntKind.bits,IntKind.signed,eq_self_iff_true,finalOf,resultOf,cellsGood,AC.isCell,senv_mem,lift, spliceAll,allFields,places,splice,List.take_zero,List.take_succ_cons,List.take_nil,List.drop_zero,List.drop_succ_cons,List.drop_nil,List.nil_append,List.append_nil,List.cons_append,List.all_cons,List.all_nil,Option.isSome_some,Nat.reduceAdd,Nat.reduceSub,Nat.reduceMul,Nat.reduceMod,Nat.reduceLeDiff,List.range,List.range.loop,List.map_cons,List.map_nil,pfind, Tryz.f5, lty3,lty4,lty5,lty9,lty22,lty33,lty25,lty34,lty23,lty36,lty40,lty98,lty96,lty93,lty95,lty54,lty38,lty31, lenv_mem, none1, h1, h2, h3, h4]
    refine call_mono (awake_ok d n) fun v d1 n1 hR hl1 hle1 hok1 => ?_
    obtain ⟨rfl, _⟩ := hR
    simp +decide -implicitDefEqProofs only [stp,code_seq,evWanted,evOp,val,absV,evBin,evConv,evBuiltin,cmpInt,vals,partsOf,isAggD,cellsOf,isAggV,Nat.reduceEqDiff,Nat.reduceLT,Nat.reduceBEq,Nat.reduceBNe,reduceCtorEq,if_true,if_false,reduceIte,forall_const,IntKind.bits,IntKind.signed,eq_self_iff_true,finalOf,resultOf,cellsGood,AC.isCell,senv_mem,lift, spliceAll,allFields,places,splice,List.take_zero,List.take_succ_cons,List.take_nil,List.drop_zero,List.drop_succ_cons,List.drop_nil,List.nil_append,List.append_nil,List.cons_append,List.all_cons,List.all_nil,Option.isSome_some,Nat.reduceAdd,Nat.reduceSub,Nat.reduceMul,Nat.reduceMod,Nat.reduceLeDiff,List.range,List.range.loop,List.map_cons,List.map_nil,pfind, lty3,lty4,lty5,lty9,lty22,lty33,lty25,lty34,lty23,lty36,lty40,lty98,lty96,lty93,lty95,lty54,lty38,lty31, lenv_mem, none1]
    refine hQ _ _ _ _ (.c (.bool true)) (by simp) ?_ rfl
    simp +decide -implicitDefEqProofs only [stp,code_seq,evWanted,evOp,val,absV,evBin,evConv,evBuiltin,cmpInt,vals,partsOf,isAggD,cellsOf,isAggV,Nat.reduceEqDiff,Nat.reduceLT,Nat.reduceBEq,Nat.reduceBNe,reduceCtorEq,if_true,if_false,reduceIte,forall_const,IntKind.bits,IntKind.signed,eq_self_iff_true,finalOf,resultOf,cellsGood,AC.isCell,senv_mem,lift, Tryz.f5]
  by_cases h3 : hi > 1114111
  · have h4 := t
    simp +decide -implicitDefEqProofs only [stp,code_seq,evWanted,evOp,val,absV,evBin,evConv,evBuiltin,cmpInt,vals,partsOf,isAggD,cellsOf,isAggV,Nat.reduceEqDiff,Nat.reduceLT,Nat.reduceBEq,Nat.reduceBNe,reduceCtorEq,if_true,if_false,reduceIte,forall_const,IntKind.bits,IntKind.signed,eq_self_iff_true,finalOf,resultOf,cellsGood,AC.isCell,senv_mem,lift, spliceAll,allFields,places,splice,List.take_zero,List.take_succ_cons,List.take_nil,List.drop_zero,List.drop_succ_cons,List.drop_nil,List.nil_append,List.append_nil,List.cons_append,List.all_cons,List.all_nil,Option.isSome_some,Nat.reduceAdd,Nat.reduceSub,Nat.reduceMul,Nat.reduceMod,Nat.reduceLeDiff,List.range,List.range.loop,List.map_cons,List.map_nil,pfind, Tryz.f5, lty3,lty4,lty5,lty9,lty22,lty33,lty25,lty34,lty23,lty36,lty40,lty98,lty96,lty93,lty95,lty54,lty38,lty31, lenv_mem, none1, h1, h2, h3, h4]
    refine call_mono (awake_ok d n) fun v d1 n1 hR hl1 hle1 hok1 => ?_
    obtain ⟨rfl, _⟩ := hR
    simp +decide -implicitDefEqProofs only [stp,code_seq,evWanted,evOp,val,absV,evBin,evConv,evBuiltin,cmpInt,vals,partsOf,isAggD,cellsOf,isAggV,Nat.reduceEqDiff,Nat.reduceLT,Nat.reduceBEq,Nat.reduceBNe,reduceCtorEq,if_true,if_false,reduceIte,forall_const,IntKind.bits,IntKind.signed,eq_self_iff_true,finalOf,resultOf,cellsGood,AC.isCell,senv_mem,lift, spliceAll,allFields,places,splice,List.take_zero,List.take_succ_cons,List.take_nil,List.drop_zero,List.drop_succ_cons,List.drop_nil,List.nil_append,List.append_nil,List.cons_append,List.all_cons,List.all_nil,Option.isSome_some,Nat.reduceAdd,Nat.reduceSub,Nat.reduceMul,Nat.reduceMod,Nat.reduceLeDiff,List.range,List.range.loop,List.map_cons,List.map_nil,pfind, lty3,lty4,lty5,lty9,lty22,lty33,lty25,lty34,lty23,lty36,lty40,lty98,lty96,lty93,lty95,lty54,lty38,lty31, lenv_mem, none1]
    refine hQ _ _ _ _ (.c (.bool true)) (by simp) ?_ rfl
    simp +decide -implicitDefEqProofs only [stp,code_seq,evWanted,evOp,val,absV,evBin,evConv,evBuiltin,cmpInt,vals,partsOf,isAggD,cellsOf,isAggV,Nat.reduceEqDiff,Nat.reduceLT,Nat.reduceBEq,Nat.reduceBNe,reduceCtorEq,if_true,if_false,reduceIte,forall_const,IntKind.bits,IntKind.signed,eq_self_iff_true,finalOf,resultOf,cellsGood,AC.isCell,senv_mem,lift, Tryz.f5]
  by_cases h4 : (s.length : Int) > 6
  · skip
    simp +decide -implicitDefEqProofs only [stp,code_seq,evWanted,evOp,val,absV,evBin,evConv,evBuiltin,cmpInt,vals,partsOf,isAggD,cellsOf,isAggV,Nat.reduceEqDiff,Nat.reduceLT,Nat.reduceBEq,Nat.reduceBNe,reduceCtorEq,if_true,if_false,reduceIte,forall_const,IntKind.bits,IntKind.signed,eq_self_iff_true,finalOf,resultOf,cellsGood,AC.isCell,senv_mem,lift, spliceAll,allFields,places,splice,List.take_zero,List.take_succ_cons,List.take_nil,List.drop_zero,List.drop_succ_cons,List.drop_nil,List.nil_append,List.append_nil,List.cons_append,List.all_cons,List.all_nil,Option.isSome_some,Nat.reduceAdd,Nat.reduceSub,Nat.reduceMul,Nat.reduceMod,Nat.reduceLeDiff,List.range,List.range.loop,List.map_cons,List.map_nil,pfind, Tryz.f5, lty3,lty4,lty5,lty9,lty22,lty33,lty25,lty34,lty23,lty36,lty40,lty98,lty96,lty93,lty95,lty54,lty38,lty31, lenv_mem, none1, h1, h2, h3, h4]
    refine call_mono (awake_ok d n) fun v d1 n1 hR hl1 hle1 hok1 => ?_
    obtain ⟨rfl, _⟩ := hR
    simp +decide -implicitDefEqProofs only [stp,code_seq,evWanted,evOp,val,absV,evBin,evConv,evBuiltin,cmpInt,vals,partsOf,isAggD,cellsOf,isAggV,Nat.reduceEqDiff,Nat.reduceLT,Nat.reduceBEq,Nat.reduceBNe,reduceCtorEq,if_true,if_false,reduceIte,forall_const,IntKind.bits,IntKind.signed,eq_self_iff_true,finalOf,resultOf,cellsGood,AC.isCell,senv_mem,lift, spliceAll,allFields,places,splice,List.take_zero,List.take_succ_cons,List.take_nil,List.drop_zero,List.drop_succ_cons,List.drop_nil,List.nil_append,List.append_nil,List.cons_append,List.all_cons,List.all_nil,Option.isSome_some,Nat.reduceAdd,Nat.reduceSub,Nat.reduceMul,Nat.reduceMod,Nat.reduceLeDiff,List.range,List.range.loop,List.map_cons,List.map_nil,pfind, lty3,lty4,lty5,lty9,lty22,lty33,lty25,lty34,lty23,lty36,lty40,lty98,lty96,lty93,lty95,lty54,lty38,lty31, lenv_mem, none1]
    refine hQ _ _ _ _ (.c (.bool true)) (by simp) ?_ rfl
    simp +decide -implicitDefEqProofs only [stp,code_seq,evWanted,evOp,val,absV,evBin,evConv,evBuiltin,cmpInt,vals,partsOf,isAggD,cellsOf,isAggV,Nat.reduceEqDiff,Nat.reduceLT,Nat.reduceBEq,Nat.reduceBNe,reduceCtorEq,if_true,if_false,reduceIte,forall_const,IntKind.bits,IntKind.signed,eq_self_iff_true,finalOf,resultOf,cellsGood,AC.isCell,senv_mem,lift, Tryz.f5]
  have e1 : ¬ n + 1 = n := by omega
  simp +decide -implicitDefEqProofs only [stp,code_seq,evWanted,evOp,val,absV,evBin,evConv,evBuiltin,cmpInt,vals,partsOf,isAggD,cellsOf,isAggV,Nat.reduceEqDiff,Nat.reduceLT,Nat.reduceBEq,Nat.reduceBNe,reduceCtorEq,if_true,if_false,reduceIte,forall_const,IntKind.bits,IntKind.signed,eq_self_iff_true,finalOf,resultOf,cellsGood,AC.isCell,senv_mem,lift, spliceAll,allFields,places,splice,List.take_zero,List.take_succ_cons,List.take_nil,List.drop_zero,List.drop_succ_cons,List.drop_nil,List.nil_append,List.append_nil,List.cons_append,List.all_cons,List.all_nil,Option.isSome_some,Nat.reduceAdd,Nat.reduceSub,Nat.reduceMul,Nat.reduceMod,Nat.reduceLeDiff,List.range,List.range.loop,List.map_cons,List.map_nil,pfind, Tryz.f5, lty3,lty4,lty5,lty9,lty22,lty33,lty25,lty34,lty23,lty36,lty40,lty98,lty96,lty93,lty95,lty54,lty38,lty31, lenv_mem, none1, h1, h2, h3, h4]
  obtain ⟨D, hD⟩ : ∃ D, (n + 1 + 1 + 1, some (AObj.cells 40 [.str [97], .int .i64 7, .str [], .sl n 2, .int .i64 0, .int .i64 0, .sl0, .str [98], .int .i64 6, .str [], .sl (n + 1) 2, .int .i64 0, .int .i64 0, .sl0, .str [99], .int .i64 3, .str [], .sl0, .int .i64 0, .int .i64 (-1), .sl (n + 1 + 1) 1])) ::
      (n + 1 + 1, some (AObj.cells 36 [.int .i64 4, .str [97], .sl0, .int .i64 0, .int .i64 0, .sl0])) :: (n + 1, some (AObj.cells 3 [.int .i64 lo, .int .i64 hi])) :: (n, some (AObj.cells 3 [.int .i64 lo, .int .i64 hi])) :: d = D := ⟨_, rfl⟩
  have hgr : isRules [D] (.sl (n + 1 + 1 + 1) 3) (spanGram lo hi) = true := by
    rw [← hD]
    have e2 : ¬ n + 1 + 1 = n := by omega
    have e3 : ¬ n + 1 + 1 + 1 = n := by omega
    have e4 : ¬ n + 1 + 1 + 1 = n + 1 := by omega
    have e5 : ¬ n + 1 + 1 = n + 1 := by omega
    simp [e1, e2, e3, e4, e5, isRules, isRus, isEx, isKids, isInts, isIntsC, spanGram, get_cons, sameBytes]
  have hL1 : Live ((n, some (AObj.cells 3 [.int .i64 lo, .int .i64 hi])) :: d) (n + 1) := hl.cons (by omega) (by omega) (by simp [AObj.ok, AC.ok])
  have hL2 := hL1.cons (j := n + 1) (m := n + 1 + 1) (o := .cells 3 [.int .i64 lo, .int .i64 hi]) (by omega) (by omega) (by simp [AObj.ok, AC.ok])
  have hL3 := hL2.cons (j := n + 1 + 1) (m := n + 1 + 1 + 1) (o := .cells 36 [.int .i64 4, .str [97], .sl0, .int .i64 0, .int .i64 0, .sl0]) (by omega) (by omega) (by simp [AObj.ok, AC.ok])
  have hL4 := hL3.cons (j := n + 1 + 1 + 1) (m := n + 1 + 1 + 1 + 1) (o := .cells 40 [.str [97], .int .i64 7, .str [], .sl n 2, .int .i64 0, .int .i64 0, .sl0, .str [98], .int .i64 6, .str [], .sl (n + 1) 2, .int .i64 0, .int .i64 0, .sl0, .str [99], .int .i64 3, .str [], .sl0, .int .i64 0, .int .i64 (-1), .sl (n + 1 + 1) 1]) (by omega) (by omega) (by simp [AObj.ok, AC.ok]; omega)
  rw [hD] at hL4 ⊢
  refine call_mono (awake_ok D (n + 1 + 1 + 1 + 1)) fun v d1 n1 hR hl1 hle1 hok1 => ?_
  obtain ⟨rfl, hk1⟩ := hR
  have hr1 := isRules_keep hL4 hk1 hgr
  simp +decide -implicitDefEqProofs only [stp,code_seq,evWanted,evOp,val,absV,evBin,evConv,evBuiltin,cmpInt,vals,partsOf,isAggD,cellsOf,isAggV,Nat.reduceEqDiff,Nat.reduceLT,Nat.reduceBEq,Nat.reduceBNe,reduceCtorEq,if_true,if_false,reduceIte,forall_const,IntKind.bits,IntKind.signed,eq_self_iff_true,finalOf,resultOf,cellsGood,AC.isCell,senv_mem,lift, spliceAll,allFields,places,splice,List.take_zero,List.take_succ_cons,List.take_nil,List.drop_zero,List.drop_succ_cons,List.drop_nil,List.nil_append,List.append_nil,List.cons_append,List.all_cons,List.all_nil,Option.isSome_some,Nat.reduceAdd,Nat.reduceSub,Nat.reduceMul,Nat.reduceMod,Nat.reduceLeDiff,List.range,List.range.loop,List.map_cons,List.map_nil,pfind, lty3,lty4,lty5,lty9,lty22,lty33,lty25,lty34,lty23,lty36,lty40,lty98,lty96,lty93,lty95,lty54,lty38,lty31, lenv_mem, none1]
  refine call_mono (l_fine (NM := [[45], [97], [98], [99]]) hr1 (show 3 < 1000 by decide) (spanGram_wf lo hi) (by simp [spanGram]) (by simp) rfl (by omega) (by decide)) fun v d2 n2 hR hl2 hle2 hok2 => ?_
  subst hR
  simp +decide -implicitDefEqProofs only [stp,code_seq,evWanted,evOp,val,absV,evBin,evConv,evBuiltin,cmpInt,vals,partsOf,isAggD,cellsOf,isAggV,Nat.reduceEqDiff,Nat.reduceLT,Nat.reduceBEq,Nat.reduceBNe,reduceCtorEq,if_true,if_false,reduceIte,forall_const,IntKind.bits,IntKind.signed,eq_self_iff_true,finalOf,resultOf,cellsGood,AC.isCell,senv_mem,lift, spliceAll,allFields,places,splice,List.take_zero,List.take_succ_cons,List.take_nil,List.drop_zero,List.drop_succ_cons,List.drop_nil,List.nil_append,List.append_nil,List.cons_append,List.all_cons,List.all_nil,Option.isSome_some,Nat.reduceAdd,Nat.reduceSub,Nat.reduceMul,Nat.reduceMod,Nat.reduceLeDiff,List.range,List.range.loop,List.map_cons,List.map_nil,pfind, lty3,lty4,lty5,lty9,lty22,lty33,lty25,lty34,lty23,lty36,lty40,lty98,lty96,lty93,lty95,lty54,lty38,lty31, lenv_mem, none1]
  refine hQ _ _ _ _ (.c (.bool true)) (by simp) ?_ rfl
  simp +decide -implicitDefEqProofs only [stp,code_seq,evWanted,evOp,val,absV,evBin,evConv,evBuiltin,cmpInt,vals,partsOf,isAggD,cellsOf,isAggV,Nat.reduceEqDiff,Nat.reduceLT,Nat.reduceBEq,Nat.reduceBNe,reduceCtorEq,if_true,if_false,reduceIte,forall_const,IntKind.bits,IntKind.signed,eq_self_iff_true,finalOf,resultOf,cellsGood,AC.isCell,senv_mem,lift, Tryz.f5]

theorem senseSpans_calls (lo hi : Int) (s : List UInt8) (utf : Bool) (w : World) : Calls Tryz.prog 5 #[.int .i64 lo, .int .i64 hi, .string ⟨s.toArray⟩, .bool utf] w fun e w' => e = .returned (.bool true) ∧ Below w.heap.size w w' := by
  have h := calls_of_abs (E := lenv fun _ _ => none) (w := w) (fun b o v hv => by cases hv) (by simp [AV.ok, AC.ok]) (senseSpans_abs (B0 := w.heap.size) lo hi s utf [] 0)
  refine h.mono ?_
  rintro e w' ⟨v, d, n, al, ρ, rfl, hrep, hb, hok, rfl⟩
  exact ⟨rfl, hb⟩

end Go.Proofs.YtdpielghjaehbaaGreat.Ev
