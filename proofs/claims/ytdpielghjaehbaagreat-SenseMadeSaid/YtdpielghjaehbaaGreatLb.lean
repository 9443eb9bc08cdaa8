/- regletlaw06.awake: true. -/
import Derived.Test.YtdpielghjaehbaaGreatLa
import Derived.Test.YtdpielghjaehbaaGreatAw
import Derived.Test.YtdpielghjaehbaaGreatTxawake
set_option linter.unusedSectionVars false
set_option linter.unusedSimpArgs false
set_option linter.unusedVariables false
namespace Go.Proofs.YtdpielghjaehbaaGreat.Ev
open Go.RowKit

variable {mem : Nat → Nat → Option Value} {B0 : Nat}

theorem isRules_sl {d : Seg} {x : AC} {g : List Ru} (h : isRules [d] x g = true) (hg : g ≠ []) : ∃ i, x = .sl i g.length := by
  unfold isRules at h
  split at h
  · exact absurd (List.isEmpty_iff.1 h) hg
  · rename_i i len
    simp only [Bool.and_eq_true, beq_iff_eq] at h
    exact ⟨i, by rw [h.1]⟩
  · cases h

set_option maxRecDepth 20000 in
set_option maxHeartbeats 2000000 in
theorem awake_ok (d : Seg) (n : Nat) : CallsA Tryz.prog (lenv mem) B0 8 [] d n fun v d' n' => v = .c (.bool true) ∧ Keeps d n d' := by
  refine callsA_code lenv_ok none1_ok Tryz.func8 rfl (by decide) rfl rfl (by simp) fun hl _ Q hQ => ?_
  have hwf : ∀ r ∈ gram_awake, wfEx [[97], [98]] r.ex = true := by
    intro r hr
    simp only [gram_awake, List.mem_cons, List.not_mem_nil, or_false] at hr
    rcases hr with rfl | rfl <;> rfl
  simp +decide -implicitDefEqProofs only [stp,code_seq,evWanted,evOp,val,absV,evBin,evConv,evBuiltin,cmpInt,vals,partsOf,isAggD,cellsOf,isAggV,Nat.reduceEqDiff,Nat.reduceLT,Nat.reduceBEq,Nat.reduceBNe,reduceCtorEq,if_true,if_false,reduceIte,forall_const,IntKind.bits,IntKind.signed,eq_self_iff_true,finalOf,resultOf,cellsGood,AC.isCell,senv_mem,lift, Tryz.f8, lty3,lty4,lty5,lty9,lty22,lty33,lty25,lty34,lty23,lty36,lty40,lty98,lty96,lty93,lty95,lty54,lty38,lty31, lenv_mem, none1]
  refine call_mono (l_read (text := text_awake) run_awake d n) fun v d1 n1 hR hl1 hle1 hok1 => ?_
  obtain ⟨x, rfl, hr1, _, hk1⟩ := hR
  obtain ⟨gi, rfl⟩ := isRules_sl hr1 (by simp [gram_awake])
  have hlen : gram_awake.length = 2 := rfl
  rw [hlen] at hr1 ⊢
  have h22 : (((2 : Nat) : Int) == 2) = true := rfl
  simp +decide -implicitDefEqProofs only [stp,code_seq,evWanted,evOp,val,absV,evBin,evConv,evBuiltin,cmpInt,vals,partsOf,isAggD,cellsOf,isAggV,Nat.reduceEqDiff,Nat.reduceLT,Nat.reduceBEq,Nat.reduceBNe,reduceCtorEq,if_true,if_false,reduceIte,forall_const,IntKind.bits,IntKind.signed,eq_self_iff_true,finalOf,resultOf,cellsGood,AC.isCell,senv_mem,lift, lty3,lty4,lty5,lty9,lty22,lty33,lty25,lty34,lty23,lty36,lty40,lty98,lty96,lty93,lty95,lty54,lty38,lty31, lenv_mem, none1, h22]
  refine call_mono (l_ends (NM := [[97], [98]]) (name := [97]) (s := [120, 88, 121]) (utf := false) hr1 (by decide) hwf (by decide) (by decide) (by decide)) fun v d2 n2 hR hl2 hle2 hok2 => ?_
  obtain ⟨l, y, he, hk2, _, rfl, hi2⟩ := hR
  rw [endsAre_eq he [1, 2] (by decide) awake_a] at hi2
  simp +decide -implicitDefEqProofs only [stp,code_seq,evWanted,evOp,val,absV,evBin,evConv,evBuiltin,cmpInt,vals,partsOf,isAggD,cellsOf,isAggV,Nat.reduceEqDiff,Nat.reduceLT,Nat.reduceBEq,Nat.reduceBNe,reduceCtorEq,if_true,if_false,reduceIte,forall_const,IntKind.bits,IntKind.signed,eq_self_iff_true,finalOf,resultOf,cellsGood,AC.isCell,senv_mem,lift, lty3,lty4,lty5,lty9,lty22,lty33,lty25,lty34,lty23,lty36,lty40,lty98,lty96,lty93,lty95,lty54,lty38,lty31, lenv_mem, none1, spliceAll,allFields,places,splice,List.take_zero,List.take_succ_cons,List.take_nil,List.drop_zero,List.drop_succ_cons,List.drop_nil,List.nil_append,List.append_nil,List.cons_append,List.all_cons,List.all_nil,Option.isSome_some,Nat.reduceAdd,Nat.reduceSub,Nat.reduceMul,Nat.reduceMod,Nat.reduceLeDiff,List.range,List.range.loop,List.map_cons,List.map_nil,pfind]
  have hi2' : IntIn ((n2, some (.cells 3 [.int .i64 1, .int .i64 2])) :: d2) y [1, 2] := hi2.keep hl2 ((Keeps.refl _ _).cons (Nat.le_refl _))
  have hj2 : IntIn ((n2, some (.cells 3 [.int .i64 1, .int .i64 2])) :: d2) (.sl n2 2) [1, 2] := .inr ⟨by simp, n2, rfl, by rw [get_cons, if_pos rfl]; rfl⟩
  refine call_mono (l_same hi2' hj2 (by decide)) fun v d3 n3 hR hl3 hle3 hok3 => ?_
  obtain ⟨hk3, rfl⟩ := hR
  have hkd3 : Keeps d n d3 := (hk1.trans hk2 hle1).trans (((Keeps.refl _ _).cons (Nat.le_refl _)).trans hk3 (by omega)) (by omega)
  have hr3 := isRules_keep hl2 (((Keeps.refl _ _).cons (Nat.le_refl _)).trans hk3 (by omega)) (isRules_keep hl1 hk2 hr1)
  clear hi2 hi2' hj2 hk3
  simp +decide -implicitDefEqProofs only [stp,code_seq,evWanted,evOp,val,absV,evBin,evConv,evBuiltin,cmpInt,vals,partsOf,isAggD,cellsOf,isAggV,Nat.reduceEqDiff,Nat.reduceLT,Nat.reduceBEq,Nat.reduceBNe,reduceCtorEq,if_true,if_false,reduceIte,forall_const,IntKind.bits,IntKind.signed,eq_self_iff_true,finalOf,resultOf,cellsGood,AC.isCell,senv_mem,lift, lty3,lty4,lty5,lty9,lty22,lty33,lty25,lty34,lty23,lty36,lty40,lty98,lty96,lty93,lty95,lty54,lty38,lty31, lenv_mem, none1, spliceAll,allFields,places,splice,List.take_zero,List.take_succ_cons,List.take_nil,List.drop_zero,List.drop_succ_cons,List.drop_nil,List.nil_append,List.append_nil,List.cons_append,List.all_cons,List.all_nil,Option.isSome_some,Nat.reduceAdd,Nat.reduceSub,Nat.reduceMul,Nat.reduceMod,Nat.reduceLeDiff,List.range,List.range.loop,List.map_cons,List.map_nil,pfind]
  refine call_mono (l_ends (NM := [[97], [98]]) (name := [98]) (s := [195, 169]) (utf := true) hr3 (by decide) hwf (by decide) (by decide) (by decide)) fun v d4 n4 hR hl4 hle4 hok4 => ?_
  obtain ⟨l, y, he, hk4, _, rfl, hi4⟩ := hR
  rw [endsAre_eq he [2] (by decide) awake_b] at hi4
  simp +decide -implicitDefEqProofs only [stp,code_seq,evWanted,evOp,val,absV,evBin,evConv,evBuiltin,cmpInt,vals,partsOf,isAggD,cellsOf,isAggV,Nat.reduceEqDiff,Nat.reduceLT,Nat.reduceBEq,Nat.reduceBNe,reduceCtorEq,if_true,if_false,reduceIte,forall_const,IntKind.bits,IntKind.signed,eq_self_iff_true,finalOf,resultOf,cellsGood,AC.isCell,senv_mem,lift, lty3,lty4,lty5,lty9,lty22,lty33,lty25,lty34,lty23,lty36,lty40,lty98,lty96,lty93,lty95,lty54,lty38,lty31, lenv_mem, none1, spliceAll,allFields,places,splice,List.take_zero,List.take_succ_cons,List.take_nil,List.drop_zero,List.drop_succ_cons,List.drop_nil,List.nil_append,List.append_nil,List.cons_append,List.all_cons,List.all_nil,Option.isSome_some,Nat.reduceAdd,Nat.reduceSub,Nat.reduceMul,Nat.reduceMod,Nat.reduceLeDiff,List.range,List.range.loop,List.map_cons,List.map_nil,pfind]
  have hi4' : IntIn ((n4, some (.cells 3 [.int .i64 2])) :: d4) y [2] := hi4.keep hl4 ((Keeps.refl _ _).cons (Nat.le_refl _))
  have hj4 : IntIn ((n4, some (.cells 3 [.int .i64 2])) :: d4) (.sl n4 1) [2] := .inr ⟨by simp, n4, rfl, by rw [get_cons, if_pos rfl]; rfl⟩
  refine call_mono (l_same hi4' hj4 (by decide)) fun v d5 n5 hR hl5 hle5 hok5 => ?_
  obtain ⟨hk5, rfl⟩ := hR
  have hkd5 : Keeps d n d5 := (hkd3.trans hk4 (by omega)).trans (((Keeps.refl _ _).cons (Nat.le_refl _)).trans hk5 (by omega)) (by omega)
  have hr5 := isRules_keep hl4 (((Keeps.refl _ _).cons (Nat.le_refl _)).trans hk5 (by omega)) (isRules_keep hl3 hk4 hr3)
  clear hi4 hi4' hj4 hk5
  simp +decide -implicitDefEqProofs only [stp,code_seq,evWanted,evOp,val,absV,evBin,evConv,evBuiltin,cmpInt,vals,partsOf,isAggD,cellsOf,isAggV,Nat.reduceEqDiff,Nat.reduceLT,Nat.reduceBEq,Nat.reduceBNe,reduceCtorEq,if_true,if_false,reduceIte,forall_const,IntKind.bits,IntKind.signed,eq_self_iff_true,finalOf,resultOf,cellsGood,AC.isCell,senv_mem,lift, lty3,lty4,lty5,lty9,lty22,lty33,lty25,lty34,lty23,lty36,lty40,lty98,lty96,lty93,lty95,lty54,lty38,lty31, lenv_mem, none1, spliceAll,allFields,places,splice,List.take_zero,List.take_succ_cons,List.take_nil,List.drop_zero,List.drop_succ_cons,List.drop_nil,List.nil_append,List.append_nil,List.cons_append,List.all_cons,List.all_nil,Option.isSome_some,Nat.reduceAdd,Nat.reduceSub,Nat.reduceMul,Nat.reduceMod,Nat.reduceLeDiff,List.range,List.range.loop,List.map_cons,List.map_nil,pfind]
  refine call_mono (l_ends (NM := [[97], [98]]) (name := [98]) (s := [195, 169]) (utf := false) hr5 (by decide) hwf (by decide) (by decide) (by decide)) fun v d6 n6 hR hl6 hle6 hok6 => ?_
  obtain ⟨l, y, he, hk6, _, rfl, hi6⟩ := hR
  rw [endsAre_eq he [] (by decide) awake_c] at hi6
  have hy6 := intIn_nil hi6
  subst hy6
  clear hi6
  have hkd6 : Keeps d n d6 := hkd5.trans hk6 (by omega)
  simp +decide -implicitDefEqProofs only [stp,code_seq,evWanted,evOp,val,absV,evBin,evConv,evBuiltin,cmpInt,vals,partsOf,isAggD,cellsOf,isAggV,Nat.reduceEqDiff,Nat.reduceLT,Nat.reduceBEq,Nat.reduceBNe,reduceCtorEq,if_true,if_false,reduceIte,forall_const,IntKind.bits,IntKind.signed,eq_self_iff_true,finalOf,resultOf,cellsGood,AC.isCell,senv_mem,lift, lty3,lty4,lty5,lty9,lty22,lty33,lty25,lty34,lty23,lty36,lty40,lty98,lty96,lty93,lty95,lty54,lty38,lty31, lenv_mem, none1, spliceAll,allFields,places,splice,List.take_zero,List.take_succ_cons,List.take_nil,List.drop_zero,List.drop_succ_cons,List.drop_nil,List.nil_append,List.append_nil,List.cons_append,List.all_cons,List.all_nil,Option.isSome_some,Nat.reduceAdd,Nat.reduceSub,Nat.reduceMul,Nat.reduceMod,Nat.reduceLeDiff,List.range,List.range.loop,List.map_cons,List.map_nil,pfind]
  refine call_mono (l_bytes 200 false d6 n6) fun v d7 n7 hR hl7 hle7 hok7 => ?_
  obtain ⟨y, hk7, _, rfl, hi7⟩ := hR
  have h200 : senseBytes 200 false = [200] := by rw [senseBytes, if_neg (by simp), if_pos ⟨by decide, by decide⟩]
  rw [h200] at hi7
  simp +decide -implicitDefEqProofs only [stp,code_seq,evWanted,evOp,val,absV,evBin,evConv,evBuiltin,cmpInt,vals,partsOf,isAggD,cellsOf,isAggV,Nat.reduceEqDiff,Nat.reduceLT,Nat.reduceBEq,Nat.reduceBNe,reduceCtorEq,if_true,if_false,reduceIte,forall_const,IntKind.bits,IntKind.signed,eq_self_iff_true,finalOf,resultOf,cellsGood,AC.isCell,senv_mem,lift, lty3,lty4,lty5,lty9,lty22,lty33,lty25,lty34,lty23,lty36,lty40,lty98,lty96,lty93,lty95,lty54,lty38,lty31, lenv_mem, none1, spliceAll,allFields,places,splice,List.take_zero,List.take_succ_cons,List.take_nil,List.drop_zero,List.drop_succ_cons,List.drop_nil,List.nil_append,List.append_nil,List.cons_append,List.all_cons,List.all_nil,Option.isSome_some,Nat.reduceAdd,Nat.reduceSub,Nat.reduceMul,Nat.reduceMod,Nat.reduceLeDiff,List.range,List.range.loop,List.map_cons,List.map_nil,pfind]
  have hi7' : IntIn ((n7, some (.cells 3 [.int .i64 200])) :: d7) y [200] := hi7.keep hl7 ((Keeps.refl _ _).cons (Nat.le_refl _))
  have hj7 : IntIn ((n7, some (.cells 3 [.int .i64 200])) :: d7) (.sl n7 1) [200] := .inr ⟨by simp, n7, rfl, by rw [get_cons, if_pos rfl]; rfl⟩
  refine call_mono (l_same hi7' hj7 (by decide)) fun v d8 n8 hR hl8 hle8 hok8 => ?_
  obtain ⟨hk8, rfl⟩ := hR
  have hkd8 : Keeps d n d8 := (hkd6.trans hk7 (by omega)).trans (((Keeps.refl _ _).cons (Nat.le_refl _)).trans hk8 (by omega)) (by omega)
  clear hi7 hi7' hj7 hk8
  simp +decide -implicitDefEqProofs only [stp,code_seq,evWanted,evOp,val,absV,evBin,evConv,evBuiltin,cmpInt,vals,partsOf,isAggD,cellsOf,isAggV,Nat.reduceEqDiff,Nat.reduceLT,Nat.reduceBEq,Nat.reduceBNe,reduceCtorEq,if_true,if_false,reduceIte,forall_const,IntKind.bits,IntKind.signed,eq_self_iff_true,finalOf,resultOf,cellsGood,AC.isCell,senv_mem,lift, lty3,lty4,lty5,lty9,lty22,lty33,lty25,lty34,lty23,lty36,lty40,lty98,lty96,lty93,lty95,lty54,lty38,lty31, lenv_mem, none1, spliceAll,allFields,places,splice,List.take_zero,List.take_succ_cons,List.take_nil,List.drop_zero,List.drop_succ_cons,List.drop_nil,List.nil_append,List.append_nil,List.cons_append,List.all_cons,List.all_nil,Option.isSome_some,Nat.reduceAdd,Nat.reduceSub,Nat.reduceMul,Nat.reduceMod,Nat.reduceLeDiff,List.range,List.range.loop,List.map_cons,List.map_nil,pfind]
  refine call_mono (l_bytes 256 false d8 n8) fun v d9 n9 hR hl9 hle9 hok9 => ?_
  obtain ⟨y, hk9, _, rfl, hi9⟩ := hR
  have h256 : senseBytes 256 false = [] := by rw [senseBytes, if_neg (by simp), if_neg (by decide)]
  rw [h256] at hi9
  have hy9 := intIn_nil hi9
  subst hy9
  simp +decide -implicitDefEqProofs only [stp,code_seq,evWanted,evOp,val,absV,evBin,evConv,evBuiltin,cmpInt,vals,partsOf,isAggD,cellsOf,isAggV,Nat.reduceEqDiff,Nat.reduceLT,Nat.reduceBEq,Nat.reduceBNe,reduceCtorEq,if_true,if_false,reduceIte,forall_const,IntKind.bits,IntKind.signed,eq_self_iff_true,finalOf,resultOf,cellsGood,AC.isCell,senv_mem,lift, lty3,lty4,lty5,lty9,lty22,lty33,lty25,lty34,lty23,lty36,lty40,lty98,lty96,lty93,lty95,lty54,lty38,lty31, lenv_mem, none1, spliceAll,allFields,places,splice,List.take_zero,List.take_succ_cons,List.take_nil,List.drop_zero,List.drop_succ_cons,List.drop_nil,List.nil_append,List.append_nil,List.cons_append,List.all_cons,List.all_nil,Option.isSome_some,Nat.reduceAdd,Nat.reduceSub,Nat.reduceMul,Nat.reduceMod,Nat.reduceLeDiff,List.range,List.range.loop,List.map_cons,List.map_nil,pfind]
  refine hQ _ _ _ _ (.c (.bool true)) (by simp) ?_ ⟨rfl, hkd8.trans hk9 (by omega)⟩
  simp +decide -implicitDefEqProofs only [stp,code_seq,evWanted,evOp,val,absV,evBin,evConv,evBuiltin,cmpInt,vals,partsOf,isAggD,cellsOf,isAggV,Nat.reduceEqDiff,Nat.reduceLT,Nat.reduceBEq,Nat.reduceBNe,reduceCtorEq,if_true,if_false,reduceIte,forall_const,IntKind.bits,IntKind.signed,eq_self_iff_true,finalOf,resultOf,cellsGood,AC.isCell,senv_mem,lift, Tryz.f8]

end Go.Proofs.YtdpielghjaehbaaGreat.Ev
